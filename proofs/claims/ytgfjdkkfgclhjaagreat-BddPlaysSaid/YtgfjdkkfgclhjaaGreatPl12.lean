/- What the claim leans on, part 12 of 13: FF KP0. -/
import Derived.ChangeMaps5
import Derived.Deep.Grids
import Derived.Deep.Slices
import Derived.HandedShaped
import Derived.OpenShut
import Derived.ProofKit
import Derived.SizedLaws
import Derived.Test.YtgfjdkkfgclhjaaGreatPl01
import Derived.Test.YtgfjdkkfgclhjaaGreatPl02
import Derived.Test.YtgfjdkkfgclhjaaGreatPl03
import Derived.Test.YtgfjdkkfgclhjaaGreatPl04
import Derived.Test.YtgfjdkkfgclhjaaGreatPl05
import Derived.Test.YtgfjdkkfgclhjaaGreatPl06
import Derived.Test.YtgfjdkkfgclhjaaGreatPl07
import Derived.Test.YtgfjdkkfgclhjaaGreatPl08
import Derived.Test.YtgfjdkkfgclhjaaGreatPl09
import Derived.Test.YtgfjdkkfgclhjaaGreatPl10
import Derived.Test.YtgfjdkkfgclhjaaGreatPl11
import Derived.Test.YtgfjdkkfgclhjaaGreatRows
/- BddPlays, walked. -/
namespace Go.Proofs.YtgfjdkkfgclhjaaGreat.Bd
open Go.RowKit Go.Proofs.YtgfjdkkfgclhjaaGreat Go.Proofs.YtgfjdkkfgclhjaaGreat.Lx Go.Maps

theorem src_spot9 {x : World} {A : Option Addr} {n c size : Nat} {xs : List Value} (h : Src x A n c size xs) (hn : 1 ≤ n) (hs : 1 ≤ size) : ∃ b o, A = some ⟨b, o, none⟩ := by
  obtain ⟨hl, ⟨_, h2, _⟩ | ⟨ad, rfl, h3⟩⟩ := h
  · omega
  · have hp : 0 < xs.length := by rw [hl]; exact Nat.mul_pos hn hs
    have := World.cell?_spot (h3 0 xs[0] (List.getElem?_eq_getElem hp))
    obtain ⟨b, o, s⟩ := ad
    cases this
    exact ⟨b, o, rfl⟩
theorem src_cells9 {x : World} {b o n c size : Nat} {xs : List Value} (h : Src x (some ⟨b, o, none⟩) n c size xs) : ∀ j u, xs[j]? = some u → x.cell? ⟨b, o + j, none⟩ = some u := by
  intro j u hj
  obtain ⟨_, ⟨h1, _⟩ | ⟨ad, h1, h3⟩⟩ := h
  · cases h1
  · cases h1
    have := h3 j u hj
    rwa [Addr.add_lit] at this
theorem own_empty9 (w : World) (e : TypeId) : (w.alloc (.cells #[] e)).ownsRow w.heap.size e 1 (.slice (some ⟨w.heap.size, 0, none⟩) 0 0) 0 [] :=
  ⟨rfl, .inr ⟨w.heap.size, 0, #[], rfl, Nat.le_refl _, heap_new w _, Nat.le_refl _, Nat.zero_le _, rfl, rfl⟩⟩
section
variable {D : Nat → Array Value → TypeId → Prop} {B : Nat} {w w' : World} {pp : Nat} {k : Blk} {s : St} {n ms : Nat} {ns : List Nat} {Vn : Value} {ts : List Tb} {vs : List Value} {Vt : Value} {Hs : List Tb} {Vh : Value}
theorem PlM.weak (h : PlM D B w pp k s n ms ns Vn ts vs Vt Hs Vh) : PlM NoD B w pp k s n ms ns Vn ts vs Vt Hs Vh := ⟨h.h, h.nodes, h.tabs, h.held, h.ar, h.lo, h.fpl, fun _ _ _ d => d.elim⟩
theorem PlM.far {bx j : Nat} {cs : Array Value} {u : Value} (h : PlM NoD B w pp k s n ms ns Vn ts vs Vt Hs Vh) (hx : w.heap[bx]? = some (.cells cs 39 (0, 0))) : PlM NoD B (w.setCell ⟨bx, j, none⟩ u) pp k s n ms ns Vn ts vs Vt Hs Vh :=
  ⟨heap_far h.h (heap_ne h.h hx (by decide)), own_kept h.nodes grown_set (fun g e => by cases e; exact own_ne_row h.nodes hx (by decide)), ⟨own_kept h.tabs.own grown_set (fun g e => by cases e; exact own_ne_row h.tabs.own hx (by decide)), h.tabs.tv.to (Bools.grown grown_set (fun b hb => by cases hb; exact ⟨_, _, hx, by decide⟩))⟩, own_kept h.held grown_set (fun g e => by cases e; exact own_ne_row h.held hx (by decide)), h.ar.kept grown_set (fun b hb => by cases hb; exact fp_type h.ar hx (by decide) (by decide)), h.lo, h.fpl, fun _ _ _ d => d.elim⟩
theorem row_pass {base m : Nat} {V : Value} {xs : List Value} (ho : w.ownsRow base 3 1 V m xs) (hp : ∀ g cs, V.ownBlock = some g → w.heap[g]? = some (.cells cs 3 (0, 0)) → w'.heap[g]? = some (.cells cs 3 (0, 0))) : w'.ownsRow base 3 1 V m xs := by
  rcases ho.2 with ⟨rfl, hz⟩ | ⟨g, c, cur, rfl, q1, q2, q3, q4, q5, q6⟩
  · exact ⟨ho.1, .inl ⟨rfl, hz⟩⟩
  · exact ⟨ho.1, .inr ⟨g, c, cur, rfl, q1, hp g cur rfl q2, q3, q4, q5, q6⟩⟩
/-- an act's block and its row of numbers pass through the play's hands -/
def Pass (w : World) (bx : Nat) (Cx : Array Value) (V : Value) : Nat → Array Value → TypeId → Prop := fun g cs t => (g = bx ∧ cs = Cx ∧ t = 39) ∨ (V.ownBlock = some g ∧ w.heap[g]? = some (.cells cs t (0, 0)) ∧ t = 3)
theorem PlM.pass {bx base m : Nat} {Cx : Array Value} {V : Value} {xs : List Value} (h : PlM NoD B w pp k s n ms ns Vn ts vs Vt Hs Vh) (hx : w.heap[bx]? = some (.cells Cx 39 (0, 0))) (ho : w.ownsRow base 3 1 V m xs) (hlt : ∀ g, Vn.ownBlock = some g → g < base) : PlM (Pass w bx Cx V) B w pp k s n ms ns Vn ts vs Vt Hs Vh := by
  refine ⟨h.h, h.nodes, h.tabs, h.held, h.ar, h.lo, h.fpl, fun g cs t d => ?_⟩
  rcases d with ⟨rfl, rfl, rfl⟩ | ⟨h1, h2, rfl⟩
  · exact ⟨hx, by decide, own_ne_row h.nodes hx (by decide)⟩
  · refine ⟨h2, by decide, fun e => ?_⟩
    have a := hlt g e
    have b := (ho.lt g h1).1
    omega
theorem PlM.passed {bx base m : Nat} {Cx : Array Value} {V : Value} {xs : List Value} {w0 : World} (h : PlM (Pass w0 bx Cx V) B w pp k s n ms ns Vn ts vs Vt Hs Vh) (ho : w0.ownsRow base 3 1 V m xs) : w.heap[bx]? = some (.cells Cx 39 (0, 0)) ∧ w.ownsRow base 3 1 V m xs :=
  ⟨(h.ps bx Cx _ (.inl ⟨rfl, rfl, rfl⟩)).1, row_pass ho (fun g cs e hc => (h.ps g cs _ (.inr ⟨e, hc, rfl⟩)).1)⟩
end
/-- what holds between two acts -/
def Rnd (n ms : Nat) (w0 : World) (pp i : Nat) (wr : World) : Prop := ∃ k s ns Vn ts vs Vt Hs Vh Fs, PlM NoD w0.heap.size wr pp k s n ms ns Vn ts vs Vt Hs Vh ∧ Pl s n ms i Fs ns ts Hs ∧ Live wr k s ∧ Below w0.heap.size w0 wr
set_option maxHeartbeats 8000000 in
set_option maxRecDepth 100000 in
theorem plays_any (v ms0 : Int) (A : Option Addr) (c : Nat) (xs : List AV) (w : World) (hm64 : I64 ms0) (hS : Src w A xs.length c 9 (xs.flatMap AV.cells)) (hln : xs.length ≤ maxLen) (hx : ∀ x ∈ xs, x.ok w.heap.size w) :
    Calls Tryz.prog 3 #[.int .i64 v, .int .i64 ms0, .slice A xs.length c] w fun e w' => e = .returned (.bool true) ∧ Below w.heap.size w w' := by
  obtain ⟨n, hn, hmod⟩ := mod7 v
  obtain ⟨ii, hi1, iz, is, ib⟩ := info_at infoInt
  have HS := hide hS
  have HX := hide hx
  unfold maxLen at hln
  clear hS hx
  by_cases hbad : ms0 < 0 ∨ 4194304 < ms0
  · have HNW : Hid (Calls Tryz.prog 4 #[.int .i64 (n : Int), .int .i64 ms0] w fun e w' => e = .returned (.tuple #[.pointer none, .int .i64 1]) ∧ w' = w) := hide (by
      by_cases h0 : ms0 < 0
      · exact new_neg n ms0 w (by omega) (by omega) h0
      · exact new_bad n ms0 w (.inr (.inr (hbad.resolve_left h0))) (by omega))
    have HBAD := hide hbad
    clear hbad
    go_enter Tryz.func3, Tryz.ntmps3
    go_wp2_with fail
    refine HNW.out.mono ?_
    rintro e w1 ⟨rfl, hw⟩
    subst w1
    by_cases h0 : ms0 < 0
    · have d1 : decide (ms0 < 0) = true := decide_eq_true h0
      clear h0
      go_wp2_with fail
      go_ret
      exact ⟨rfl, Below.refl _ _⟩
    · have d1 : decide (ms0 < 0) = false := decide_eq_false h0
      have d2 : decide ((4194304 : Int) < ms0) = true := decide_eq_true (HBAD.out.resolve_left h0)
      clear h0
      go_wp2_with fail
      go_ret
      exact ⟨rfl, Below.refl _ _⟩
  obtain ⟨ms, rfl⟩ : ∃ ms : Nat, ms0 = (ms : Int) := ⟨ms0.toNat, by omega⟩
  have hms : ms ≤ 4194304 := by omega
  have d1 : decide ((ms : Int) < 0) = false := decide_eq_false (by omega)
  have d2 : decide ((4194304 : Int) < (ms : Int)) = false := decide_eq_false (by omega)
  clear hbad hm64
  go_enter Tryz.func3, Tryz.ntmps3
  go_wp2_with fail
  refine (new_any n ms w (by omega) hms).mono ?_
  rintro e w1 ⟨k, rfl, ho⟩
  have M1 := hide (mine_new ho (by omega) hms)
  have HVA := hide (Vars_any k (St.new n ms) w1 M1.out.L.ar)
  have HUS := hide (Used_any k (St.new n ms) w1 M1.out.L.ar)
  rw [show (St.new n ms).vs = n from rfl] at HVA
  rw [show (St.new n ms).hn = 0 from rfl] at HUS
  have d3 : ((n : Int) != (n : Int)) = false := by simp
  clear ho
  go_wp2_with fail
  refine HVA.out.mono ?_
  rintro e w2 ⟨rfl, hw⟩
  subst w2
  go_wp2_with fail
  refine HUS.out.mono ?_
  rintro e w2 ⟨rfl, hw⟩
  subst w2
  clear HVA HUS d3
  go_wp2_with fail
  have hb2 := bel_one w1 (.cells #[.int .i64 0, .int .i64 1] 3)
  have HN2 := hide (heap_new w1 (.cells #[.int .i64 0, .int .i64 1] 3))
  have M2 := hide (M1.out.below hb2)
  have HG1 := hide M1.out.b.size
  clear hb2 M1
  generalize w1.alloc (.cells #[.int .i64 0, .int .i64 1] 3) = w2 at *
  refine (All_t rfl hn false).mono ?_
  rintro e w3 ⟨g1, rfl, h1, hb⟩
  have HN3 := hide (heapB hb HN2.out)
  have M3 := hide (M2.out.below hb)
  have HR3 := hide h1
  clear h1 hb HN2 M2
  go_wp2_with fail
  refine (All_t rfl hn true).mono ?_
  rintro e w4 ⟨g2, rfl, h2, hb⟩
  have HN4 := hide (heapB hb HN3.out)
  have M4 := hide (M3.out.below hb)
  have HR4 := hide (And.intro (HR3.out.below hb) h2)
  clear h2 hb HN3 M3 HR3
  have h2n : (2 ^ n : Nat) = 2 ^ n := rfl
  generalize hM : (2 ^ n : Nat) = m at *
  have HMM := hide hM
  clear hM h2n
  go_wp2_with fail
  have hb5 := bel_one w4 (.cells #[.slice (some ⟨g1, 0, none⟩) m m, .slice (some ⟨g2, 0, none⟩) m m] 32)
  have HT5 := hide (heap_new w4 (.cells #[.slice (some ⟨g1, 0, none⟩) m m, .slice (some ⟨g2, 0, none⟩) m m] 32))
  have HG4 := hide M4.out.b.size
  have HZ5 := hide (show (w4.alloc (.cells #[.slice (some ⟨g1, 0, none⟩) m m, .slice (some ⟨g2, 0, none⟩) m m] 32)).heap.size = w4.heap.size + 1 from World.size_alloc _ _)
  have HN5 := hide (heapB hb5 HN4.out)
  have M5 := hide (M4.out.below hb5)
  have HR5 := hide (And.intro (HR4.out.1.below hb5) (HR4.out.2.below hb5))
  clear hb5 HN4 M4 HR4
  generalize w4.alloc (.cells #[.slice (some ⟨g1, 0, none⟩) m m, .slice (some ⟨g2, 0, none⟩) m m] 32) = w5 at *
  have hb6 := bel_one w5 (.cells #[.pointer (some ⟨k.p, 0, none⟩), .int .i64 n, .int .i64 ms, .slice (some ⟨w1.heap.size, 0, none⟩) 2 2, .slice (some ⟨w4.heap.size, 0, none⟩) 2 2, .slice none 0 0] 37)
  have HT6 := hide (heapB hb6 HT5.out)
  have HN6 := hide (heapB hb6 HN5.out)
  have HP6 := hide (heap_new w5 (.cells #[.pointer (some ⟨k.p, 0, none⟩), .int .i64 n, .int .i64 ms, .slice (some ⟨w1.heap.size, 0, none⟩) 2 2, .slice (some ⟨w4.heap.size, 0, none⟩) 2 2, .slice none 0 0] 37))
  have HG5 := hide M5.out.b.size
  have M6 := hide (M5.out.below hb6)
  have HR6 := hide (And.intro (HR5.out.1.below hb6) (HR5.out.2.below hb6))
  clear hb6 HT5 HN5 M5 HR5
  generalize w5.alloc (.cells #[.pointer (some ⟨k.p, 0, none⟩), .int .i64 n, .int .i64 ms, .slice (some ⟨w1.heap.size, 0, none⟩) 2 2, .slice (some ⟨w4.heap.size, 0, none⟩) 2 2, .slice none 0 0] 37) = w6 at *
  have HST := hide (show Rnd n ms w (w4.heap.size + 1) 0 w6 from by
    rw [← HZ5.out]
    have hp := plm_start (g1 := g1) (g2 := g2) M6.out HN6.out (by rw [HMM.out]; exact HT6.out) HR6.out.1 HR6.out.2 HP6.out HG1.out HG4.out HG5.out
    exact ⟨k, _, _, _, _, _, _, _, _, _, hp, Pl.start M6.out.L hn, M6.out.L, M6.out.b⟩)
  clear HT6 HN6 HP6 HR6 HMM HG1 HG4 HG5 M6 HZ5
  generalize w4.heap.size + 1 = pp at *
  go_wp2_with fail
  go_loopw [10] (fun j wr => ∃ i : Nat, j = .int .i64 i ∧ i ≤ xs.length ∧ i ≤ 60 ∧ Rnd n ms w pp i wr) (fun j _ => 60 - (intOf j).toNat)
  case atStart => exact ⟨0, rfl, Nat.zero_le _, Nat.zero_le _, HST.out⟩
  case round =>
    clear HST
    obtain ⟨i, rfl, hi, hi6, k, s, ns, Vn, ts, vs, Vt, Hs, Vh, Fs, hP, hPl, hL, hB⟩ := hrel
    have HP := hide hP
    have HPL := hide hPl
    have HL := hide hL
    have HB := hide hB
    clear hP hPl hL hB
    rcases Nat.lt_or_ge i xs.length with hlt | hge
    · rcases Nat.lt_or_ge i 60 with hlt6 | hge6
      · have e1 : decide (i < xs.length) = true := decide_eq_true hlt
        have e1' : decide ((i : Int) < (xs.length : Int)) = true := decide_eq_true (by omega)
        have e2 : decide (i < 60) = true := decide_eq_true hlt6
        have e2' : decide ((i : Int) < 60) = true := decide_eq_true (by omega)
        have e3 : ((i : Int) < (xs.length : Int)) := by omega
        obtain ⟨x, hx⟩ : ∃ x, xs[i]? = some x := ⟨_, List.getElem?_eq_getElem hlt⟩
        have HOK := hide (HX.out x (List.mem_of_getElem? hx))
        obtain ⟨ab, ao, rfl⟩ := src_spot9 HS.out (by omega) (by decide)
        have hat := fun (j : Nat) (hj : j < 9) => flat_at AV.cells 9 (fun _ => rfl) xs i j x hx hj
        obtain ⟨d, xf, xg, xh, xi, xb, A1, c1, l1, A2, c2, l2, A3, c3, l3⟩ := x
        have hcl := fun (j : Nat) (u : Value) (hj : (xs.flatMap AV.cells)[i * 9 + j]? = some u) => cellB HB.out (src_cells9 HS.out (i * 9 + j) u hj)
        have z0 : wr.cell? ⟨ab, ao + i * 9, none⟩ = some (.int .u8 d) := hcl 0 _ (hat 0 (by omega))
        have z1 : wr.cell? ⟨ab, ao + i * 9 + 1, none⟩ = some (.int .i64 xf) := by rw [Nat.add_assoc]; exact hcl 1 _ (hat 1 (by omega))
        have z2 : wr.cell? ⟨ab, ao + i * 9 + 2, none⟩ = some (.int .i64 xg) := by rw [Nat.add_assoc]; exact hcl 2 _ (hat 2 (by omega))
        have z3 : wr.cell? ⟨ab, ao + i * 9 + 3, none⟩ = some (.int .i64 xh) := by rw [Nat.add_assoc]; exact hcl 3 _ (hat 3 (by omega))
        have z4 : wr.cell? ⟨ab, ao + i * 9 + 4, none⟩ = some (.int .i64 xi) := by rw [Nat.add_assoc]; exact hcl 4 _ (hat 4 (by omega))
        have z5 : wr.cell? ⟨ab, ao + i * 9 + 5, none⟩ = some (.bool xb) := by rw [Nat.add_assoc]; exact hcl 5 _ (hat 5 (by omega))
        have z6 : wr.cell? ⟨ab, ao + i * 9 + 6, none⟩ = some (.slice A1 l1.length c1) := by rw [Nat.add_assoc]; exact hcl 6 _ (hat 6 (by omega))
        have z7 : wr.cell? ⟨ab, ao + i * 9 + 7, none⟩ = some (.slice A2 l2.length c2) := by rw [Nat.add_assoc]; exact hcl 7 _ (hat 7 (by omega))
        have z8 : wr.cell? ⟨ab, ao + i * 9 + 8, none⟩ = some (.slice A3 l3.length c3) := by rw [Nat.add_assoc]; exact hcl 8 _ (hat 8 (by omega))
        have HZ6 := hide (show w.cell? ⟨ab, ao + i * 9 + 6, none⟩ = some (.slice A1 l1.length c1) from by rw [Nat.add_assoc]; exact src_cells9 HS.out (i * 9 + 6) _ (hat 6 (by omega)))
        have HDL := hide (show d % 11 < 11 from Nat.mod_lt _ (by omega))
        have HLT := hide (And.intro hlt hlt6)
        clear hcl hat hx hlt hlt6
        go_upto_region 13 with fail
        have hdm : ((d : Int) % 11) = ((d % 11 : Nat) : Int) := by omega
        rw [hdm]
        clear hdm z0 z1 z2 z3 z4 z5 z6 z7 z8
        generalize d % 11 = dd at *
        have HVN := hide (fun (g : Nat) (e : Vn.ownBlock = some g) => (HP.out.nodes.lt g e).2)
        have hb7 := bel_one wr (.cells #[.int .u8 dd, .int .i64 xf, .int .i64 xg, .int .i64 xh, .int .i64 xi, .bool xb, .slice A1 l1.length c1, .slice A2 l2.length c2, .slice A3 l3.length c3] 39)
        have HX7 := hide (heap_new wr (.cells #[.int .u8 dd, .int .i64 xf, .int .i64 xg, .int .i64 xh, .int .i64 xi, .bool xb, .slice A1 l1.length c1, .slice A2 l2.length c2, .slice A3 l3.length c3] 39))
        have HP7 := hide (HP.out.below hb7)
        have HL7 := hide (HL.out.below hb7)
        have HB7 := hide (below_wide HB.out hb7)
        have HGX := hide HB.out.size
        have HGS := hide hb7.size
        clear hb7 HP HL HB
        generalize wr.alloc (.cells #[.int .u8 dd, .int .i64 xf, .int .i64 xg, .int .i64 xh, .int .i64 xi, .bool xb, .slice A1 l1.length c1, .slice A2 l2.length c2, .slice A3 l3.length c3] 39) = w7 at *
        generalize wr.heap.size = bx at *
        have hb8 := bel_one w7 (.cells #[] 3)
        have OE := hide (own_empty9 w7 3)
        have HX8 := hide (heapB hb8 HX7.out)
        have HB8 := hide (below_wide HB7.out hb8)
        have HSR := hide (HOK.out.s1.below HB8.out)
        have HK1 := hide (show ∀ u ∈ l1.map encI, u.oneCell' = true from fun u hu => by obtain ⟨y, _, rfl⟩ := List.mem_map.1 hu; rfl)
        have HN1 := HOK.out.n1
        have HS8 := hide (show w7.heap.size ≤ (w7.alloc (.cells #[] 3)).heap.size from hb8.size)
        have y6 : (w7.alloc (.cells #[] 3)).cell? ⟨bx, 6, none⟩ = some (.slice A1 l1.length c1) := cell_heap HX8.out rfl
        have y67 := cell_heap (j := 6) HX7.out rfl
        have hlt8 : bx < w7.heap.size := lt_heap HX7.out
        have HQ8 := hide hb8
        clear hb8
        go_wp2_with (at_builtin; refine app_src rfl (.tmp 81) (.tmp 83) 30 rfl w7.heap.size 3 ii _ 1 8 Tryz.underlying30 hi1 iz is ib rfl (by decide) _ 0 [] rfl OE.out A1 l1.length c1 _ rfl HSR.out HK1.out ?c63 ?cby HS8.out ?_)
        case c63 => unfold maxLen; omega
        case cby => omega
        intro v9 w9 hown hgr
        have hz0 : 0 + l1.length = l1.length := Nat.zero_add _
        try rw [hz0] at hown
        replace hown : w9.ownsRow w7.heap.size 3 1 v9 l1.length (l1.map encI) := hown
        clear hz0
        obtain ⟨A9, c9, rfl⟩ := own_slice hown
        have HW9 := hide (show Below w7.heap.size w7 w9 from HQ8.out.grown hgr HS8.out (fun b e => by cases e; exact Nat.le_refl _))
        have HO9 := hide hown
        clear hown hgr y6 y67 hlt8 OE HX8 HB8 HSR HK1 HS8 HQ8
        have hx9 := heapB HW9.out HX7.out
        have HX9 := hide hx9
        have k6 := cell_heap (j := 6) hx9 rfl
        have f6 := frozen_heap (j := 6) hx9
        have HPA := hide (HP7.out.below HW9.out)
        have HP10 := hide (HPA.out.far (j := 6) (u := .slice A9 l1.length c9) hx9)
        have HX10 := hide (show (w9.setCell ⟨bx, 6, none⟩ (.slice A9 l1.length c9)).heap[bx]? = some (.cells #[.int .u8 dd, .int .i64 xf, .int .i64 xg, .int .i64 xh, .int .i64 xi, .bool xb, .slice A9 l1.length c9, .slice A2 l2.length c2, .slice A3 l3.length c3] 39 (0, 0)) from heap_set (j := 6) (u := .slice A9 l1.length c9) hx9)
        have HO10 := hide (own_kept HO9.out (grown_set (b := bx) (j := 6) (u := .slice A9 l1.length c9)) (fun g e => by cases e; exact own_ne_row HO9.out hx9 (by decide)))
        have HB10 := hide ((below_wide HB7.out HW9.out).setCell (p := ⟨bx, 6, none⟩) HGX.out (.slice A9 l1.length c9))
        have HL10 := hide (HL7.out.of HP10.out)
        go_upto_region 15 with fail
        clear k6 f6 hx9 HX9 HPA HP7 HL7 HB7 HO9 HW9 HX7
        generalize w9.setCell ⟨bx, 6, none⟩ (.slice A9 l1.length c9) = w10 at *
        have HAM := hide (show ActM w.heap.size w10 xf xg xh xi A9 c9 l1 A2 c2 l2 A3 c3 l3 from ⟨HOK.out.f, HOK.out.g, HOK.out.h, HOK.out.i, ⟨_, HO10.out⟩, HOK.out.s2.below HB10.out, HOK.out.s3.below HB10.out, HOK.out.b2, HOK.out.b3, HOK.out.n1, HOK.out.n2, HOK.out.n3⟩)
        have y0 := cell_heap (j := 0) HX10.out rfl
        have y1 := cell_heap (j := 1) HX10.out rfl
        have y2 := cell_heap (j := 2) HX10.out rfl
        have y3 := cell_heap (j := 3) HX10.out rfl
        have y4 := cell_heap (j := 4) HX10.out rfl
        have y5 := cell_heap (j := 5) HX10.out rfl
        have y6 := cell_heap (j := 6) HX10.out rfl
        have y7 := cell_heap (j := 7) HX10.out rfl
        have y8 := cell_heap (j := 8) HX10.out rfl
        have HSI := hide (fun (z : World) (ho : z.ownsRow w7.heap.size 3 1 (.slice A9 l1.length c9) l1.length (l1.map encI)) (hb : Below w.heap.size w z) => by
          have h := sameInts_any A9 A1 c9 c1 l1 l1 z (src_of_own ho) (HOK.out.s1.below hb) (len_max HOK.out.n1) (len_max HOK.out.n1)
          rw [decide_eq_true rfl] at h
          exact h)
        have hi60 : i ≤ 60 := by have := HLT.out; omega
        by_cases hd : dd = 10
        · subst hd
          have HTE := hide (tells_any (xb := xb) HP10.out HPL.out HL10.out hi60 HAM.out)
          go_wp2_with fail
          refine HTE.out.mono ?_
          rintro e w11 ⟨rfl, hb⟩
          clear y0 y1 y2 y3 y4 y5 y6 y7 y8 HTE
          have HP11 := hide (HP10.out.below hb)
          have HL11 := hide (HL10.out.below hb)
          have HB11 := hide (below_wide HB10.out hb)
          have HO11 := hide (own_below HO10.out hb)
          have hx11 := heapB hb HX10.out
          have x6 := lat_cell (cell_heap (j := 6) hx11 rfl)
          have a6 := lat_cell (cellB HB11.out HZ6.out)
          clear hb hx11
          have HSZ := hide (fun z => HSI.out (lat w11 z) (own_below HO11.out (lat_below w11 z)) (below_wide HB11.out (lat_below w11 z)))
          go_wp2_with fail
          refine wp_region_lat (by kernel_rfl) (by kernel_rfl) ?_
          repeat (first | go_big_quiet_step ((go_at_call 10; with_reducible exact calls_lat (HSZ.out _))) | quiet_step ((go_at_call 10; with_reducible exact calls_lat (HSZ.out _))))
          refine wpQuiet_nil ?_
          intro _ hlat
          obtain ⟨wq, rfl⟩ := hlat
          go_wp2_with fail
          go_roundw
          case rel => exact ⟨i + 1, by go_num, HLT.out.1, HLT.out.2, k, s, ns, Vn, ts, vs, Vt, Hs, Vh, Fs, HP11.out.below (lat_below _ _), HPL.out.skip, HL11.out.below (lat_below _ _), below_wide HB11.out (lat_below _ _)⟩
          case measure => have := HLT.out; simp [intOf]; omega
        · have hd10 : dd < 10 := by have := HDL.out; omega
          have q1 : ((dd : Int) == 10) = false := beq_if (by omega)
          have HPP := hide (HP10.out.pass HX10.out HO10.out (fun g e => Nat.lt_of_lt_of_le (HVN.out g e) HGS.out))
          have HMA := hide (makes_any (xb := xb) dd hd10 HPP.out HPL.out HL10.out hi60 HAM.out)
          clear hd hd10
          go_wp2_with fail
          refine HMA.out.mono ?_
          intro e w11 hmk
          obtain ⟨rfl, hb, k2, s2, ns2, Vn2, ts2, vs2, Vt2, Hs2, Vh2, Fs2, hP2, hPl2, hL2⟩ := hmk
          clear y0 y1 y2 y3 y4 y5 y6 y7 y8 HMA
          obtain ⟨hx11, ho11⟩ := hP2.passed HO10.out
          have HP11 := hide hP2.weak
          have HPL11 := hide hPl2
          have HL11 := hide hL2
          have HB11 := hide (HB10.out.trans hb)
          have HO11 := hide ho11
          have x6 := lat_cell (cell_heap (j := 6) hx11 rfl)
          have a6 := lat_cell (cellB HB11.out HZ6.out)
          clear hb hx11 ho11 hP2 hPl2 hL2
          have HSZ := hide (fun z => HSI.out (lat w11 z) (own_below HO11.out (lat_below w11 z)) (below_wide HB11.out (lat_below w11 z)))
          go_wp2_with fail
          refine wp_region_lat (by kernel_rfl) (by kernel_rfl) ?_
          repeat (first | go_big_quiet_step ((go_at_call 10; with_reducible exact calls_lat (HSZ.out _))) | quiet_step ((go_at_call 10; with_reducible exact calls_lat (HSZ.out _))))
          refine wpQuiet_nil ?_
          intro _ hlat
          obtain ⟨wq, rfl⟩ := hlat
          go_wp2_with fail
          go_roundw
          case rel => exact ⟨i + 1, by go_num, HLT.out.1, HLT.out.2, k2, s2, ns2, Vn2, ts2, vs2, Vt2, Hs2, Vh2, Fs2, HP11.out.below (lat_below _ _), HPL11.out, HL11.out.below (lat_below _ _), below_wide HB11.out (lat_below _ _)⟩
          case measure => have := HLT.out; simp [intOf]; omega
      · obtain rfl : i = 60 := by omega
        have e1 : decide (60 < xs.length) = true := decide_eq_true hlt
        have e1' : decide ((60 : Int) < (xs.length : Int)) = true := decide_eq_true (by omega)
        clear hlt hge6
        go_wp2_with fail
        go_ret
        exact ⟨rfl, HB.out⟩
    · obtain rfl : i = xs.length := by omega
      have e1 : decide (xs.length < xs.length) = false := decide_eq_false (by omega)
      have e1' : decide ((xs.length : Int) < (xs.length : Int)) = false := decide_eq_false (by omega)
      clear hge
      go_wp2_with fail
      go_ret
      exact ⟨rfl, HB.out⟩
end Go.Proofs.YtgfjdkkfgclhjaaGreat.Bd
/- What BddPlays' arguments read as: a row of acts, each with rows of its own. -/
namespace Go.Proofs.YtgfjdkkfgclhjaaGreat.Bd
open Go.ChangeShapes Go.WideShapes Go.ChangeAt Go.RowKit Go.Proofs.YtgfjdkkfgclhjaaGreat Go.Proofs.YtgfjdkkfgclhjaaGreat.Lx

theorem cellsU8 : Tryz.prog.cellsOf 5 = 1 := by kernel_rfl
theorem cellsBool : Tryz.prog.cellsOf 4 = 1 := by kernel_rfl
theorem cellsInt : Tryz.prog.cellsOf 3 = 1 := by kernel_rfl
theorem cellsInts : Tryz.prog.cellsOf 30 = 1 := by kernel_rfl
theorem cellsBools : Tryz.prog.cellsOf 31 = 1 := by kernel_rfl
theorem cellsAct : Tryz.prog.cellsOf 39 = 9 := by kernel_rfl
theorem bytesInt : Tryz.prog.bytesOf 3 = 8 := by kernel_rfl
theorem bytesBool : Tryz.prog.bytesOf 4 = 1 := by kernel_rfl
theorem reach_num : reachBytes ≤ 140737488355328 := by decide
theorem wf_u8 {x : Int} (h : (Lit.int .u8 x).wf = true) : 0 ≤ x ∧ x ≤ 255 := by
  simpa [Lit.wf, IntKind.min, IntKind.max, IntKind.signed, IntKind.bits] using h
theorem wf_i64 {x : Int} (h : (Lit.int .i64 x).wf = true) : I64 x := by
  have : -9223372036854775808 ≤ x ∧ x ≤ 9223372036854775807 := by simpa [Lit.wf, IntKind.min, IntKind.max, IntKind.signed, IntKind.bits] using h
  unfold I64
  omega
theorem weights_all {H : Type} {P : Program} {e : TypeId} {d : DataW H} {n : Nat} : ∀ {l : List (DataW H)}, d ∈ l → n ∈ d.weights P e → n ∈ DataW.weightsAll P e l
  | [], h, _ => by cases h
  | x :: r, h, hn => by
    simp only [DataW.weightsAll, List.mem_append]
    rcases List.mem_cons.1 h with rfl | h
    · exact .inl hn
    · exact .inr (weights_all h hn)
section
variable {H : Type} {enc : TypeId × Value → H} {w : World} {held : Bool}
theorem open_nums9 {n : Nat} {cs : List Value} {x : DataW H × List MemPlace} (h : DataW.trod enc Tryz.prog w 0 (fun _ => true) held n 30 cs = some x) (hw : ∀ q ∈ x.1.weights Tryz.prog 30, q ≤ reachBytes) :
    ∃ (A : Option Addr) (c : Nat) (l : List Int), cs = [.slice A l.length c] ∧ Src w A l.length c 1 (l.map encI) ∧ (∀ a, A = some a → l ≠ [] → a.block < w.heap.size) ∧ l.length ≤ 17592186044416 := by
  rcases open_ints Tryz.underlying30 Tryz.underlying3 cellsInt h with ⟨hcs, _⟩ | ⟨a, len, cap, zs, hcs, _, hl, hm, hz, hx, hcell, _⟩
  · exact ⟨none, 0, [], hcs, ⟨by simp, .inl ⟨rfl, rfl, rfl⟩⟩, fun _ e => (by cases e), by simp⟩
  · have hlen : len ≤ zs.length := by rw [hz]; split <;> omega
    have hll : (zs.take len).length = len := by simp; omega
    have hat : ∀ j u, ((zs.take len).map encI)[j]? = some u → w.cell? (a.add j) = some u := fun j u hu => by
      have hj : j < len := by
        have := (List.getElem?_eq_some_iff.1 hu).1
        simp at this
        omega
      have hjz : j < zs.length := by omega
      have hc := hcell j hjz
      rw [List.getElem?_map, List.getElem?_take_of_lt hj, List.getElem?_eq_getElem hjz] at hu
      rw [List.getD_eq_getElem?_getD, List.getElem?_eq_getElem hjz] at hc
      simp at hu
      rw [← hu]; exact hc
    refine ⟨some a, cap, zs.take len, by rw [hll]; exact hcs, ?_, fun q hq hne => ?_, ?_⟩
    · rw [hll]
      exact ⟨by simp; omega, .inr ⟨a, rfl, hat⟩⟩
    · cases hq
      have hp : 0 < (zs.take len).length := List.length_pos_iff.2 hne
      have h1 := hcell 0 (by omega)
      have h2 := World.block_lt_of_cell? w _ h1
      have hab : (a.add 0).block = a.block := by unfold Addr.add; split <;> rfl
      rw [hab] at h2
      exact h2
    · rw [hll]
      have h1 := hw ((lits .i64 (zs.take len)).length * 8 + (lits .i64 (zs.drop len)).length * 8) (by
        rw [hx]
        simp only [DataW.weights, Tryz.underlying30, bytesInt, List.mem_cons]
        left
        omega)
      have h2 : (lits (H := H) .i64 (zs.take len)).length = len := by simp [lits]; omega
      have := reach_num
      omega
theorem open_truths9 {n : Nat} {cs : List Value} {x : DataW H × List MemPlace} (h : DataW.trod enc Tryz.prog w 0 (fun _ => true) held n 31 cs = some x) (hw : ∀ q ∈ x.1.weights Tryz.prog 31, q ≤ reachBytes) :
    ∃ (A : Option Addr) (c : Nat) (l : List Bool), cs = [.slice A l.length c] ∧ Src w A l.length c 1 (l.map Value.bool) ∧ (∀ a, A = some a → l ≠ [] → a.block < w.heap.size) ∧ l.length ≤ 140737488355328 := by
  rcases Go.Deep.open_bools Tryz.underlying31 Tryz.underlying4 cellsBool h with ⟨hcs, _⟩ | ⟨a, len, cap, E, hcs, _, hl, hm, hx, hE⟩
  · exact ⟨none, 0, [], hcs, ⟨by simp, .inl ⟨rfl, rfl, rfl⟩⟩, fun _ e => (by cases e), by simp⟩
  · refine ⟨some a, cap, (List.range len).map E, by simpa using hcs, ⟨by simp, .inr ⟨a, rfl, fun j u hu => ?_⟩⟩, fun q hq hne => ?_, ?_⟩
    · have hj : j < len := by
        have := (List.getElem?_eq_some_iff.1 hu).1
        simpa using this
      rw [List.getElem?_map, List.getElem?_map, List.getElem?_range hj] at hu
      rw [hE j (by omega)]; exact hu
    · cases hq
      have hp : 0 < len := by
        rcases Nat.eq_zero_or_pos len with e | e
        · subst e; exact absurd rfl hne
        · exact e
      have h1 := hE 0 (by omega)
      have h2 := World.block_lt_of_cell? w _ h1
      have hab : (a.add 0).block = a.block := by unfold Addr.add; split <;> rfl
      rw [hab] at h2
      exact h2
    · rw [List.length_map, List.length_range]
      have h1 := hw ((len + (cap - len)) * 1) (by
        rw [hx]
        simp only [DataW.weights, Go.Deep.boolRow, Tryz.underlying31, bytesBool, List.mem_cons, List.length_map, List.length_range]
        left
        simp)
      have := reach_num
      omega
set_option maxRecDepth 100000 in
theorem open_act {n : Nat} {cs : List Value} {x : DataW H × List MemPlace} (h : DataW.trod enc Tryz.prog w 0 (fun _ => true) held n 39 cs = some x) (hw : ∀ q ∈ x.1.weights Tryz.prog 39, q ≤ reachBytes) : ∃ V : AV, cs = V.cells ∧ V.ok w.heap.size w := by
  obtain ⟨xs, m, _, hxe, hl, hxl, hf⟩ := DataW.trod_struct Tryz.underlying39 h
  rw [cellsAct] at hl
  match cs, hl with
  | [c0, c1, c2, c3, c4, c5, c6, c7, c8], _ =>
    have g0 : DataW.trod enc Tryz.prog w 0 (fun _ => true) held m 5 ((List.drop 0 [c0, c1, c2, c3, c4, c5, c6, c7, c8]).take (Tryz.prog.cellsOf 5)) = xs[0]? := hf 0 _ rfl
    rw [cellsU8] at g0
    change DataW.trod enc Tryz.prog w 0 (fun _ => true) held m 5 [c0] = _ at g0
    have q0 : 0 < xs.length := by rw [hxl]; decide
    rw [List.getElem?_eq_getElem q0] at g0
    have g1 : DataW.trod enc Tryz.prog w 0 (fun _ => true) held m 3 ((List.drop 1 [c0, c1, c2, c3, c4, c5, c6, c7, c8]).take (Tryz.prog.cellsOf 3)) = xs[1]? := hf 1 _ rfl
    rw [cellsInt] at g1
    change DataW.trod enc Tryz.prog w 0 (fun _ => true) held m 3 [c1] = _ at g1
    have q1 : 1 < xs.length := by rw [hxl]; decide
    rw [List.getElem?_eq_getElem q1] at g1
    have g2 : DataW.trod enc Tryz.prog w 0 (fun _ => true) held m 3 ((List.drop 2 [c0, c1, c2, c3, c4, c5, c6, c7, c8]).take (Tryz.prog.cellsOf 3)) = xs[2]? := hf 2 _ rfl
    rw [cellsInt] at g2
    change DataW.trod enc Tryz.prog w 0 (fun _ => true) held m 3 [c2] = _ at g2
    have q2 : 2 < xs.length := by rw [hxl]; decide
    rw [List.getElem?_eq_getElem q2] at g2
    have g3 : DataW.trod enc Tryz.prog w 0 (fun _ => true) held m 3 ((List.drop 3 [c0, c1, c2, c3, c4, c5, c6, c7, c8]).take (Tryz.prog.cellsOf 3)) = xs[3]? := hf 3 _ rfl
    rw [cellsInt] at g3
    change DataW.trod enc Tryz.prog w 0 (fun _ => true) held m 3 [c3] = _ at g3
    have q3 : 3 < xs.length := by rw [hxl]; decide
    rw [List.getElem?_eq_getElem q3] at g3
    have g4 : DataW.trod enc Tryz.prog w 0 (fun _ => true) held m 3 ((List.drop 4 [c0, c1, c2, c3, c4, c5, c6, c7, c8]).take (Tryz.prog.cellsOf 3)) = xs[4]? := hf 4 _ rfl
    rw [cellsInt] at g4
    change DataW.trod enc Tryz.prog w 0 (fun _ => true) held m 3 [c4] = _ at g4
    have q4 : 4 < xs.length := by rw [hxl]; decide
    rw [List.getElem?_eq_getElem q4] at g4
    have g5 : DataW.trod enc Tryz.prog w 0 (fun _ => true) held m 4 ((List.drop 5 [c0, c1, c2, c3, c4, c5, c6, c7, c8]).take (Tryz.prog.cellsOf 4)) = xs[5]? := hf 5 _ rfl
    rw [cellsBool] at g5
    change DataW.trod enc Tryz.prog w 0 (fun _ => true) held m 4 [c5] = _ at g5
    have q5 : 5 < xs.length := by rw [hxl]; decide
    rw [List.getElem?_eq_getElem q5] at g5
    have g6 : DataW.trod enc Tryz.prog w 0 (fun _ => true) held m 30 ((List.drop 6 [c0, c1, c2, c3, c4, c5, c6, c7, c8]).take (Tryz.prog.cellsOf 30)) = xs[6]? := hf 6 _ rfl
    rw [cellsInts] at g6
    change DataW.trod enc Tryz.prog w 0 (fun _ => true) held m 30 [c6] = _ at g6
    have q6 : 6 < xs.length := by rw [hxl]; decide
    rw [List.getElem?_eq_getElem q6] at g6
    have g7 : DataW.trod enc Tryz.prog w 0 (fun _ => true) held m 30 ((List.drop 7 [c0, c1, c2, c3, c4, c5, c6, c7, c8]).take (Tryz.prog.cellsOf 30)) = xs[7]? := hf 7 _ rfl
    rw [cellsInts] at g7
    change DataW.trod enc Tryz.prog w 0 (fun _ => true) held m 30 [c7] = _ at g7
    have q7 : 7 < xs.length := by rw [hxl]; decide
    rw [List.getElem?_eq_getElem q7] at g7
    have g8 : DataW.trod enc Tryz.prog w 0 (fun _ => true) held m 31 ((List.drop 8 [c0, c1, c2, c3, c4, c5, c6, c7, c8]).take (Tryz.prog.cellsOf 31)) = xs[8]? := hf 8 _ rfl
    rw [cellsBools] at g8
    change DataW.trod enc Tryz.prog w 0 (fun _ => true) held m 31 [c8] = _ at g8
    have q8 : 8 < xs.length := by rw [hxl]; decide
    rw [List.getElem?_eq_getElem q8] at g8
    have w6 : ∀ q ∈ (xs[6].1).weights Tryz.prog 30, q ≤ reachBytes := fun q hq => by
      refine hw q ?_
      rw [hxe]
      simp only [DataW.weights, Tryz.underlying39]
      exact DataW.weights_mem_each (j := 6) (t := 30) rfl (by rw [List.getElem?_map, List.getElem?_eq_getElem q6]; rfl) q hq
    have w7 : ∀ q ∈ (xs[7].1).weights Tryz.prog 30, q ≤ reachBytes := fun q hq => by
      refine hw q ?_
      rw [hxe]
      simp only [DataW.weights, Tryz.underlying39]
      exact DataW.weights_mem_each (j := 7) (t := 30) rfl (by rw [List.getElem?_map, List.getElem?_eq_getElem q7]; rfl) q hq
    have w8 : ∀ q ∈ (xs[8].1).weights Tryz.prog 31, q ≤ reachBytes := fun q hq => by
      refine hw q ?_
      rw [hxe]
      simp only [DataW.weights, Tryz.underlying39]
      exact DataW.weights_mem_each (j := 8) (t := 31) rfl (by rw [List.getElem?_map, List.getElem?_eq_getElem q8]; rfl) q hq
    obtain ⟨zd, e0, _, wd⟩ := DataW.trod_int Tryz.underlying5 g0
    obtain ⟨zf, e1, _, wf⟩ := DataW.trod_int Tryz.underlying3 g1
    obtain ⟨zg, e2, _, wg⟩ := DataW.trod_int Tryz.underlying3 g2
    obtain ⟨zh, e3, _, wh⟩ := DataW.trod_int Tryz.underlying3 g3
    obtain ⟨zi, e4, _, wi⟩ := DataW.trod_int Tryz.underlying3 g4
    obtain ⟨zb, e5, _⟩ := DataW.trod_bool Tryz.underlying4 g5
    obtain ⟨A1, k1, l1, e6, s1, b1, n1⟩ := open_nums9 g6 w6
    obtain ⟨A2, k2, l2, e7, s2, b2, n2⟩ := open_nums9 g7 w7
    obtain ⟨A3, k3, l3, e8, s3, b3, n3⟩ := open_truths9 g8 w8
    simp only [List.cons.injEq, and_true] at e0 e1 e2 e3 e4 e5 e6 e7 e8
    subst e0 e1 e2 e3 e4 e5 e6 e7 e8
    obtain ⟨h0, h255⟩ := wf_u8 wd
    obtain ⟨dn, rfl⟩ := Int.eq_ofNat_of_zero_le h0
    exact ⟨⟨dn, zf, zg, zh, zi, zb, A1, k1, l1, A2, k2, l2, A3, k3, l3⟩, rfl, ⟨by show dn < 256; omega, wf_i64 wf, wf_i64 wg, wf_i64 wh, wf_i64 wi, s1, s2, s3, b1, b2, b3, n1, n2, n3⟩⟩
theorem open_acts {fuel : Nat} {cs : List Value} {x : DataW H × List MemPlace} (h : DataW.trod enc Tryz.prog w 0 (fun _ => true) held fuel 22 cs = some x) (hw : ∀ q ∈ x.1.weights Tryz.prog 22, q ≤ reachBytes) :
    ∃ (A : Option Addr) (c : Nat) (xs : List AV), cs = [.slice A xs.length c] ∧ Src w A xs.length c 9 (xs.flatMap AV.cells) ∧ (∀ V ∈ xs, V.ok w.heap.size w) ∧ xs.length ≤ maxLen := by
  rcases Go.Deep.open_slice Tryz.underlying22 h with ⟨hcs, _⟩ | ⟨a, len, cap, m, n, D, Pl, hcs, _, hl, hm, hmm, hx, hi⟩
  · exact ⟨none, 0, [], hcs, ⟨by simp, .inl ⟨rfl, rfl, rfl⟩⟩, fun V hV => (by cases hV), Nat.zero_le _⟩
  · have hlm : len ≤ m := by rw [hmm]; split <;> omega
    haveI : Inhabited AV := ⟨⟨0, 0, 0, 0, 0, false, none, 0, [], none, 0, [], none, 0, []⟩⟩
    obtain ⟨V, hV⟩ := Go.Deep.choose_lt (α := AV) (p := fun i V => (∀ j, j < 9 → w.cell? (a.add (i * 9 + j)) = V.cells[j]?) ∧ V.ok w.heap.size w) (n := len) (fun i hil => by
      obtain ⟨cs', hc, ht⟩ := hi i (by omega)
      rw [cellsAct] at hc
      obtain ⟨_, hlen, hat⟩ := World.cells?_some hc
      obtain ⟨V, rfl, hok⟩ := open_act ht (fun q hq => hw q (by
        rw [hx]
        simp only [DataW.weights, Tryz.underlying22, List.mem_cons, List.mem_append]
        exact .inr (.inl (weights_all (List.mem_map.2 ⟨i, List.mem_range.2 hil, rfl⟩) hq))))
      exact ⟨V, fun j hj => by rw [← Go.Deep.add_add]; exact hat j hj, hok⟩)
    have hll : ((List.range len).map V).length = len := by simp
    refine ⟨some a, cap, (List.range len).map V, by rw [hll]; exact hcs, ⟨?_, .inr ⟨a, rfl, fun j u hu => ?_⟩⟩, fun U hU => ?_, by rw [hll]; omega⟩
    · rw [hll]
      have : ∀ l : List AV, (l.flatMap AV.cells).length = l.length * 9 := fun l => by
        induction l with
        | nil => rfl
        | cons y ys ih => rw [List.flatMap_cons, List.length_append, ih, List.length_cons, Nat.succ_mul]; show 9 + _ = _; omega
      rw [this, hll]
    · have hjl : j < len * 9 := by
        have h1 := (List.getElem?_eq_some_iff.1 hu).1
        have : ∀ l : List AV, (l.flatMap AV.cells).length = l.length * 9 := fun l => by
          induction l with
          | nil => rfl
          | cons y ys ih => rw [List.flatMap_cons, List.length_append, ih, List.length_cons, Nat.succ_mul]; show 9 + _ = _; omega
        rw [this, hll] at h1
        exact h1
      have hx1 : ((List.range len).map V)[j / 9]? = some (V (j / 9)) := by rw [List.getElem?_map, List.getElem?_range (by omega)]; rfl
      have h2 := flat_at AV.cells 9 (fun _ => rfl) _ (j / 9) (j % 9) _ hx1 (Nat.mod_lt _ (by omega))
      have he : j / 9 * 9 + j % 9 = j := by omega
      rw [he, hu] at h2
      have h3 := (hV (j / 9) (by omega)).1 (j % 9) (Nat.mod_lt _ (by omega))
      rw [he] at h3
      rw [h3, ← h2]
    · obtain ⟨i, hir, rfl⟩ := List.mem_map.1 hU
      exact (hV i (List.mem_range.1 hir)).2
end
end Go.Proofs.YtgfjdkkfgclhjaaGreat.Bd
