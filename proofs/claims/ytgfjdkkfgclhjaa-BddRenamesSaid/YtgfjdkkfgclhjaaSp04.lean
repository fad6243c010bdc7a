/- What the claim leans on, part 4 of 7: BW DQ BX BY CA CB CC ZL DR MC PC CD. -/
import Derived.IntWalk
import Derived.Laws.BitsAllLaws
import Derived.Lib.AppendIntMem
import Derived.Lib.OwnBridge
import Derived.Lib.SlicesCompact
import Derived.Sort.OwnSortedInts
import Derived.Test.YtgfjdkkfgclhjaaShelf
import Derived.Test.YtgfjdkkfgclhjaaSp01
import Derived.Test.YtgfjdkkfgclhjaaSp02
import Derived.Test.YtgfjdkkfgclhjaaSp03
/- Rename. -/
namespace Go.Proofs.Ytgfjdkkfgclhjaa.Bd
open Go.RowKit Go.Proofs.Ytgfjdkkfgclhjaa Go.Proofs.Ytgfjdkkfgclhjaa.Lx Go.Maps

theorem zip_get {l1 l2 : List Nat} {i x y : Nat} (h1 : l1[i]? = some x) (h2 : l2[i]? = some y) : (l1.zip l2)[i]? = some (x, y) := by
  rw [List.getElem?_zip_eq_some]
  exact ⟨h1, h2⟩
theorem zip_take_first {l1 l2 : List Nat} (hn : l1.Nodup) {i x : Nat} (hx : l1[i]? = some x) : ∀ p ∈ (l1.zip l2).take i, p.1 ≠ x := by
  intro p hp e
  obtain ⟨j, hj⟩ := List.mem_iff_getElem?.1 hp
  have hji : j < i := by
    rcases Nat.lt_or_ge j i with h | h
    · exact h
    · rw [List.getElem?_take, if_neg (by omega)] at hj; cases hj
  rw [List.getElem?_take, if_pos hji] at hj
  have h1 := (List.getElem?_zip_eq_some.1 hj).1
  have hi := lt_of_some hx
  have := (List.pairwise_iff_getElem.1 hn) j i (by omega) hi hji
  rw [List.getElem?_eq_getElem (by omega)] at h1
  rw [List.getElem?_eq_getElem hi] at hx
  have a := Option.some.inj h1
  have b := Option.some.inj hx
  omega
theorem into_next {l1 l2 : List Nat} {i x y : Nat} (h1 : l1[i]? = some x) (h2 : l2[i]? = some y) : (fun z : Int => if z = (x : Int) then some (y : Int) else intoF ((l1.zip l2).take i) z) = intoF ((l1.zip l2).take (i + 1)) := by
  rw [List.take_add_one, zip_get h1 h2]
  exact (intoF_snoc _ (x, y)).symm

/-- what the loop keeps: the new names so far -/
structure Rn (w3 wr : World) (ps : List (Nat × Nat)) (i : Nat) : Prop where
  b : Below w3.heap.size w3 wr
  c : wr.heap[w3.heap.size + 1]? = some (.cells #[.map (some w3.heap.size)] 79 (0, 0))
  m : MInt Try.prog wr 21 21 .i32 w3.heap.size i enc3 (intoF (ps.take i))
theorem rn_start (w3 : World) (ps : List (Nat × Nat)) : Rn w3 ((w3.alloc (.map #[] 0)).alloc (.cells #[.map (some w3.heap.size)] 79)) ps 0 := by
  refine ⟨((Below.refl _ w3).alloc (Nat.le_refl _) _).alloc (by simp) _, ?_, ?_⟩
  · have := heap_new (w3.alloc (.map #[] 0)) (.cells #[.map (some w3.heap.size)] 79)
    rw [show (w3.alloc (.map #[] 0)).heap.size = w3.heap.size + 1 by simp] at this
    exact this
  · rw [List.take_zero]
    exact (MInt.made w3 21 21 .i32 enc3).kept (World.grownBy_alloc _ _ none) (by simp)
theorem Rn.next {w3 wr w' : World} {l1 l2 : List Nat} {i x y : Nat} (h : Rn w3 wr (l1.zip l2) i) (h1 : l1[i]? = some x) (h2 : l2[i]? = some y) (hm : MInt Try.prog w' 21 21 .i32 w3.heap.size (i + 1) enc3 (fun z : Int => if z = (x : Int) then some (y : Int) else intoF ((l1.zip l2).take i) z)) (ht : wr.mapTurned w' w3.heap.size) : Rn w3 w' (l1.zip l2) (i + 1) := by
  refine ⟨h.b.grown ht.grown h.b.size (fun b e => by injection e with e; omega), heap_grown h.c ht.grown (opt_ne (by omega)), ?_⟩
  rw [← into_next h1 h2]
  exact hm
set_option maxHeartbeats 8000000 in
set_option maxRecDepth 100000 in
theorem Rename_any (S : Nat → Bool) (k : Blk) (s : St) (f t : Nat) (F : Env → Bool) (A1 A2 : Option Addr) (c1 c2 : Nat) (l1 l2 : List Nat) (w : World) (hA : Ar w k s) (ad : Adm s) (g1 : s.gi f = true) (d : Den S s.nd f t F) (hS1 : Src w A1 l1.length c1 1 ((encL l1).map encI)) (hS2 : Src w A2 l2.length c2 1 ((encL l2).map encI)) (hn : l1.length ≤ 1000000) (he : l1.length = l2.length) (hnd : l1.Nodup) (hl1 : ∀ x ∈ l1, x < s.vs) (hl2 : ∀ x ∈ l2, x < s.vs) (hm : s.m + nS S t * 2 ^ (nS S t + 2) + 2 ≤ 1000000000) :
    Calls Try.prog 16 #[.pointer (some ⟨k.p, 0, none⟩), .int .i64 f, .slice A1 l1.length c1, .slice A2 l2.length c2] w (ApiOut k s w (nS S t * 2 ^ (nS S t + 2) + 2) (fun nd' r => ∃ t', anyB t t' ∧ Den (imgS S (rnOf (l1.zip l2)) t) nd' r t' (renT (rnOf (l1.zip l2)) F))) := by
  have hW := hA.wf
  have hnm := hA.nm
  have hfl := d.lt hW
  have hvs := ad.vs
  have HF : Hid (∀ j, w.heap.size ≤ j → ¬ fp k j) := by
    obtain ⟨_, _, H, _⟩ := hA
    exact fun j hj hf => by have := H.lt j hf; omega
  have hb1 := bel_one w (.cells #[.pointer (some ⟨k.p, 0, none⟩)] 24)
  have x0 := heap_new w (.cells #[.pointer (some ⟨k.p, 0, none⟩)] 24)
  obtain ⟨W, hWd⟩ : ∃ W, W = (w.alloc (.cells #[.pointer (some ⟨k.p, 0, none⟩)] 24)) := ⟨_, rfl⟩
  rw [← hWd] at hb1 x0
  have hsW : W.heap.size = w.heap.size + 1 := by rw [hWd]; simp
  have hbl := below_wide hb1 (bel_one W (.cells #[.int .i64 f] 3))
  have HC := hide (check_any k s [(f : Int)] W.heap.size _ (hA.below hbl) (cells1 W f) (by simp; omega) (by simp))
  rw [show [(f : Int)].length = 1 from rfl, gvn_all (s := s) (l := [(f : Int)]) (by simp [g1]), hsW] at HC
  have HK1 := hide (known_any k s A1 c1 (encL l1) _ (hA.below hbl) (by rw [encL_len]; exact hS1.below hbl) (by rw [encL_len]; unfold maxLen; omega))
  rw [encL_len, knownB_of hl1] at HK1
  have HK2 := hide (fun w' (hb : Below w.heap.size w w') => known_any k s A2 c2 (encL l2) w' (hA.below hb) (by rw [encL_len]; exact hS2.below hb) (by rw [encL_len]; unfold maxLen; omega))
  rw [encL_len, knownB_of hl2] at HK2
  have y0 : (W.alloc (.cells #[.int .i64 f] 3)).cell? ⟨w.heap.size, 0, none⟩ = some (.pointer (some ⟨k.p, 0, none⟩)) := cell_heap (heap_old x0) rfl
  have y9 : W.cell? ⟨w.heap.size, 0, none⟩ = some (.pointer (some ⟨k.p, 0, none⟩)) := cell_heap x0 rfl
  have HX0 := hide (heap_old (p := .cells #[.int .i64 f] 3) x0)
  have hne : ((l1.length : Int) != l2.length) = false := by rw [he]; simp
  have HBL := hide hbl
  have HA := hide hA
  have HD := hide d
  have HAD := hide ad
  have HS1 := hide hS1
  have HS2 := hide hS2
  have HL1 := hide hl1
  have HL2 := hide hl2
  have HN := hide hnd
  have HE := hide he
  have hn2 : l2.length ≤ 1000000 := by omega
  generalize hR : nS S t * 2 ^ (nS S t + 2) + 2 = R at *
  have HR := hide hR
  have hmm := @run_makeMap Try.prog
  clear hA g1 d hbl ad hb1 x0 hsW hR hS1 hS2 hl1 hl2 hnd he
  subst hWd
  go_enter Try.func16, Try.ntmps16
  go_wp2_with fail
  refine HC.out.mono ?_
  rintro e w1 ⟨rfl, rfl⟩
  go_wp2_with fail
  refine HK1.out.mono ?_
  rintro e w2 ⟨rfl, hb⟩
  have z0 := hide (heapB hb HX0.out)
  have HB2 := hide (below_wide HBL.out hb)
  have y2 : w2.cell? ⟨w.heap.size, 0, none⟩ = some (.pointer (some ⟨k.p, 0, none⟩)) := cell_heap z0.out rfl
  clear hb HX0 HC HK1 y0 y9
  go_wp2_with fail
  refine (HK2.out _ HB2.out).mono ?_
  rintro e w3 ⟨rfl, hb⟩
  have z3 := hide (heapB hb z0.out)
  have HB3 := hide (below_wide HB2.out hb)
  have s3 := HB3.out.size
  have y3 : w3.cell? ⟨w.heap.size, 0, none⟩ = some (.pointer (some ⟨k.p, 0, none⟩)) := cell_heap z3.out rfl
  clear hb HK2 z0 y2
  go_wp2_with fail
  have hr0 := hide (rn_start w3 (l1.zip l2))
  generalize (w3.alloc (.map #[] 0)).alloc (.cells #[.map (some w3.heap.size)] 79) = w4 at *
  go_loopw [12, 13, 14, 15, 43] (fun _ _ _ _ j wr => ∃ i : Nat, j = .int .i64 i ∧ i ≤ l1.length ∧ Rn w3 wr (l1.zip l2) i) (fun _ _ _ _ j _ => l1.length - (intOf j).toNat)
  case atStart => exact ⟨0, rfl, Nat.zero_le _, hr0.out⟩
  case round =>
    obtain ⟨i, rfl, hi, hRn⟩ := hrel
    rcases Nat.lt_or_ge i l1.length with hlt | hge
    · have hlen := HE.out
      obtain ⟨x, hx⟩ : ∃ x, l1[i]? = some x := ⟨_, List.getElem?_eq_getElem hlt⟩
      obtain ⟨y, hy⟩ : ∃ y, l2[i]? = some y := ⟨_, List.getElem?_eq_getElem (by omega)⟩
      have d1 : decide (i < l1.length) = true := by simpa using hlt
      have d2 : ((i : Int) < l1.length) := by omega
      have d3 : ((i : Int) < l2.length) := by omega
      have hxs := HL1.out x (List.mem_of_getElem? hx)
      have hys := HL2.out y (List.mem_of_getElem? hy)
      obtain ⟨ad1, rfl, hc1⟩ := src_at (Src.below HS1.out (below_wide HB3.out hRn.b)) (i := i) (x := (x : Int)) (by unfold encL; rw [List.getElem?_map, hx]; rfl)
      obtain ⟨ad2, rfl, hc2⟩ := src_at (Src.below HS2.out (below_wide HB3.out hRn.b)) (i := i) (x := (y : Int)) (by unfold encL; rw [List.getElem?_map, hy]; rfl)
      have k1 := cell_heap (j := 0) hRn.c rfl
      have hnone : intoF ((l1.zip l2).take i) x = none := intoF_none (zip_take_first HN.out hx)
      have lk : (Instr.lookup 79 (.map (some w3.heap.size)) (.int .i32 x) true).run Try.prog wr = .ok (.tuple #[.int .i32 0, .bool false]) wr := by
        have := hRn.m.look keyed3 Try.underlying79 Try.underlying21 (zero3 _) (key3 x (by omega) (by omega))
        rw [hnone] at this
        exact this
      have hwx : IntKind.i32.wrap (x : Int) = x := wrap3 (by omega) (by omega)
      have hwy : IntKind.i32.wrap (y : Int) = y := wrap3 (by omega) (by omega)
      have k1' : wr.drew.cell? ⟨w3.heap.size + 1, 0, none⟩ = some (.map (some w3.heap.size)) := k1
      have hc2' : wr.drew.cell? (ad2.add i) = some (.int .i64 y) := hc2
      have HRN := hide (show Rn w3 wr.drew (l1.zip l2) i from ⟨hRn.b.drew, hRn.c, hRn.m.kept (below_grown (Below.refl _ wr).drew none) (by simp)⟩)
      have hx3 := key3 (x : Int) (by omega) (by omega)
      have hwf : (Lit.int .i32 y).wf = true := wf3 (by omega) (by omega)
      have himax : i < maxLen := by unfold maxLen; omega
      have HXY := hide (And.intro hx hy)
      clear hRn hnone hx hy hlen
      go_wp2_with fail
      go_still_tail 8, (by kernel_rfl)
      change wpList _ _ _ _ _ wr.drew
      generalize wr.drew = w5 at *
      go_wp2_with (at_mapUpdate; go_must (refine wpList_put rfl (.tmp 56) (.tmp 58) (.tmp 63) rfl HRN.out.m keyed3 Try.underlying79 Try.underlying21 himax enc3_inj rfl (x : Int) _ rfl hx3 (y : Int) rfl hwf ?_))
      intro w6 hmi hmt
      have HR6 := hide (HRN.out.next HXY.out.1 HXY.out.2 hmi hmt)
      clear hmi hmt
      go_wp2_with fail
      go_roundw
      case rel => exact ⟨i + 1, by go_num, by omega, HR6.out⟩
      case measure => simp [intOf]; omega
    · have e : i = l1.length := by omega
      have d1 : decide (i < l1.length) = false := by simp; omega
      have hb4 := (below_wide HB3.out hRn.b).drew
      have z0' := heapB hRn.b z3.out
      have hA3 := HA.out.below hb4
      have hzl : (l1.zip l2).length = l1.length := by rw [List.length_zip, HE.out, Nat.min_self]
      have hmi := hRn.m
      rw [e, ← hzl, List.take_length] at hmi
      have k2 : wr.drew.cell? ⟨w.heap.size, 0, none⟩ = some (.pointer (some ⟨k.p, 0, none⟩)) := cell_heap z0' rfl
      have k3' : wr.drew.cell? ⟨w3.heap.size + 1, 0, none⟩ = some (.map (some w3.heap.size)) := cell_heap (j := 0) hRn.c rfl
      have hlt3 := HAD.out.vs
      have HEA := hide (each_any S (imgS S (rnOf (l1.zip l2))) anyB (renT (rnOf (l1.zip l2))) k s _ _ f t F wr.drew hA3 HD.out (rename_made S (l1.zip l2) s.nd k wr.drew (w3.heap.size + 1) w.heap.size w3.heap.size _ (fun p hp => by
        obtain ⟨j, hj⟩ := List.mem_iff_getElem?.1 hp
        have := HL2.out p.2 (List.mem_of_getElem? (List.getElem?_zip_eq_some.1 hj).2)
        omega) k3' k2 (HF.out _ (by omega)) (HF.out _ (by omega)) (HF.out _ (by omega)) (hmi.kept (below_grown (Below.refl _ wr).drew none) (by simp))) call_rename trivial rfl rfl (by have := HR.out; omega))
      rw [HR.out] at HEA
      have hmR : s.m + R ≤ 1000000000 := by have := HR.out; omega
      have HB4 := hide hb4
      have hnf := HF.out w.heap.size (by omega)
      have hlt' : w.heap.size < wr.drew.heap.size := lt_of_cell k2
      have hdd : decide ((i : Int) < l1.length) = false := by simp; omega
      clear hb4 hA3 z0' k3' hRn hmi e hzl
      have hwr : IntKind.i32.wrap (f : Int) = f := wrap3 (by omega) (by omega)
      go_wp2_with fail
      go_region_held3 (fun w' => w'.cell? ⟨w.heap.size, 0, none⟩ = some (.pointer (some ⟨k.p, 0, none⟩)))
        (first | exact k2 | exact k3 | exact k4)
        (first
          | (go_at_call 38; (with_reducible refine HEA.out.mono ?_); intro e w3 hh; unfold NodeOut at hh; obtain ⟨k1, s1, r, he, hA3, T3, U3, m3, o3⟩ := hh; subst he; have k3 := T3.cell k2 hnf; have HA3 := hide hA3; have HT3 := hide T3; have HU3 := hide U3; have HM3 := hide m3; have HO3 := hide o3; clear hA3 T3 U3 m3 o3)
          | (go_at_call 37; (with_reducible refine (give_call HA3.out HO3.out HM3.out hmR HU3.out HAD.out HT3.out.p).mono ?_); intro e w4 hg; obtain ⟨x, y, he, T4⟩ := give_two hg; subst he; have k4 := T4.cell k3 (HT3.out.fpn hlt' hnf); have HX := hide (api_call HU3.out HM3.out HO3.out ((Turn.below (k := k) HB4.out).trans HT3.out) HA3.out.wf hg); clear hg T4))
      all_goals (
        go_wp2_with fail
        go_ret2
        exact HX.out)
end Go.Proofs.Ytgfjdkkfgclhjaa.Bd
/- How many nodes a diagram has. -/
namespace Go.Proofs.Ytgfjdkkfgclhjaa.Bd

theorem Den.indepS {S : Nat → Bool} {nd : List Nd} {i t : Nat} {F : Env → Bool} (h : Den S nd i t F) : ∀ ρ ρ' : Env, (∀ x, t ≤ x → x < 256 → S x = true → ρ x = ρ' x) → F ρ = F ρ' := by
  induction h with
  | zero => intro _ _ _; rfl
  | one => intro _ _ _; rfl
  | node h h2 hl hh hne h1 h3 hv hS _ _ il ih =>
    intro ρ ρ' hq
    simp only
    rw [hq _ (Nat.le_refl _) hv hS, il ρ ρ' (fun x hx h => hq x (by omega) h), ih ρ ρ' (fun x hx h => hq x (by omega) h)]
theorem nS_lt {S : Nat → Bool} {x y : Nat} (h : x ≤ y) (hy : y < 256) (hS : S y = true) : nS S (y + 1) < nS S x := by
  have h1 := nS_le S h
  have h2 := nS_step S hy
  rw [hS, if_pos rfl] at h2
  omega
def bitsEnv (S : Nat → Bool) (b : Nat) : Env := fun x => b.testBit (nS S (x + 1))
def code (S : Nat → Bool) (F : Env → Bool) : Nat :=
  (F (bitsEnv S 0)).toNat + 2 * (F (bitsEnv S 1)).toNat + 4 * (F (bitsEnv S 2)).toNat + 8 * (F (bitsEnv S 3)).toNat + 16 * (F (bitsEnv S 4)).toNat + 32 * (F (bitsEnv S 5)).toNat + 64 * (F (bitsEnv S 6)).toNat + 128 * (F (bitsEnv S 7)).toNat
theorem toNat_le (b : Bool) : b.toNat ≤ 1 := by cases b <;> simp
theorem toNat_inj {a b : Bool} (h : a.toNat = b.toNat) : a = b := by cases a <;> cases b <;> simp_all
theorem code_lt (S : Nat → Bool) (F : Env → Bool) : code S F < 256 := by
  unfold code
  have := toNat_le (F (bitsEnv S 0)); have := toNat_le (F (bitsEnv S 1)); have := toNat_le (F (bitsEnv S 2)); have := toNat_le (F (bitsEnv S 3))
  have := toNat_le (F (bitsEnv S 4)); have := toNat_le (F (bitsEnv S 5)); have := toNat_le (F (bitsEnv S 6)); have := toNat_le (F (bitsEnv S 7))
  omega
theorem code_inj {S : Nat → Bool} {F G : Env → Bool} (h : code S F = code S G) : ∀ b, b < 8 → F (bitsEnv S b) = G (bitsEnv S b) := by
  unfold code at h
  have := toNat_le (F (bitsEnv S 0)); have := toNat_le (F (bitsEnv S 1)); have := toNat_le (F (bitsEnv S 2)); have := toNat_le (F (bitsEnv S 3))
  have := toNat_le (F (bitsEnv S 4)); have := toNat_le (F (bitsEnv S 5)); have := toNat_le (F (bitsEnv S 6)); have := toNat_le (F (bitsEnv S 7))
  have := toNat_le (G (bitsEnv S 0)); have := toNat_le (G (bitsEnv S 1)); have := toNat_le (G (bitsEnv S 2)); have := toNat_le (G (bitsEnv S 3))
  have := toNat_le (G (bitsEnv S 4)); have := toNat_le (G (bitsEnv S 5)); have := toNat_le (G (bitsEnv S 6)); have := toNat_le (G (bitsEnv S 7))
  intro b hb
  apply toNat_inj
  rcases (by omega : b = 0 ∨ b = 1 ∨ b = 2 ∨ b = 3 ∨ b = 4 ∨ b = 5 ∨ b = 6 ∨ b = 7) with rfl | rfl | rfl | rfl | rfl | rfl | rfl | rfl <;> omega
theorem bits3 : ∀ p q r : Bool, (p.toNat + 2 * q.toNat + 4 * r.toNat) < 8 ∧ (p.toNat + 2 * q.toNat + 4 * r.toNat).testBit 0 = p ∧ (p.toNat + 2 * q.toNat + 4 * r.toNat).testBit 1 = q ∧ (p.toNat + 2 * q.toNat + 4 * r.toNat).testBit 2 = r := by decide
theorem low_env (S : Nat → Bool) {t : Nat} (ht : nS S t ≤ 3) (ρ : Env) : ∃ b, b < 8 ∧ ∀ x, t ≤ x → x < 256 → S x = true → ρ x = bitsEnv S b x := by
  classical
  let p : Nat → Bool := fun j => decide (∃ x, t ≤ x ∧ x < 256 ∧ S x = true ∧ nS S (x + 1) = j ∧ ρ x = true)
  obtain ⟨h0, h1, h2, h3⟩ := bits3 (p 0) (p 1) (p 2)
  refine ⟨_, h0, fun x hx h256 hS => ?_⟩
  have key : ρ x = p (nS S (x + 1)) := by
    rw [Bool.eq_iff_iff]
    simp only [p, decide_eq_true_eq]
    constructor
    · intro h; exact ⟨x, hx, h256, hS, rfl, h⟩
    · rintro ⟨y, hy, hy2, hS2, e, h⟩
      have : y = x := by
        rcases Nat.lt_trichotomy x y with h' | h' | h'
        · have := nS_lt (S := S) (show x + 1 ≤ y by omega) hy2 hS2; omega
        · exact h'.symm
        · have := nS_lt (S := S) (show y + 1 ≤ x by omega) h256 hS; omega
      rw [← this]; exact h
  have hlt := nS_lt hx h256 hS
  unfold bitsEnv
  rw [key]
  rcases (by omega : nS S (x + 1) = 0 ∨ nS S (x + 1) = 1 ∨ nS S (x + 1) = 2) with e | e | e <;> rw [e]
  · exact h1.symm
  · exact h2.symm
  · exact h3.symm
theorem low_eq {S : Nat → Bool} {nd : List Nd} (ho : Once nd) {i j t s : Nat} {F G : Env → Bool} (d : Den S nd i t F) (d' : Den S nd j s G) (ht : nS S t ≤ 3) (hs : nS S s ≤ 3) (hc : code S F = code S G) : i = j := by
  have hc := code_inj hc
  have e : F = G := by
    funext ρ
    rcases Nat.le_total t s with h | h
    · obtain ⟨b, hb, hx⟩ := low_env S ht ρ
      rw [d.indepS ρ _ hx, d'.indepS ρ _ (fun x h1 => hx x (by omega)), hc b hb]
    · obtain ⟨b, hb, hx⟩ := low_env S hs ρ
      rw [d.indepS ρ _ (fun x h1 => hx x (by omega)), d'.indepS ρ _ hx, hc b hb]
  subst e
  exact d.eq ho d'
theorem low_len {S : Nat → Bool} {nd : List Nd} (ho : Once nd) {L : List Nat} (hn : L.Nodup) (h : ∀ x ∈ L, ∃ t F, Den S nd x t F ∧ nS S t ≤ 3) : L.length ≤ 256 := by
  classical
  let c : Nat → Nat := fun x => if h : ∃ F t, Den S nd x t F then code S h.choose else 0
  have hc : ∀ x t F, Den S nd x t F → c x = code S F := by
    intro x t F d
    have h : ∃ F t, Den S nd x t F := ⟨F, t, d⟩
    simp only [c, dif_pos h]
    obtain ⟨t', d'⟩ := h.choose_spec
    rw [(d'.det d).2]
  have := nodup_len (fr := L.map c) (n := 256) ?_ ?_
  · simpa using this
  · unfold List.Nodup
    rw [List.pairwise_map]
    refine List.Pairwise.imp_of_mem ?_ hn
    intro a b ha hb hne he
    obtain ⟨t, F, d, ht⟩ := h a ha
    obtain ⟨s, G, d', hs⟩ := h b hb
    rw [hc a t F d, hc b s G d'] at he
    exact hne (low_eq ho d d' ht hs he)
  · intro y hy
    obtain ⟨x, hx, rfl⟩ := List.mem_map.1 hy
    obtain ⟨t, F, d, _⟩ := h x hx
    rw [hc x t F d]
    exact code_lt _ _
def topOf (nd : List Nd) (x : Nat) : Nat := match nd[x]? with | some (v, _, _) => v | none => 256
theorem topOf_den {S : Nat → Bool} {nd : List Nd} (hw : WF nd) {x t : Nat} {F : Env → Bool} (d : Den S nd x t F) : topOf nd x = t := by
  unfold topOf
  cases d with
  | zero => rw [hw.e0]
  | one => rw [hw.e1]
  | node h => rw [h]
def hiB (S : Nat → Bool) (nd : List Nd) (x : Nat) : Bool := decide (3 < nS S (topOf nd x))
def hiN (S : Nat → Bool) (nd : List Nd) (fr : List Nat) : Nat := (fr.filter (hiB S nd)).length
theorem vis_hi {S : Nat → Bool} {nd : List Nd} (hw : WF nd) {he : Int → Bool} : ∀ (n : Nat) (fr : List Nat) (f t : Nat) (F : Env → Bool), Den S nd f t F → hiN S nd (vis nd he n fr f) + 1 ≤ hiN S nd fr + 2 ^ (nS S t - 3) := by
  intro n
  induction n with
  | zero => intro fr f t F d; unfold vis; have := Nat.one_le_two_pow (n := nS S t - 3); omega
  | succ n ih =>
    intro fr f t F d
    have hp := Nat.one_le_two_pow (n := nS S t - 3)
    unfold vis
    split
    · omega
    · rename_i hc
      obtain ⟨lo, hi, tl, th, Fl, Fh, hr, r1, r2, r3, r4, r5, r6, r7, dl, dh, _⟩ := d.row (by omega)
      rw [hr]
      simp only
      have i1 := ih (fr ++ [f]) lo tl Fl dl
      have i2 := ih (vis nd he n (fr ++ [f]) lo) hi th Fh dh
      have e1 : hiN S nd (fr ++ [f]) = hiN S nd fr + if 3 < nS S t then 1 else 0 := by
        unfold hiN
        rw [List.filter_append, List.length_append]
        congr 1
        unfold hiB
        simp only [List.filter_cons, List.filter_nil, topOf_den hw d]
        split <;> simp_all
      have hst := nS_step S r6
      rw [r7, if_pos rfl] at hst
      have l1 := nS_le S (show t + 1 ≤ tl by omega)
      have l2 := nS_le S (show t + 1 ≤ th by omega)
      by_cases h3 : 3 < nS S t
      · rw [if_pos h3] at e1
        have p1 : 2 ^ (nS S tl - 3) ≤ 2 ^ (nS S (t + 1) - 3) := Nat.pow_le_pow_right (by omega) (by omega)
        have p2 : 2 ^ (nS S th - 3) ≤ 2 ^ (nS S (t + 1) - 3) := Nat.pow_le_pow_right (by omega) (by omega)
        have p3 : 2 ^ (nS S t - 3) = 2 * 2 ^ (nS S (t + 1) - 3) := by
          rw [show nS S t - 3 = (nS S (t + 1) - 3) + 1 by omega, Nat.pow_succ]; omega
        omega
      · rw [if_neg h3] at e1
        have p1 : 2 ^ (nS S tl - 3) = 1 := by rw [show nS S tl - 3 = 0 by omega]
        have p2 : 2 ^ (nS S th - 3) = 1 := by rw [show nS S th - 3 = 0 by omega]
        omega
theorem vis_den {S : Nat → Bool} {nd : List Nd} {he : Int → Bool} : ∀ (n : Nat) (fr : List Nat) (f t : Nat) (F : Env → Bool), Den S nd f t F → ∀ x ∈ vis nd he n fr f, x ∈ fr ∨ ∃ t' F', Den S nd x t' F' := by
  intro n
  induction n with
  | zero => intro fr f t F d x hx; exact .inl hx
  | succ n ih =>
    intro fr f t F d x hx
    unfold vis at hx
    split at hx
    · exact .inl hx
    · obtain ⟨lo, hi, tl, th, Fl, Fh, hr, r1, r2, r3, r4, r5, r6, r7, dl, dh, _⟩ := d.row (by omega)
      rw [hr] at hx
      simp only at hx
      rcases ih _ _ _ _ dh x hx with h | h
      · rcases ih _ _ _ _ dl x h with h | h
        · rcases List.mem_append.1 h with h | h
          · exact .inl h
          · have : x = f := by simpa using h
            subst this
            exact .inr ⟨t, F, d⟩
        · exact .inr h
      · exact .inr h
/-- a diagram over k variables has few nodes -/
theorem fresh_le {S : Nat → Bool} {s : St} (hw : WF s.nd) {f t : Nat} {F : Env → Bool} (d : Den S s.nd f t F) : (fresh s f).length ≤ 2 ^ (nS S t - 3) + 255 := by
  have hM := vis_met hw (he := s.he) (f + 1) [] f (d.lt hw) (Met.nil _ _)
  have h1 := vis_hi hw (he := s.he) (f + 1) [] f t F d
  have e : hiN S s.nd [] = 0 := rfl
  have hd := vis_den (he := s.he) (f + 1) [] f t F d
  have h2 := low_len (S := S) hw.once (L := (vis s.nd s.he (f + 1) [] f).filter fun x => !hiB S s.nd x) (hM.nodup.sublist List.filter_sublist) ?_
  · have h3 : ∀ (p : Nat → Bool) (l : List Nat), l.length = (l.filter p).length + (l.filter fun x => !p x).length := by
      intro p l
      induction l with
      | nil => rfl
      | cons x xs ih => simp only [List.filter_cons, List.length_cons]; cases p x <;> simp <;> omega
    have := h3 (hiB S s.nd) (vis s.nd s.he (f + 1) [] f)
    unfold fresh
    unfold hiN at h1 e
    omega
  · intro x hx
    obtain ⟨hx1, hx2⟩ := List.mem_filter.1 hx
    rcases hd x hx1 with h | ⟨t', F', d'⟩
    · cases h
    · refine ⟨t', F', d', ?_⟩
      unfold hiB at hx2
      rw [topOf_den hw d'] at hx2
      simp at hx2
      omega
end Go.Proofs.Ytgfjdkkfgclhjaa.Bd
/- Not, And, Or, Xor; what each call answers, in one form. -/
namespace Go.Proofs.Ytgfjdkkfgclhjaa.Bd
open Go.RowKit Go.Proofs.Ytgfjdkkfgclhjaa Go.Proofs.Ytgfjdkkfgclhjaa.Lx Go.Maps

/-- node r is the function G, over variables of S -/
def OkSem (S : Nat → Bool) (G : Env → Bool) (nd' : List Nd) (r : Nat) : Prop := ∃ t, Den S nd' r t G
theorem ApiOut.mono {k : Blk} {s : St} {w w' : World} {R R' : Nat} {ok ok' : List Nd → Nat → Prop} {e : Ending} (h : ApiOut k s w R ok e w') (hR : R ≤ R') (ho : ∀ nd' r, (∃ ex, nd' = s.nd ++ ex) → ok nd' r → ok' nd' r) : ApiOut k s w R' ok' e w' := by
  obtain ⟨k', s1, r, U, hm, o, T, hw, hr, h⟩ := h
  exact ⟨k', s1, r, U, by omega, ho _ _ U.nd o, T, hw, hr, h⟩
theorem okSem_of {S : Nat → Bool} {G : Env → Bool} {P : Nat → Prop} {nd' : List Nd} {r : Nat} (h : ∃ t', P t' ∧ Den S nd' r t' G) : OkSem S G nd' r := by
  obtain ⟨t', _, d⟩ := h
  exact ⟨t', d⟩
theorem min_le (S : Nat → Bool) (a : Nat) : nS S a ≤ nS S 0 := nS_le S (Nat.zero_le _)
/-- Ite, said of functions -/
theorem Ite_sem (S : Nat → Bool) (k : Blk) (s : St) (f g h tf tg th n : Nat) (F G H : Env → Bool) (w : World) (hA : Ar w k s) (ad : Adm s) (g1 : s.gi f = true) (g2 : s.gi g = true) (g3 : s.gi h = true) (d1 : Den S s.nd f tf F) (d2 : Den S s.nd g tg G) (d3 : Den S s.nd h th H) (hn : nS S 0 ≤ n) (hm : s.m + 2 ^ (n + 1) ≤ 1000000000) :
    Calls Try.prog 19 #[.pointer (some ⟨k.p, 0, none⟩), .int .i64 f, .int .i64 g, .int .i64 h] w (ApiOut k s w (2 ^ (n + 1)) (OkSem S (fun ρ => if F ρ then G ρ else H ρ))) := by
  have hl := min_le S (min tf (min tg th))
  have hp : 2 ^ (nS S (min tf (min tg th)) + 1) ≤ 2 ^ (n + 1) := Nat.pow_le_pow_right (by omega) (by omega)
  refine (Ite_any S k s f g h tf tg th F G H w hA ad g1 g2 g3 d1 d2 d3 (by omega)).mono ?_
  intro e w' ho
  refine ho.mono hp (fun nd' r hex o => ?_)
  obtain ⟨t, _, d⟩ := o S tf tg th F G H d1 d2 d3
  exact ⟨t, d⟩
theorem gi01 {s : St} (h : s.gi 0 = true ∧ s.gi 1 = true) : s.gi ((0 : Nat) : Int) = true ∧ s.gi ((1 : Nat) : Int) = true := h
set_option maxRecDepth 100000 in
theorem Not_sem (S : Nat → Bool) (k : Blk) (s : St) (f tf n : Nat) (F : Env → Bool) (w : World) (hA : Ar w k s) (ad : Adm s) (g0 : s.gi 0 = true ∧ s.gi 1 = true) (g1 : s.gi f = true) (d1 : Den S s.nd f tf F) (hn : nS S 0 ≤ n) (hm : s.m + 2 ^ (n + 1) ≤ 1000000000) :
    Calls Try.prog 10 #[.pointer (some ⟨k.p, 0, none⟩), .int .i64 f] w (ApiOut k s w (2 ^ (n + 1)) (OkSem S (fun ρ => !F ρ))) := by
  have e : (fun ρ => !F ρ) = fun ρ => if F ρ then false else true := by funext ρ; cases F ρ <;> rfl
  rw [e]
  have HC := hide (Ite_sem S k s f 0 1 tf 256 256 n F _ _ w hA ad g1 g0.1 g0.2 d1 .zero .one hn hm)
  clear hA ad g0 g1 d1 hn hm e
  go_enter Try.func10, Try.ntmps10
  go_wp2_with fail
  refine HC.out.mono ?_
  intro e w1 hh
  obtain ⟨x, y, he, HX⟩ := api_two hh (Below.refl _ w)
  subst he
  have HX := hide HX
  clear hh
  go_wp2_with fail
  go_ret2
  exact HX.out
set_option maxRecDepth 100000 in
theorem And_sem (S : Nat → Bool) (k : Blk) (s : St) (f g tf tg n : Nat) (F G : Env → Bool) (w : World) (hA : Ar w k s) (ad : Adm s) (g0 : s.gi 0 = true ∧ s.gi 1 = true) (g1 : s.gi f = true) (g2 : s.gi g = true) (d1 : Den S s.nd f tf F) (d2 : Den S s.nd g tg G) (hn : nS S 0 ≤ n) (hm : s.m + 2 ^ (n + 1) ≤ 1000000000) :
    Calls Try.prog 24 #[.pointer (some ⟨k.p, 0, none⟩), .int .i64 f, .int .i64 g] w (ApiOut k s w (2 ^ (n + 1)) (OkSem S (fun ρ => F ρ && G ρ))) := by
  have e : (fun ρ => F ρ && G ρ) = fun ρ => if F ρ then G ρ else false := by funext ρ; cases F ρ <;> simp
  rw [e]
  have HC := hide (Ite_sem S k s f g 0 tf tg 256 n F G _ w hA ad g1 g2 g0.1 d1 d2 .zero hn hm)
  clear hA ad g0 g1 g2 d1 d2 hn hm e
  go_enter Try.func24, Try.ntmps24
  go_wp2_with fail
  refine HC.out.mono ?_
  intro e w1 hh
  obtain ⟨x, y, he, HX⟩ := api_two hh (Below.refl _ w)
  subst he
  have HX := hide HX
  clear hh
  go_wp2_with fail
  go_ret2
  exact HX.out
set_option maxRecDepth 100000 in
theorem Or_sem (S : Nat → Bool) (k : Blk) (s : St) (f g tf tg n : Nat) (F G : Env → Bool) (w : World) (hA : Ar w k s) (ad : Adm s) (g0 : s.gi 0 = true ∧ s.gi 1 = true) (g1 : s.gi f = true) (g2 : s.gi g = true) (d1 : Den S s.nd f tf F) (d2 : Den S s.nd g tg G) (hn : nS S 0 ≤ n) (hm : s.m + 2 ^ (n + 1) ≤ 1000000000) :
    Calls Try.prog 22 #[.pointer (some ⟨k.p, 0, none⟩), .int .i64 f, .int .i64 g] w (ApiOut k s w (2 ^ (n + 1)) (OkSem S (fun ρ => F ρ || G ρ))) := by
  have e : (fun ρ => F ρ || G ρ) = fun ρ => if F ρ then true else G ρ := by funext ρ; cases F ρ <;> simp
  rw [e]
  have HC := hide (Ite_sem S k s f 1 g tf 256 tg n F _ G w hA ad g1 g0.2 g2 d1 .one d2 hn hm)
  clear hA ad g0 g1 g2 d1 d2 hn hm e
  go_enter Try.func22, Try.ntmps22
  go_wp2_with fail
  refine HC.out.mono ?_
  intro e w1 hh
  obtain ⟨x, y, he, HX⟩ := api_two hh (Below.refl _ w)
  subst he
  have HX := hide HX
  clear hh
  go_wp2_with fail
  go_ret2
  exact HX.out
theorem cells2 (w : World) (a b : Int) : ∀ (j : Nat) (x : Int), [a, b][j]? = some x → (w.alloc (.cells #[.int .i64 a, .int .i64 b] 3)).cell? ⟨w.heap.size, j, none⟩ = some (.int .i64 x) := by
  intro j x hx
  refine cell_heap (heap_new _ _) ?_
  match j, hx with
  | 0, hx => simpa using hx
  | 1, hx => simpa using hx
  | j + 2, hx => simp at hx
set_option maxHeartbeats 1000000 in
set_option maxRecDepth 100000 in
theorem Xor_sem (S : Nat → Bool) (k : Blk) (s : St) (f g tf tg n : Nat) (F G : Env → Bool) (w : World) (hA : Ar w k s) (ad : Adm s) (g1 : s.gi f = true) (g2 : s.gi g = true) (d1 : Den S s.nd f tf F) (d2 : Den S s.nd g tg G) (hn : nS S 0 ≤ n) (hm : s.m + 2 ^ (n + 2) ≤ 1000000000) :
    Calls Try.prog 42 #[.pointer (some ⟨k.p, 0, none⟩), .int .i64 f, .int .i64 g] w (ApiOut k s w (2 ^ (n + 2)) (OkSem S (fun ρ => if F ρ then !G ρ else G ρ))) := by
  have hW := hA.wf
  have hnm := hA.nm
  have l1 := d1.lt hW
  have l2 := d2.lt hW
  have hp2 : 2 ^ (n + 2) = 2 * 2 ^ (n + 1) := by rw [Nat.pow_succ _ (n + 1)]; omega
  have hp1 : 2 ≤ 2 ^ (n + 1) := by have := Nat.one_le_two_pow (n := n); rw [Nat.pow_succ]; omega
  have hq : ∀ a, 2 ^ (nS S a + 1) ≤ 2 ^ (n + 1) := fun a => Nat.pow_le_pow_right (by omega) (by have := min_le S a; omega)
  have hbl := bel_one w (.cells #[.int .i64 f, .int .i64 g] 3)
  have HC := hide (check_any k s [(f : Int), g] w.heap.size _ (hA.below hbl) (cells2 w f g) (by simp; omega) (by simp))
  rw [show [(f : Int), g].length = 2 from rfl, gvn_all (s := s) (l := [(f : Int), g]) (by simp [g1, g2])] at HC
  have q1 := hq (min tg (min 256 256))
  have HI : Hid (Calls Try.prog 40 #[.pointer (some ⟨k.p, 0, none⟩), .int .i32 g, .int .i32 0, .int .i32 1] (w.alloc (.cells #[.int .i64 f, .int .i64 g] 3)) (NodeOut k s (w.alloc (.cells #[.int .i64 f, .int .i64 g] 3)) (2 ^ (nS S (min tg (min 256 256)) + 1)) (fun nd' r => OkIte s.nd nd' g 0 1 r))) := hide (ite_any S k s g 0 1 tg 256 256 G _ _ _ (hA.below hbl) d2 .zero .one (by omega))
  have HI2 : Hid (∀ (k1 : Blk) (s1 : St) (w1 : World) (x : Nat), Ar w1 k1 s1 → k1.p = k.p → Up s s1 → s1.m + 2 ≤ s.m + 2 ^ (n + 1) → OkIte s.nd s1.nd g 0 1 x → Calls Try.prog 40 #[.pointer (some ⟨k.p, 0, none⟩), .int .i32 f, .int .i32 x, .int .i32 g] w1 fun e w' => ∃ k' s' r, e = .returned (.int .i32 (r : Nat)) ∧ Ar w' k' s' ∧ Turn k1 k' w1 w' ∧ Up s s' ∧ s'.m + 2 ≤ s.m + 2 ^ (n + 2) ∧ ∃ t', anyB 0 t' ∧ Den S s'.nd r t' (fun ρ => if F ρ then !G ρ else G ρ)) := by
    intro k1 s1 w1 x hA1 hp U hm1 o
    obtain ⟨tx, _, dx⟩ := o S _ _ _ _ _ _ d2 .zero .one
    rw [← hp]
    have q2 := hq (min tf (min tx tg))
    refine (ite_any S k1 s1 f x g tf tx tg F _ G w1 hA1 (d1.up U) dx (d2.up U) (by omega)).mono ?_
    rintro e w' ⟨k', s', r, he, hA', hT', hU', hm', ho⟩
    obtain ⟨t', _, d⟩ := ho S _ _ _ _ _ _ (d1.up U) dx (d2.up U)
    refine ⟨k', s', r, he, hA', hT', U.trans hU', by omega, t', trivial, ?_⟩
    have e : (fun ρ => if F ρ then !G ρ else G ρ) = fun ρ => if F ρ then (if G ρ then false else true) else G ρ := by funext ρ; cases F ρ <;> cases G ρ <;> rfl
    rw [e]; exact d
  have HB := hide hbl
  have HAD := hide ad
  have HQ1 := hide q1
  have hw1 : IntKind.i32.wrap (f : Int) = f := wrap3 (by omega) (by omega)
  have hw2 : IntKind.i32.wrap (g : Int) = g := wrap3 (by omega) (by omega)
  generalize 2 ^ (nS S (min tg (min 256 256)) + 1) = R1 at *
  generalize hR : 2 ^ (n + 2) = R at *
  have HR := hide hR
  have HP2 := hide hp2
  clear hA ad g1 g2 d1 d2 hn hbl hq hR hp2
  go_enter Try.func42, Try.ntmps42
  go_wp2_with fail
  refine HC.out.mono ?_
  rintro e w1 ⟨rfl, rfl⟩
  go_wp2_with fail
  refine HI.out.mono ?_
  intro e w2 hh
  unfold NodeOut at hh
  obtain ⟨k1, s1, x, rfl, hA1, T1, U1, m1, o1⟩ := hh
  have hm12 : s1.m + 2 ≤ s.m + 2 ^ (n + 1) := by have := HQ1.out; omega
  have HC2 := hide (HI2.out k1 s1 w2 x hA1 T1.p U1 hm12 o1)
  have HT1 := hide T1
  clear hA1 T1 U1 m1 o1 HC HI HI2
  go_wp2_with fail
  refine HC2.out.mono ?_
  rintro e w3 ⟨k2, s2, r, rfl, hA2, T2, U2, m2, o2⟩
  have HG := hide (give_call hA2 o2 m2 hm U2 HAD.out (T2.p.trans HT1.out.p))
  have HT := hide ((Turn.below (k := k) HB.out).trans (HT1.out.trans T2))
  have HU := hide U2
  have HO := hide o2
  have HW := hide hA2.wf
  have HM := hide m2
  clear hA2 T2 U2 m2 o2 HC2
  go_wp2_with fail
  refine HG.out.mono ?_
  intro e w4 hg
  have HX := hide ((api_call HU.out HM.out HO.out HT.out HW.out hg).mono (Nat.le_refl _) (fun _ _ _ => okSem_of))
  obtain ⟨x', y', he, _⟩ := give_two hg
  subst he
  clear hg
  go_wp2_with fail
  go_ret2
  exact HX.out
end Go.Proofs.Ytgfjdkkfgclhjaa.Bd
/- At; Vars, Used; what a nil arena answers. -/
namespace Go.Proofs.Ytgfjdkkfgclhjaa.Bd
open Go.RowKit Go.Proofs.Ytgfjdkkfgclhjaa Go.Proofs.Ytgfjdkkfgclhjaa.Lx Go.Maps

def envOf (l : List Bool) : Env := fun x => l.getD x false
theorem srcB_at {w : World} {A : Option Addr} {m c : Nat} {l : List Bool} (h : Src w A m c 1 (l.map Value.bool)) {i : Nat} {x : Bool} (hx : l[i]? = some x) : ∃ ad, A = some ad ∧ w.cell? (ad.add i) = some (.bool x) := by
  obtain ⟨h1, ⟨_, h2, _⟩ | ⟨ad, h2, h3⟩⟩ := h
  · have := lt_of_some hx
    simp only [List.length_map] at h1
    omega
  · exact ⟨ad, h2, h3 i _ (by rw [List.getElem?_map, hx]; rfl)⟩
set_option maxHeartbeats 2000000 in
set_option maxRecDepth 100000 in
theorem At_any (S : Nat → Bool) (k : Blk) (s : St) (f t : Nat) (F : Env → Bool) (A : Option Addr) (c : Nat) (vals : List Bool) (w : World) (hA : Ar w k s) (g1 : s.gi f = true) (d : Den S s.nd f t F) (hS : Src w A vals.length c 1 (vals.map Value.bool)) (hn : vals.length = s.vs) (hv : s.vs ≤ 256) (hSv : ∀ x, S x = true → x < s.vs) (hm : s.m + 2 ≤ 1000000000) :
    Calls Try.prog 14 #[.pointer (some ⟨k.p, 0, none⟩), .int .i64 f, .slice A vals.length c] w fun e w' => e = .returned (.tuple #[.bool (F (envOf vals)), .int .i64 0]) ∧ Below w.heap.size w w' := by
  have hW := hA.wf
  have hnm := hA.nm
  have l1 := d.lt hW
  have hbl := bel_one w (.cells #[.int .i64 f] 3)
  have HC := hide (check_any k s [(f : Int)] w.heap.size _ (hA.below hbl) (cells1 w f) (by simp; omega) (by simp))
  rw [show [(f : Int)].length = 1 from rfl, gvn_all (s := s) (l := [(f : Int)]) (by simp [g1])] at HC
  have c0 : (w.alloc (.cells #[.int .i64 f] 3)).cell? ⟨k.p, 0, none⟩ = some (.int .i64 s.vs) := by obtain ⟨_, _, H, _⟩ := hA.below hbl; exact H.c0
  have hne : ((vals.length : Int) != s.vs) = false := by rw [hn]; simp
  have HA := hide hA
  have HB := hide hbl
  have HS := hide hS
  have HN := hide hn
  have HSV := hide hSv
  have HD := hide d
  clear hA hbl hS g1 hSv d
  have hv2 : vals.length ≤ 256 := by omega
  clear hn
  go_enter Try.func14, Try.ntmps14
  go_wp2_with fail
  refine HC.out.mono ?_
  rintro e w1 ⟨rfl, rfl⟩
  go_wp2_with fail
  have hw1 := HB.out
  generalize w.alloc (.cells #[.int .i64 f] 3) = w1 at *
  go_loopw [9, 10] (fun a _ wr => ∃ (i t : Nat) (G : Env → Bool), a = .int .i32 i ∧ Den S s.nd i t G ∧ G (envOf vals) = F (envOf vals) ∧ Below w.heap.size w wr) (fun a _ _ => (intOf a).toNat)
  case atStart => exact ⟨f, t, F, rfl, HD.out, rfl, hw1⟩
  case round =>
    obtain ⟨i, ti, G, rfl, dG, eG, hB⟩ := hrel
    have hil := dG.lt hW
    rcases Nat.lt_or_ge 1 i with hgt | hle
    · have d1 : decide (1 < (i : Int)) = true := by simp; omega
      obtain ⟨lo, hi, tl, th, Fl, Fh, hr, r1, r2, r3, r4, r5, r6, r7, dl, dh, eF⟩ := dG.row (by omega)
      have htv := HSV.out ti r7
      obtain ⟨b, hb⟩ : ∃ b, vals[ti]? = some b := ⟨_, List.getElem?_eq_getElem (by have := HN.out; omega)⟩
      have hbv : envOf vals ti = b := by unfold envOf; rw [List.getD_eq_getElem?_getD, hb]; rfl
      obtain ⟨fb, ft, H, I⟩ := HA.out.below hB
      obtain ⟨n0, n1, n2⟩ := H.node hr
      have c2 := H.c2
      have q1 : (i : Int) < s.nd.length := by omega
      have q2 : (ti : Int) < vals.length := by have := HN.out; omega
      have hB2 := (hB.alloc hB.size (.cells #[.int .i32 ti, .int .i32 lo, .int .i32 hi] 58))
      have z0 := cell_heap (j := 0) (heap_new wr (.cells #[.int .i32 ti, .int .i32 lo, .int .i32 hi] 58)) rfl
      have z0' : (wr.alloc (.cells #[.int .i32 ti, .int .i32 lo, .int .i32 hi] 58)).drew.cell? ⟨wr.heap.size, 0, none⟩ = some (.int .i32 ti) := z0
      obtain ⟨ad, rfl, hc⟩ := srcB_at (Src.below HS.out hB2) hb
      have hc' : (wr.alloc (.cells #[.int .i32 ti, .int .i32 lo, .int .i32 hi] 58)).drew.cell? (ad.add ti) = some (.bool b) := hc
      have HCT := hide (cut_any k s i ti b (wr.alloc (.cells #[.int .i32 ti, .int .i32 lo, .int .i32 hi] 58)).drew (HA.out.below hB2.drew) (by omega) (by omega) (by omega))
      obtain ⟨t', h1, d'⟩ := cut_den hW dG (v := ti) (Nat.le_refl _) r6 b
      have hce : (fun ρ => G (upd ρ ti b)) (envOf vals) = F (envOf vals) := by
        simp only
        have : upd (envOf vals) ti b = envOf vals := by
          funext x
          unfold upd
          split
          · rename_i e; rw [e, hbv]
          · rfl
        rw [this, eG]
      have hcl : cut s.nd i ti b < i := by
        unfold cut
        rw [hr]
        simp only [ne_eq, not_true_eq_false, if_false]
        cases b <;> simp <;> omega
      have HD2 := hide (And.intro d' hce)
      have HB2 := hide hB2.drew
      clear H I dl dh eF dG eG hr d' hce hB hB2 hb hbv
      generalize cut s.nd i ti b = i' at *
      go_wp2_with fail
      generalize wr.alloc (.cells #[.int .i32 ti, .int .i32 lo, .int .i32 hi] 58) = w3 at *
      go_still_tail 9, (by kernel_rfl)
      change wpList _ _ _ _ _ w3.drew
      go_wp2_with fail
      refine HCT.out.mono ?_
      rintro e w5 ⟨rfl, hb5⟩
      have HB5 := hide (HB2.out.trans (hb5.mono HB2.out.size))
      clear hb5
      go_wp2_with fail
      go_roundw
      case rel => exact ⟨i', t', _, rfl, HD2.out.1, HD2.out.2, HB5.out⟩
      case measure => simp [intOf]; omega
    · have d1 : decide (1 < (i : Int)) = false := by simp; omega
      obtain ⟨_, hF⟩ := dG.ends (by omega)
      have hv : decide (i = 1) = ((i : Int) == 1) := by
        rcases (by omega : i = 0 ∨ i = 1) with rfl | rfl <;> rfl
      have HV := hide (show ((i : Int) == 1) = F (envOf vals) by rw [← eG, hF, ← hv])
      have HB2 := hide hB
      clear dG eG hF hB
      go_wp2_with fail
      go_ret2
      exact ⟨by rw [← HV.out]; rfl, HB2.out⟩
theorem Vars_any (k : Blk) (s : St) (w : World) (hA : Ar w k s) : Calls Try.prog 20 #[.pointer (some ⟨k.p, 0, none⟩)] w fun e w' => e = .returned (.int .i64 s.vs) ∧ w = w' := by
  obtain ⟨_, _, H, _⟩ := hA
  have c0 := H.c0
  clear H
  go_enter Try.func20, Try.ntmps20
  go_wp2_with fail
  go_ret
  exact ⟨rfl, rfl⟩
theorem Vars_nil (w : World) : Calls Try.prog 20 #[.pointer none] w fun e w' => e = .returned (.int .i64 0) ∧ w = w' := by
  go_enter Try.func20, Try.ntmps20
  go_wp2_with fail
  go_ret
  exact ⟨rfl, rfl⟩
theorem Used_any (k : Blk) (s : St) (w : World) (hA : Ar w k s) : Calls Try.prog 21 #[.pointer (some ⟨k.p, 0, none⟩)] w fun e w' => e = .returned (.int .i64 s.hn) ∧ w = w' := by
  obtain ⟨_, _, H, _⟩ := hA
  have c6 := H.c6
  have ul : ∀ ty, (Builtin.len_ #[63] ty #[.map (some k.he)]).run Try.prog w = .ok (.int .i64 s.hn) w := fun ty => H.he.len Try.underlying63 ty
  clear H
  go_enter Try.func21, Try.ntmps21
  go_wp2_with fail
  go_ret
  exact ⟨rfl, rfl⟩
theorem Used_nil (w : World) : Calls Try.prog 21 #[.pointer none] w fun e w' => e = .returned (.int .i64 0) ∧ w = w' := by
  go_enter Try.func21, Try.ntmps21
  go_wp2_with fail
  go_ret
  exact ⟨rfl, rfl⟩
end Go.Proofs.Ytgfjdkkfgclhjaa.Bd
/- below and Support: what the visit has in memory; the closure that collects. -/
namespace Go.Proofs.Ytgfjdkkfgclhjaa.Bd
open Go.RowKit Go.Proofs.Ytgfjdkkfgclhjaa Go.Proofs.Ytgfjdkkfgclhjaa.Lx Go.Maps

/-- what the visit has in memory: fr was met, gr was told -/
structure Bs (w0 w : World) (nd : List Nd) (p b1 b2 b3 b4 sb bo ba : Nat) (fr gr : List Nat) : Prop where
  c1 : w.heap[b1]? = some (.cells #[.map (some sb)] 63 (0, 0))
  c2 : w.heap[b2]? = some (.cells #[.func (.func 48) #[] #[.pointer (some ⟨bo, 0, none⟩), .pointer (some ⟨ba, 0, none⟩)]] 87 (0, 0))
  c3 : w.heap[b3]? = some (.cells #[.func (.func 59) #[] #[.pointer (some ⟨b1, 0, none⟩), .pointer (some ⟨b2, 0, none⟩), .pointer (some ⟨b3, 0, none⟩), .pointer (some ⟨b4, 0, none⟩)]] 87 (0, 0))
  c4 : w.heap[b4]? = some (.cells #[.pointer (some ⟨p, 0, none⟩)] 24 (0, 0))
  ca : w.heap[ba]? = some (.cells #[.pointer (some ⟨p, 0, none⟩)] 24 (0, 0))
  seen : MSet Try.prog w 21 4 sb (fr.length + 2) (fr.length + 2) enc3 (seenB fr)
  row : ∃ v, w.heap[bo]? = some (.cells #[v] 37 (0, 0)) ∧ w.ownsRow w0.heap.size 3 1 v gr.length (gr.map fun (x : Nat) => encI (topOf nd x))
  below : Below w0.heap.size w0 w
  l1 : w0.heap.size ≤ b1
  l2 : w0.heap.size ≤ b2
  l3 : w0.heap.size ≤ b3
  l4 : w0.heap.size ≤ b4
  l5 : w0.heap.size ≤ sb
  l6 : w0.heap.size ≤ bo
  l7 : w0.heap.size ≤ ba
theorem infoT : (Try.prog.info? 3).map (fun i => (i.zero, i.size, i.bytes)) = some (some (.int .i64 0), 1, 8) := by kernel_rfl

variable {w0 w w' : World} {nd : List Nd} {p b1 b2 b3 b4 sb bo ba : Nat} {fr gr : List Nat}
theorem Bs.drew (V : Bs w0 w nd p b1 b2 b3 b4 sb bo ba fr gr) : Bs w0 w.drew nd p b1 b2 b3 b4 sb bo ba fr gr := ⟨V.c1, V.c2, V.c3, V.c4, V.ca, V.seen, V.row, V.below.drew, V.l1, V.l2, V.l3, V.l4, V.l5, V.l6, V.l7⟩
/-- .. a node is marked as met -/
theorem Bs.mark (V : Bs w0 w nd p b1 b2 b3 b4 sb bo ba fr gr) {f : Nat} (hm : MSet Try.prog w' 21 4 sb (fr.length + 2 + 1) (fr.length + 2 + 1) enc3 (seenB (fr ++ [f]))) (hg : w.mapTurned w' sb) : Bs w0 w' nd p b1 b2 b3 b4 sb bo ba (fr ++ [f]) gr := by
  obtain ⟨es, cl, hs⟩ := V.seen.heap
  obtain ⟨v, hv, hr⟩ := V.row
  have hg := hg.grown
  have ne : ∀ {b : Nat} {cs : Array Value} {t : TypeId}, w.heap[b]? = some (.cells cs t (0, 0)) → some sb ≠ some b := fun h => opt_ne (Ne.symm (ne_kind h hs))
  have hl : (fr ++ [f]).length = fr.length + 1 := by simp
  refine ⟨heap_grown V.c1 hg (ne V.c1), heap_grown V.c2 hg (ne V.c2), heap_grown V.c3 hg (ne V.c3), heap_grown V.c4 hg (ne V.c4), heap_grown V.ca hg (ne V.ca), by rw [hl]; exact hm, ⟨v, heap_grown hv hg (ne hv), own_kept hr hg (fun g e1 e2 => ?_)⟩, V.below.grown hg V.below.size (fun b e => by injection e with e; have := V.l5; omega), V.l1, V.l2, V.l3, V.l4, V.l5, V.l6, V.l7⟩
  injection e1 with e1
  subst e1
  exact own_ne_map hr hs e2
/-- .. and told -/
theorem Bs.put {w2 : World} {f : Nat} {v v' : Value} (V : Bs w0 w nd p b1 b2 b3 b4 sb bo ba fr gr) (e3 : w.heap[bo]? = some (.cells #[v] 37 (0, 0))) (hr : w.ownsRow w0.heap.size 3 1 v gr.length (gr.map fun (x : Nat) => encI (topOf nd x)))
    (o : Obj) (hown : w2.ownsRow w0.heap.size 3 1 v' (gr.length + 1) ((gr.map fun (x : Nat) => encI (topOf nd x)) ++ [.int .i64 (topOf nd f)])) (hg : (w.alloc o).grownBy w2 v.ownBlock) :
    w2.heap[bo]? = some (.cells #[v] 37 (0, 0)) ∧ Bs w0 (w2.setCell ⟨bo, 0, none⟩ v') nd p b1 b2 b3 b4 sb bo ba fr (gr ++ [f]) := by
  have hl : (gr ++ [f]).length = gr.length + 1 := by simp
  have hr1 := hr.alloc o
  have f1 := heap_grown (heap_old (p := o) V.c1) hg (own_ne_row hr1 (heap_old V.c1) (by decide))
  have f2 := heap_grown (heap_old (p := o) V.c2) hg (own_ne_row hr1 (heap_old V.c2) (by decide))
  have f3 := heap_grown (heap_old (p := o) V.c3) hg (own_ne_row hr1 (heap_old V.c3) (by decide))
  have f4 := heap_grown (heap_old (p := o) V.c4) hg (own_ne_row hr1 (heap_old V.c4) (by decide))
  have f5 := heap_grown (heap_old (p := o) V.ca) hg (own_ne_row hr1 (heap_old V.ca) (by decide))
  have f6 := heap_grown (heap_old (p := o) e3) hg (own_ne_row hr1 (heap_old e3) (by decide))
  have em1 := V.seen.kept (World.grownBy_alloc w o none) (by simp)
  obtain ⟨es1, cl1, hs1⟩ := em1.heap
  have em2 := em1.kept hg (fun e => own_ne_map hr1 hs1 e.symm)
  obtain ⟨es2, cl2, hs2⟩ := em2.heap
  refine ⟨f6, heap_far f1 (heap_ne f1 f6 (by decide)), heap_far f2 (heap_ne f2 f6 (by decide)), heap_far f3 (heap_ne f3 f6 (by decide)), heap_far f4 (heap_ne f4 f6 (by decide)), heap_far f5 (heap_ne f5 f6 (by decide)), em2.setCell (Ne.symm (ne_kind f6 hs2)) _, ⟨v', ?_, ?_⟩, ?_, V.l1, V.l2, V.l3, V.l4, V.l5, V.l6, V.l7⟩
  · rw [heap_set f6]; simp
  · rw [hl, List.map_append]
    refine own_kept hown grown_set (fun g e1 e2 => ?_)
    injection e1 with e1
    subst e1
    exact own_ne_row hown f6 (by decide) e2
  · exact ((V.below.alloc V.below.size o).grown hg (by have := V.below.size; simp; omega) (fun b e => (hr1.lt b e).1)).setCell V.l6 _
set_option maxHeartbeats 4000000 in
set_option maxRecDepth 100000 in
theorem support1_any (k : Blk) (s : St) (f : Nat) (H : Ar w k s) (hp : k.p = p) (hf : f < s.nd.length) (hm : s.m + 2 ≤ 1000000000) (hgl : gr.length ≤ 1000000000) (V : Bs w0 w s.nd p b1 b2 b3 b4 sb bo ba fr gr) :
    Calls Try.prog 48 #[.int .i32 f, .pointer (some ⟨bo, 0, none⟩), .pointer (some ⟨ba, 0, none⟩)] w fun e w' => e = .returned (.tuple #[]) ∧ Bs w0 w' s.nd p b1 b2 b3 b4 sb bo ba fr (gr ++ [f]) := by
  subst hp
  obtain ⟨fb, ft, H, I⟩ := H
  obtain ⟨⟨t, lo, hi⟩, hx⟩ : ∃ x, s.nd[f]? = some x := ⟨_, List.getElem?_eq_getElem hf⟩
  have htop : topOf s.nd f = t := by unfold topOf; rw [hx]
  have ht : t ≤ 256 := by
    obtain ⟨t', F', d'⟩ := I.wf.den f hf
    rw [← htop, topOf_den I.wf d']
    exact d'.top.1
  have hnm := I.nm
  obtain ⟨n0, n1, n2⟩ := H.drew.node hx
  have c2 := H.drew.c2
  obtain ⟨v, e3, hr⟩ := V.row
  obtain ⟨A3, C3, rfl⟩ := own_slice hr
  have ka := cell_heap (j := 0) V.drew.ca rfl
  have k0 := cell_heap (w := w.drew) (j := 0) e3 rfl
  have k0' : ∀ o, (w.drew.alloc o).cell? ⟨bo, 0, none⟩ = some (.slice A3 gr.length C3) := fun o => cell_heap (heap_old (w := w.drew) e3) rfl
  have hfi : (f : Int) < s.nd.length := by omega
  obtain ⟨i1, hi1, iz1, is1, ib1⟩ := info_at infoT
  have HR := hide (show w.drew.ownsRow w0.heap.size 3 1 (.slice A3 gr.length C3) gr.length (gr.map fun (x : Nat) => encI (topOf s.nd x)) from hr)
  have HV := hide V.drew
  have E3 := hide (show w.drew.heap[bo]? = some (.cells #[.slice A3 gr.length C3] 37 (0, 0)) from e3)
  have HT := hide htop
  clear H I V e3 hr hx htop
  go_enter Try.func48, Try.ntmps48
  go_wp2_with fail
  refine wp_region_paths 12 [5] [[0, 1, 2, 3, 4, 6, 7, 8, 9, 10, 11, 12], [1, 0, 2, 3, 4, 6, 7, 8, 9, 10, 11, 12], [1, 2, 0, 3, 4, 6, 7, 8, 9, 10, 11, 12], [1, 2, 3, 0, 4, 6, 7, 8, 9, 10, 11, 12], [1, 2, 3, 4, 0, 6, 7, 8, 9, 10, 11, 12], [1, 2, 3, 4, 6, 0, 7, 8, 9, 10, 11, 12], [1, 2, 3, 4, 6, 7, 0, 8, 9, 10, 11, 12], [1, 2, 3, 4, 6, 7, 8, 0, 9, 10, 11, 12], [1, 2, 3, 4, 6, 7, 8, 9, 0, 10, 11, 12], [1, 2, 3, 4, 6, 7, 8, 9, 10, 0, 11, 12]] (by kernel_rfl) (by kernel_rfl) (by kernel_rfl) (by kernel_rfl) (.cons (.succ (.succ (.succ (.succ (.succ (.zero)))))) .nil) (.cons (.cons (.zero) (.cons (.succ (.zero)) (.cons (.succ (.succ (.zero))) (.cons (.succ (.succ (.succ (.zero)))) (.cons (.succ (.succ (.succ (.succ (.zero))))) (.cons (.succ (.succ (.succ (.succ (.succ (.succ (.zero))))))) (.cons (.succ (.succ (.succ (.succ (.succ (.succ (.succ (.zero)))))))) (.cons (.succ (.succ (.succ (.succ (.succ (.succ (.succ (.succ (.zero))))))))) (.cons (.succ (.succ (.succ (.succ (.succ (.succ (.succ (.succ (.succ (.zero)))))))))) (.cons (.succ (.succ (.succ (.succ (.succ (.succ (.succ (.succ (.succ (.succ (.zero))))))))))) (.cons (.succ (.succ (.succ (.succ (.succ (.succ (.succ (.succ (.succ (.succ (.succ (.zero)))))))))))) (.cons (.succ (.succ (.succ (.succ (.succ (.succ (.succ (.succ (.succ (.succ (.succ (.succ (.zero))))))))))))) .nil)))))))))))) (.cons (.cons (.succ (.zero)) (.cons (.zero) (.cons (.succ (.succ (.zero))) (.cons (.succ (.succ (.succ (.zero)))) (.cons (.succ (.succ (.succ (.succ (.zero))))) (.cons (.succ (.succ (.succ (.succ (.succ (.succ (.zero))))))) (.cons (.succ (.succ (.succ (.succ (.succ (.succ (.succ (.zero)))))))) (.cons (.succ (.succ (.succ (.succ (.succ (.succ (.succ (.succ (.zero))))))))) (.cons (.succ (.succ (.succ (.succ (.succ (.succ (.succ (.succ (.succ (.zero)))))))))) (.cons (.succ (.succ (.succ (.succ (.succ (.succ (.succ (.succ (.succ (.succ (.zero))))))))))) (.cons (.succ (.succ (.succ (.succ (.succ (.succ (.succ (.succ (.succ (.succ (.succ (.zero)))))))))))) (.cons (.succ (.succ (.succ (.succ (.succ (.succ (.succ (.succ (.succ (.succ (.succ (.succ (.zero))))))))))))) .nil)))))))))))) (.cons (.cons (.succ (.zero)) (.cons (.succ (.succ (.zero))) (.cons (.zero) (.cons (.succ (.succ (.succ (.zero)))) (.cons (.succ (.succ (.succ (.succ (.zero))))) (.cons (.succ (.succ (.succ (.succ (.succ (.succ (.zero))))))) (.cons (.succ (.succ (.succ (.succ (.succ (.succ (.succ (.zero)))))))) (.cons (.succ (.succ (.succ (.succ (.succ (.succ (.succ (.succ (.zero))))))))) (.cons (.succ (.succ (.succ (.succ (.succ (.succ (.succ (.succ (.succ (.zero)))))))))) (.cons (.succ (.succ (.succ (.succ (.succ (.succ (.succ (.succ (.succ (.succ (.zero))))))))))) (.cons (.succ (.succ (.succ (.succ (.succ (.succ (.succ (.succ (.succ (.succ (.succ (.zero)))))))))))) (.cons (.succ (.succ (.succ (.succ (.succ (.succ (.succ (.succ (.succ (.succ (.succ (.succ (.zero))))))))))))) .nil)))))))))))) (.cons (.cons (.succ (.zero)) (.cons (.succ (.succ (.zero))) (.cons (.succ (.succ (.succ (.zero)))) (.cons (.zero) (.cons (.succ (.succ (.succ (.succ (.zero))))) (.cons (.succ (.succ (.succ (.succ (.succ (.succ (.zero))))))) (.cons (.succ (.succ (.succ (.succ (.succ (.succ (.succ (.zero)))))))) (.cons (.succ (.succ (.succ (.succ (.succ (.succ (.succ (.succ (.zero))))))))) (.cons (.succ (.succ (.succ (.succ (.succ (.succ (.succ (.succ (.succ (.zero)))))))))) (.cons (.succ (.succ (.succ (.succ (.succ (.succ (.succ (.succ (.succ (.succ (.zero))))))))))) (.cons (.succ (.succ (.succ (.succ (.succ (.succ (.succ (.succ (.succ (.succ (.succ (.zero)))))))))))) (.cons (.succ (.succ (.succ (.succ (.succ (.succ (.succ (.succ (.succ (.succ (.succ (.succ (.zero))))))))))))) .nil)))))))))))) (.cons (.cons (.succ (.zero)) (.cons (.succ (.succ (.zero))) (.cons (.succ (.succ (.succ (.zero)))) (.cons (.succ (.succ (.succ (.succ (.zero))))) (.cons (.zero) (.cons (.succ (.succ (.succ (.succ (.succ (.succ (.zero))))))) (.cons (.succ (.succ (.succ (.succ (.succ (.succ (.succ (.zero)))))))) (.cons (.succ (.succ (.succ (.succ (.succ (.succ (.succ (.succ (.zero))))))))) (.cons (.succ (.succ (.succ (.succ (.succ (.succ (.succ (.succ (.succ (.zero)))))))))) (.cons (.succ (.succ (.succ (.succ (.succ (.succ (.succ (.succ (.succ (.succ (.zero))))))))))) (.cons (.succ (.succ (.succ (.succ (.succ (.succ (.succ (.succ (.succ (.succ (.succ (.zero)))))))))))) (.cons (.succ (.succ (.succ (.succ (.succ (.succ (.succ (.succ (.succ (.succ (.succ (.succ (.zero))))))))))))) .nil)))))))))))) (.cons (.cons (.succ (.zero)) (.cons (.succ (.succ (.zero))) (.cons (.succ (.succ (.succ (.zero)))) (.cons (.succ (.succ (.succ (.succ (.zero))))) (.cons (.succ (.succ (.succ (.succ (.succ (.succ (.zero))))))) (.cons (.zero) (.cons (.succ (.succ (.succ (.succ (.succ (.succ (.succ (.zero)))))))) (.cons (.succ (.succ (.succ (.succ (.succ (.succ (.succ (.succ (.zero))))))))) (.cons (.succ (.succ (.succ (.succ (.succ (.succ (.succ (.succ (.succ (.zero)))))))))) (.cons (.succ (.succ (.succ (.succ (.succ (.succ (.succ (.succ (.succ (.succ (.zero))))))))))) (.cons (.succ (.succ (.succ (.succ (.succ (.succ (.succ (.succ (.succ (.succ (.succ (.zero)))))))))))) (.cons (.succ (.succ (.succ (.succ (.succ (.succ (.succ (.succ (.succ (.succ (.succ (.succ (.zero))))))))))))) .nil)))))))))))) (.cons (.cons (.succ (.zero)) (.cons (.succ (.succ (.zero))) (.cons (.succ (.succ (.succ (.zero)))) (.cons (.succ (.succ (.succ (.succ (.zero))))) (.cons (.succ (.succ (.succ (.succ (.succ (.succ (.zero))))))) (.cons (.succ (.succ (.succ (.succ (.succ (.succ (.succ (.zero)))))))) (.cons (.zero) (.cons (.succ (.succ (.succ (.succ (.succ (.succ (.succ (.succ (.zero))))))))) (.cons (.succ (.succ (.succ (.succ (.succ (.succ (.succ (.succ (.succ (.zero)))))))))) (.cons (.succ (.succ (.succ (.succ (.succ (.succ (.succ (.succ (.succ (.succ (.zero))))))))))) (.cons (.succ (.succ (.succ (.succ (.succ (.succ (.succ (.succ (.succ (.succ (.succ (.zero)))))))))))) (.cons (.succ (.succ (.succ (.succ (.succ (.succ (.succ (.succ (.succ (.succ (.succ (.succ (.zero))))))))))))) .nil)))))))))))) (.cons (.cons (.succ (.zero)) (.cons (.succ (.succ (.zero))) (.cons (.succ (.succ (.succ (.zero)))) (.cons (.succ (.succ (.succ (.succ (.zero))))) (.cons (.succ (.succ (.succ (.succ (.succ (.succ (.zero))))))) (.cons (.succ (.succ (.succ (.succ (.succ (.succ (.succ (.zero)))))))) (.cons (.succ (.succ (.succ (.succ (.succ (.succ (.succ (.succ (.zero))))))))) (.cons (.zero) (.cons (.succ (.succ (.succ (.succ (.succ (.succ (.succ (.succ (.succ (.zero)))))))))) (.cons (.succ (.succ (.succ (.succ (.succ (.succ (.succ (.succ (.succ (.succ (.zero))))))))))) (.cons (.succ (.succ (.succ (.succ (.succ (.succ (.succ (.succ (.succ (.succ (.succ (.zero)))))))))))) (.cons (.succ (.succ (.succ (.succ (.succ (.succ (.succ (.succ (.succ (.succ (.succ (.succ (.zero))))))))))))) .nil)))))))))))) (.cons (.cons (.succ (.zero)) (.cons (.succ (.succ (.zero))) (.cons (.succ (.succ (.succ (.zero)))) (.cons (.succ (.succ (.succ (.succ (.zero))))) (.cons (.succ (.succ (.succ (.succ (.succ (.succ (.zero))))))) (.cons (.succ (.succ (.succ (.succ (.succ (.succ (.succ (.zero)))))))) (.cons (.succ (.succ (.succ (.succ (.succ (.succ (.succ (.succ (.zero))))))))) (.cons (.succ (.succ (.succ (.succ (.succ (.succ (.succ (.succ (.succ (.zero)))))))))) (.cons (.zero) (.cons (.succ (.succ (.succ (.succ (.succ (.succ (.succ (.succ (.succ (.succ (.zero))))))))))) (.cons (.succ (.succ (.succ (.succ (.succ (.succ (.succ (.succ (.succ (.succ (.succ (.zero)))))))))))) (.cons (.succ (.succ (.succ (.succ (.succ (.succ (.succ (.succ (.succ (.succ (.succ (.succ (.zero))))))))))))) .nil)))))))))))) (.cons (.cons (.succ (.zero)) (.cons (.succ (.succ (.zero))) (.cons (.succ (.succ (.succ (.zero)))) (.cons (.succ (.succ (.succ (.succ (.zero))))) (.cons (.succ (.succ (.succ (.succ (.succ (.succ (.zero))))))) (.cons (.succ (.succ (.succ (.succ (.succ (.succ (.succ (.zero)))))))) (.cons (.succ (.succ (.succ (.succ (.succ (.succ (.succ (.succ (.zero))))))))) (.cons (.succ (.succ (.succ (.succ (.succ (.succ (.succ (.succ (.succ (.zero)))))))))) (.cons (.succ (.succ (.succ (.succ (.succ (.succ (.succ (.succ (.succ (.succ (.zero))))))))))) (.cons (.zero) (.cons (.succ (.succ (.succ (.succ (.succ (.succ (.succ (.succ (.succ (.succ (.succ (.zero)))))))))))) (.cons (.succ (.succ (.succ (.succ (.succ (.succ (.succ (.succ (.succ (.succ (.succ (.succ (.zero))))))))))))) .nil)))))))))))) .nil)))))))))) (fun _ _ _ _ _ h => h) ?_
  repeat (first | go_big_quiet_step ((fail)) | quiet_step ((fail)))
  refine wpQuiet_nil ?_
  refine ⟨?_, ?_, ?_, ?_, ?_, ?_, ?_, ?_, ?_, Each.one ?_⟩
  all_goals (
    have hrow2 := hide (HR.out.alloc (Obj.cells #[.int .i64 t] 3))
    generalize w.drew = w1 at *
    go_wp2_with (at_builtin; go_must (refine wpList_append_own _ rfl (.tmp 4) (.tmp 14) 37 rfl w0.heap.size 3 i1 _ 1 8 Try.underlying37 hi1 iz1 is1 ib1 rfl (by decide) _ gr.length (gr.map fun (x : Nat) => encI (topOf s.nd x)) rfl hrow2.out ⟨w1.heap.size, 0, none⟩ 1 1 [.int .i64 t] rfl rfl ?cells ?ones ?c63 ?cby ?cbase ?_))
    case cells =>
      intro j u hj
      match j, hj with
      | 0, hj => simp at hj; subst hj; simp [Addr.add, go_sem]
      | j + 1, hj => simp at hj
    case ones => simp [Value.oneCell']
    case c63 => unfold maxLen; omega
    case cby => omega
    case cbase => have := HV.out.below.size; simp; omega
    intro v' w2 hown' hgrow _
    obtain ⟨A4, C4, rfl⟩ := own_slice hown'
    have hown2 := hown'
    rw [← HT.out] at hown2
    obtain ⟨f3, V3⟩ := HV.out.put E3.out HR.out _ hown2 hgrow
    have q4 := cell_heap (j := 0) f3 rfl
    have q4f : w2.frozen? ⟨bo, 0, none⟩ = false := frozen_heap f3
    have HV3 := hide V3
    clear V3 f3 hown' hown2 hgrow hrow2 n0 n1 n2 c2 ka k0 k0'
    go_wp2_with fail
    go_end0
    exact ⟨rfl, HV3.out⟩)
end Go.Proofs.Ytgfjdkkfgclhjaa.Bd
/- below: each node beneath one, once. -/
namespace Go.Proofs.Ytgfjdkkfgclhjaa.Bd
open Go.RowKit Go.Proofs.Ytgfjdkkfgclhjaa Go.Proofs.Ytgfjdkkfgclhjaa.Lx Go.Maps

/-- the nodes beneath f, in the order of the visit -/
abbrev noH : Int → Bool := fun _ => false
def beneath (nd : List Nd) (f : Nat) : List Nat := vis nd noH (f + 1) [] f
set_option maxHeartbeats 4000000 in
set_option maxRecDepth 100000 in
theorem below1_any (k : Blk) (s : St) (w0 : World) (hA : Ar w0 k s) (hm : s.m + 2 ≤ 1000000000) (b1 b2 b3 b4 sb bo ba : Nat) : ∀ (n f : Nat) (fr : List Nat) (w : World), f < n → f < s.nd.length → Met s.nd noH fr → Bs w0 w s.nd k.p b1 b2 b3 b4 sb bo ba fr fr →
    Calls Try.prog 59 #[.int .i32 f, .pointer (some ⟨b1, 0, none⟩), .pointer (some ⟨b2, 0, none⟩), .pointer (some ⟨b3, 0, none⟩), .pointer (some ⟨b4, 0, none⟩)] w fun e w' => e = .returned (.tuple #[]) ∧ Bs w0 w' s.nd k.p b1 b2 b3 b4 sb bo ba (vis s.nd noH n fr f) (vis s.nd noH n fr f) := by
  have hW := hA.wf
  have hnm := hA.nm
  intro n
  induction n with
  | zero => intro f fr w h; omega
  | succ n ih =>
    intro f fr w hfn hf hM V
    have hlen := hM.len
    have k1 := cell_heap (j := 0) V.c1 rfl
    have lk1 : (Instr.lookup 63 (.map (some sb)) (.int .i32 f) false).run Try.prog w = .ok (.bool (seenB fr f)) w := V.seen.look keyed3 Try.underlying63 Try.underlying4 (zeroB _) (key3 f (by omega) (by omega))
    cases hs : seenB fr f with
    | true =>
      rw [hs] at lk1
      have HV : Hid (Bs w0 w s.nd k.p b1 b2 b3 b4 sb bo ba (vis s.nd noH (n + 1) fr f) (vis s.nd noH (n + 1) fr f)) := by
        rw [seenB_nat] at hs
        have : vis s.nd noH (n + 1) fr f = fr := by
          unfold vis
          rw [if_pos]
          rcases of_decide_eq_true hs with h | h
          · exact .inl h
          · exact .inr (.inl h)
        rw [this]; exact V
      clear V hM ih hs hA
      go_enter Try.func59, Try.ntmps59
      go_wp2_with fail
      (try simp only [Exit.inBlock, Exit.then])
      refine bodyPost_ret (results_none rfl _ _ _) rfl ?_
      exact ⟨rfl, HV.out⟩
    | false =>
      rw [hs] at lk1
      have hsf := hs
      rw [seenB_nat] at hs
      have hc : ¬ (f < 2 ∨ f ∈ fr ∨ noH f = true) := by
        have := of_decide_eq_false hs
        rintro (h | h | h)
        · exact this (.inl h)
        · exact this (.inr h)
        · cases h
      obtain ⟨⟨v, lo, hi⟩, hx⟩ : ∃ x, s.nd[f]? = some x := ⟨_, List.getElem?_eq_getElem hf⟩
      obtain ⟨t, F, d⟩ := hW.den f hf
      obtain ⟨lo', hi', _, _, _, _, hr, r1, r2, _⟩ := d.row (by omega)
      rw [hx] at hr
      simp only [Option.some.injEq, Prod.mk.injEq] at hr
      obtain ⟨_, rfl, rfl⟩ := hr
      have hvis : vis s.nd noH (n + 1) fr f = vis s.nd noH n (vis s.nd noH n (fr ++ [f]) lo) hi := by
        conv => lhs; unfold vis
        rw [if_neg hc, hx]
      rw [hvis]
      have HM := hide (hM.push hc hf)
      have HM2 := hide (vis_met hW n (fr ++ [f]) lo (by omega) HM.out)
      have HI1 := hide (fun w => ih lo (fr ++ [f]) w (by omega) (by omega) HM.out)
      have HI2 := hide (fun w => ih hi (vis s.nd noH n (fr ++ [f]) lo) w (by omega) (by omega) HM2.out)
      have HVV := hide V
      have HA0 := hide hA
      have HX := hide hx
      have hfl : (fr ++ [f]).length = fr.length + 1 := by simp
      clear ih d V hvis hA hx
      go_enter Try.func59, Try.ntmps59
      go_wp2_with (at_mapUpdate; go_must (refine wpList_add rfl (.tmp 9) (.tmp 10) _ rfl HVV.out.seen keyed3 Try.underlying63 Try.underlying4 (by unfold maxLen; omega) enc3_inj rfl (f : Int) _ rfl (key3 f (by omega) (by omega)) rfl ?_))
      simp only [hsf, Bool.false_eq_true, if_false, seenB_push]
      intro w1 hms hmt
      have HV1 := hide (HVV.out.mark hms hmt)
      clear hms hmt lk1 k1 hfl HVV
      have k2 := cell_heap (j := 0) HV1.out.c2 rfl
      go_wp2_with fail
      refine (support1_any k s f (HA0.out.below HV1.out.below) rfl hf hm (by omega) HV1.out).mono ?_
      rintro e w3 ⟨rfl, V3⟩
      have HV3 := hide V3
      clear V3 k2 HV1
      go_wp2_with fail
      have r0 : (f : Int) < s.nd.length := by omega
      obtain ⟨_, _, H3, _⟩ := HA0.out.below HV3.out.below
      have g4 : w3.drew.cell? ⟨b3, 0, none⟩ = some _ := cell_heap HV3.out.c3 rfl
      have g2 : w3.drew.cell? ⟨b4, 0, none⟩ = some (.pointer (some ⟨k.p, 0, none⟩)) := cell_heap HV3.out.c4 rfl
      have g5 := H3.drew.c2
      have g6 := (H3.drew.node HX.out).2.1
      go_still_tail 9, (by kernel_rfl)
      change wpList _ _ _ _ _ w3.drew
      have HV4 := hide HV3.out.drew
      generalize w3.drew = w4 at *
      clear g4 g2 g5 g6 H3 HV3
      go_wp2_with fail
      refine (HI1.out _ HV4.out).mono ?_
      rintro e w5 ⟨rfl, V5⟩
      have HV5 := hide V5
      clear V5 HV4
      go_wp2_with fail
      obtain ⟨_, _, H5, _⟩ := HA0.out.below HV5.out.below
      have g4 : w5.drew.cell? ⟨b3, 0, none⟩ = some _ := cell_heap HV5.out.c3 rfl
      have g2 : w5.drew.cell? ⟨b4, 0, none⟩ = some (.pointer (some ⟨k.p, 0, none⟩)) := cell_heap HV5.out.c4 rfl
      have g5 := H5.drew.c2
      have g6 := (H5.drew.node HX.out).2.2
      go_still_tail 9, (by kernel_rfl)
      change wpList _ _ _ _ _ w5.drew
      have HV6 := hide HV5.out.drew
      generalize w5.drew = w6 at *
      clear g4 g2 g5 g6 H5 HV5
      go_wp2_with fail
      refine (HI2.out _ HV6.out).mono ?_
      rintro e w7 ⟨rfl, V7⟩
      have HV7 := hide V7
      clear V7 HV6
      go_wp2_with fail
      go_end0
      exact ⟨rfl, HV7.out⟩
end Go.Proofs.Ytgfjdkkfgclhjaa.Bd
/- below, Support. -/
namespace Go.Proofs.Ytgfjdkkfgclhjaa.Bd
open Go.RowKit Go.Proofs.Ytgfjdkkfgclhjaa Go.Proofs.Ytgfjdkkfgclhjaa.Lx Go.Maps

theorem bs_start {w0 w w1 w2 : World} {nd : List Nd} {p bo ba : Nat} (hB : Below w0.heap.size w0 w) (hbo : w.heap[bo]? = some (.cells #[.slice none 0 0] 37 (0, 0))) (hba : w.heap[ba]? = some (.cells #[.pointer (some ⟨p, 0, none⟩)] 24 (0, 0))) (l6 : w0.heap.size ≤ bo) (l7 : w0.heap.size ≤ ba)
    (ht1 : World.mapTurned (((w.alloc (.cells #[.pointer (some ⟨p, 0, none⟩)] 24)).alloc (.cells #[.func (.func 48) #[] #[.pointer (some ⟨bo, 0, none⟩), .pointer (some ⟨ba, 0, none⟩)]] 87)).alloc (.map #[] 0)) w1 (w.heap.size + 2)) (ht2 : w1.mapTurned w2 (w.heap.size + 2))
    (hm : MSet Try.prog w2 21 4 (w.heap.size + 2) 2 2 enc3 fun x => decide (x = 1) || decide (x = 0)) :
    Bs w0 ((w2.alloc (.cells #[.map (some (w.heap.size + 2))] 63)).alloc (.cells #[(.func (.func 59) #[] #[.pointer (some ⟨w2.heap.size, 0, none⟩), .pointer (some ⟨w.heap.size + 1, 0, none⟩), .pointer (some ⟨w2.heap.size + 1, 0, none⟩), .pointer (some ⟨w.heap.size, 0, none⟩)])] 87))
      nd p w2.heap.size (w.heap.size + 1) (w2.heap.size + 1) w.heap.size (w.heap.size + 2) bo ba [] [] := by
  have hg := (ht1.trans ht2).grown
  have hs := hg.size
  simp only [World.size_alloc] at hs
  have hsw := hB.size
  have lbo := lt_heap hbo
  have lba := lt_heap hba
  have c4 : w2.heap[w.heap.size]? = some (.cells #[.pointer (some ⟨p, 0, none⟩)] 24 (0, 0)) := heap_grown (heap_old (heap_old (heap_new _ _))) hg (opt_ne (by omega))
  have c2 : w2.heap[w.heap.size + 1]? = some (.cells #[.func (.func 48) #[] #[.pointer (some ⟨bo, 0, none⟩), .pointer (some ⟨ba, 0, none⟩)]] 87 (0, 0)) := by
    have := heap_new (w.alloc (.cells #[.pointer (some ⟨p, 0, none⟩)] 24)) (.cells #[.func (.func 48) #[] #[.pointer (some ⟨bo, 0, none⟩), .pointer (some ⟨ba, 0, none⟩)]] 87)
    rw [show (w.alloc (.cells #[.pointer (some ⟨p, 0, none⟩)] 24)).heap.size = w.heap.size + 1 by simp] at this
    exact heap_grown (heap_old this) hg (opt_ne (by omega))
  have co : w2.heap[bo]? = some (.cells #[.slice none 0 0] 37 (0, 0)) := heap_grown (heap_old (heap_old (heap_old hbo))) hg (opt_ne (by omega))
  have ca : w2.heap[ba]? = some (.cells #[.pointer (some ⟨p, 0, none⟩)] 24 (0, 0)) := heap_grown (heap_old (heap_old (heap_old hba))) hg (opt_ne (by omega))
  have hb : Below w.heap.size w w2 := ((((Below.refl _ w).alloc (Nat.le_refl _) _).alloc (by simp) _).alloc (by simp; omega) _).grown hg (by simp; omega) (fun b e => by injection e with e; omega)
  have hb0 : Below w0.heap.size w0 w2 := hB.trans (hb.mono hsw)
  refine ⟨heap_old (heap_new _ _), heap_old (heap_old c2), ?_, heap_old (heap_old c4), heap_old (heap_old ca), ?_, ⟨.slice none 0 0, heap_old (heap_old co), ⟨rfl, .inl ⟨rfl, rfl⟩⟩⟩, (hb0.alloc (by omega) _).alloc (by simp; omega) _, by omega, by omega, by omega, by omega, by omega, l6, l7⟩
  · have := heap_new (w2.alloc (.cells #[.map (some (w.heap.size + 2))] 63)) (.cells #[(.func (.func 59) #[] #[.pointer (some ⟨w2.heap.size, 0, none⟩), .pointer (some ⟨w.heap.size + 1, 0, none⟩), .pointer (some ⟨w2.heap.size + 1, 0, none⟩), .pointer (some ⟨w.heap.size, 0, none⟩)])] 87)
    rw [show (w2.alloc (.cells #[.map (some (w.heap.size + 2))] 63)).heap.size = w2.heap.size + 1 by simp] at this
    exact this
  · have e : (fun x : Int => decide (x = 1) || decide (x = 0)) = seenB [] := by rw [← seen_start]; funext x; simp
    rw [e] at hm
    exact (hm.kept (World.grownBy_alloc _ _ none) (by simp)).kept (World.grownBy_alloc _ _ none) (by simp)
def ToldOut (w0 : World) (nd : List Nd) (bo f : Nat) (e : Ending) (w' : World) : Prop := e = .returned (.tuple #[]) ∧ ∃ v, w'.heap[bo]? = some (.cells #[v] 37 (0, 0)) ∧ w'.ownsRow w0.heap.size 3 1 v (beneath nd f).length ((beneath nd f).map fun (x : Nat) => encI (topOf nd x)) ∧ Below w0.heap.size w0 w'
set_option maxHeartbeats 1000000 in
set_option maxRecDepth 100000 in
theorem below_any (k : Blk) (s : St) (w0 w : World) (hA : Ar w0 k s) (hm : s.m + 2 ≤ 1000000000) (f bo ba : Nat) (hf : f < s.nd.length) (hB : Below w0.heap.size w0 w) (hbo : w.heap[bo]? = some (.cells #[.slice none 0 0] 37 (0, 0))) (hba : w.heap[ba]? = some (.cells #[.pointer (some ⟨k.p, 0, none⟩)] 24 (0, 0))) (l6 : w0.heap.size ≤ bo) (l7 : w0.heap.size ≤ ba) :
    Calls Try.prog 47 #[.pointer (some ⟨k.p, 0, none⟩), .int .i32 f, .func (.func 48) #[] #[.pointer (some ⟨bo, 0, none⟩), .pointer (some ⟨ba, 0, none⟩)]] w (ToldOut w0 s.nd bo f) := by
  have HA := hide hA
  have HB := hide (And.intro hB (And.intro hbo hba))
  have HMS := hide (MSet.made (P := Try.prog) ((w.alloc (.cells #[.pointer (some ⟨k.p, 0, none⟩)] 24)).alloc (.cells #[.func (.func 48) #[] #[.pointer (some ⟨bo, 0, none⟩), .pointer (some ⟨ba, 0, none⟩)]] 87)) 21 4 enc3)
  have hsz : ((w.alloc (.cells #[.pointer (some ⟨k.p, 0, none⟩)] 24)).alloc (.cells #[.func (.func 48) #[] #[.pointer (some ⟨bo, 0, none⟩), .pointer (some ⟨ba, 0, none⟩)]] 87)).heap.size = w.heap.size + 2 := by simp
  rw [hsz] at HMS
  have hmm := @run_makeMap Try.prog
  clear hA hB hbo hba hsz
  go_enter Try.func47, Try.ntmps47
  go_wp2_with (refine wpList_ins rfl (.tmp 8) _ _ rfl HMS.out keyed3 Try.underlying63 Try.underlying4 (by unfold maxLen; omega) enc3_inj rfl (0 : Int) _ rfl (key3 0 (by omega) (by omega)) rfl ?_)
  intro w1 hm1 ht1
  have HM1 := hide hm1
  have HT1 := hide ht1
  clear hm1 ht1
  go_wp2_with (refine wpList_ins rfl (.tmp 8) _ _ rfl HM1.out keyed3 Try.underlying63 Try.underlying4 (by unfold maxLen; omega) enc3_inj rfl (1 : Int) _ rfl (key3 1 (by omega) (by omega)) rfl ?_)
  intro w2 hm2 ht2
  have HM2 := hide hm2
  have HT2 := hide ht2
  clear hm2 ht2
  have HV := hide (bs_start (nd := s.nd) HB.out.1 HB.out.2.1 HB.out.2.2 l6 l7 HT1.out HT2.out HM2.out)
  go_wp2_with fail
  refine (below1_any k s w0 HA.out hm _ _ _ _ _ _ _ (f + 1) f [] _ (by omega) hf (Met.nil _ _) HV.out).mono ?_
  rintro e w5 ⟨rfl, V5⟩
  obtain ⟨v, e1, e2⟩ := V5.row
  have HX := hide (show ToldOut w0 s.nd bo f (.returned (.tuple #[])) w5 from ⟨rfl, v, e1, e2, V5.below⟩)
  clear V5 e1 e2 HV HT1 HT2 HM1 HM2 HMS hmm
  go_wp2_with fail
  go_end0
  exact HX.out

/-- the variables on which f hangs -/
def supL (nd : List Nd) (f : Nat) : List Int := Lib.compact (((beneath nd f).map fun x => (topOf nd x : Int)).mergeSort fun x y => decide (x ≤ y))
def SupOut (nd : List Nd) (f : Nat) (w : World) (e : Ending) (w' : World) : Prop := ∃ v, e = .returned (.tuple #[v, .int .i64 0]) ∧ w'.ownsRow w.heap.size 3 1 v (supL nd f).length ((supL nd f).map encI) ∧ Below w.heap.size w w'
theorem own_grow {w : World} {base size n : Nat} {e : TypeId} {v : Value} {xs : List Value} {os : Array Obj} (h : w.ownsRow base e size v n xs) : (Sort.grow w os).ownsRow base e size v n xs := by
  refine ⟨h.1, ?_⟩
  rcases h.2 with h2 | ⟨g, cap, cur, h1, h2, h3, h4⟩
  · exact .inl h2
  · refine .inr ⟨g, cap, cur, h1, h2, ?_, h4⟩
    show (w.heap ++ os)[g]? = _
    rw [Array.getElem?_append_left (lt_heap h3)]
    exact h3
theorem encI_eq : encI = Value.int .i64 := rfl
theorem compact_len (zs : List Int) : (Lib.compact zs).length ≤ zs.length := by
  show (Lib.compactUpTo _ _).length ≤ _
  unfold Lib.compactUpTo
  rw [List.length_map]
  refine Nat.le_trans (List.length_filter_le _ _) ?_
  simp
set_option maxHeartbeats 1000000 in
set_option maxRecDepth 100000 in
theorem Support_any (k : Blk) (s : St) (f : Nat) (w : World) (hA : Ar w k s) (g1 : s.gi f = true) (hf : f < s.nd.length) (hm : s.m + 2 ≤ 1000000000) :
    Calls Try.prog 27 #[.pointer (some ⟨k.p, 0, none⟩), .int .i64 f] w (SupOut s.nd f w) := by
  have hW := hA.wf
  have hnm := hA.nm
  have hb1 := bel_one w (.cells #[.pointer (some ⟨k.p, 0, none⟩)] 24)
  have x0 := heap_new w (.cells #[.pointer (some ⟨k.p, 0, none⟩)] 24)
  obtain ⟨W, hWd⟩ : ∃ W, W = (w.alloc (.cells #[.pointer (some ⟨k.p, 0, none⟩)] 24)) := ⟨_, rfl⟩
  rw [← hWd] at hb1 x0
  have hsW : W.heap.size = w.heap.size + 1 := by rw [hWd]; simp
  have hbl := below_wide hb1 (bel_one W (.cells #[.int .i64 f] 3))
  have HC := hide (check_any k s [(f : Int)] W.heap.size _ (hA.below hbl) (cells1 W f) (by simp; omega) (by simp))
  rw [show [(f : Int)].length = 1 from rfl, gvn_all (s := s) (l := [(f : Int)]) (by simp [g1]), hsW] at HC
  have y9 : W.cell? ⟨w.heap.size, 0, none⟩ = some (.pointer (some ⟨k.p, 0, none⟩)) := cell_heap x0 rfl
  have HX0 := hide (heap_old (p := .cells #[.int .i64 f] 3) x0)
  have hs2 : (W.alloc (.cells #[.int .i64 f] 3)).heap.size = w.heap.size + 2 := by simp [hsW]
  have hbn := heap_new (W.alloc (.cells #[.int .i64 f] 3)) (.cells #[.slice none 0 0] 37)
  rw [hs2] at hbn
  have HBE := hide (below_any k s w ((W.alloc (.cells #[.int .i64 f] 3)).alloc (.cells #[.slice none 0 0] 37)) hA hm f (w.heap.size + 1 + 1) w.heap.size hf (below_wide hbl (bel_one _ _)) hbn (heap_old HX0.out) (by omega) (Nat.le_refl _))
  have y0 : ((W.alloc (.cells #[.int .i64 f] 3)).alloc (.cells #[.slice none 0 0] 37)).cell? ⟨w.heap.size, 0, none⟩ = some (.pointer (some ⟨k.p, 0, none⟩)) := cell_heap (heap_old HX0.out) rfl
  have y1 : (W.alloc (.cells #[.int .i64 f] 3)).cell? ⟨w.heap.size, 0, none⟩ = some (.pointer (some ⟨k.p, 0, none⟩)) := cell_heap HX0.out rfl
  have HM := hide (vis_met hW (he := noH) (f + 1) [] f hf (Met.nil _ _))
  have HL := hide HM.out.len
  clear hA g1 hb1 x0 hsW hbl hbn hs2
  subst hWd
  go_enter Try.func27, Try.ntmps27
  go_wp2_with fail
  refine HC.out.mono ?_
  rintro e w1 ⟨rfl, rfl⟩
  have hwr : IntKind.i32.wrap (f : Int) = f := wrap3 (by omega) (by omega)
  go_wp2_with fail
  refine HBE.out.mono ?_
  intro e w2 hh
  unfold ToldOut at hh
  obtain ⟨rfl, v, e3, hrow, hB⟩ := hh
  have hn : (beneath s.nd f).length ≤ 1000000002 := by have := HL.out; unfold beneath; omega
  have hmap : ((beneath s.nd f).map fun (x : Nat) => encI (topOf s.nd x)) = ((beneath s.nd f).map fun x => (topOf s.nd x : Int)).map encI := by rw [List.map_map]; rfl
  rw [hmap] at hrow
  obtain ⟨zs, hzs⟩ : ∃ zs, zs = (beneath s.nd f).map fun x => (topOf s.nd x : Int) := ⟨_, rfl⟩
  have hzl : (beneath s.nd f).length = zs.length := by rw [hzs]; simp
  have hsup : supL s.nd f = Lib.compact (zs.mergeSort fun x y => decide (x ≤ y)) := by unfold supL; rw [hzs]
  rw [hzl, ← hzs] at hrow
  rw [hzl] at hn
  have HSU := hide hsup
  clear HC HBE y0 y1 y9 HX0 hmap hzl hsup hzs HM HL
  rcases hrow.2 with ⟨rfl, hn0⟩ | ⟨g, cap, cur, rfl, q1, q2, q3, q4, q5, q6⟩
  · have hz0 : zs = [] := List.eq_nil_of_length_eq_zero hn0
    subst hz0
    have k1 := cell_heap (j := 0) e3 rfl
    have HS := hide (fun W => Try.slices_Sort_int_none none 0 W)
    have HK := hide (fun W => Try.slices_Compact_int_empty none 0 W)
    have HX := hide (show SupOut s.nd f w (.returned (.tuple #[Value.slice none 0 0, .int .i64 0])) w2 from by
      unfold SupOut
      rw [HSU.out]
      have e : Lib.compact (([] : List Int).mergeSort fun x y => decide (x ≤ y)) = [] := by
        have := compact_len (([] : List Int).mergeSort fun x y => decide (x ≤ y))
        exact List.eq_nil_of_length_eq_zero (by simpa using this)
      rw [e]
      exact ⟨_, rfl, ⟨rfl, .inl ⟨rfl, rfl⟩⟩, hB⟩)
    clear hrow hB e3
    go_wp2_with fail
    refine (HS.out _).mono ?_; rintro e w3 ⟨rfl, rfl⟩
    go_wp2_with fail
    refine (HK.out _).mono ?_; rintro e w4 ⟨rfl, rfl⟩
    go_wp2_with fail
    go_ret2
    exact HX.out
  · obtain ⟨g', cap', f1, f2, f3, f4, f5, f6, f7⟩ := Lib.holds_of_ownsRow hrow (by intro e; cases e)
    injection f1 with f1 _ fc
    injection f1 with f1
    injection f1 with f1
    subst f1 fc
    have HS := hide (Try.slices_Sort_int g 0 cap zs w2 f7 f3 (by omega))
    have k1 := cell_heap (j := 0) e3 rfl
    have HB := hide hB
    have HO := hide hrow
    have HE3 := hide e3
    have hs : (zs.mergeSort fun x y => decide (x ≤ y)).length = zs.length := List.length_mergeSort _
    have hgo : g ≠ w.heap.size + 1 + 1 := heap_ne q2 e3 (by decide)
    clear hB hrow f7 q2 q5 q6 e3
    go_wp2_with fail
    refine HS.out.mono ?_; rintro e w3 ⟨rfl, m, os, hw3⟩
    have hown3 : w3.ownsRow w.heap.size 3 1 (.slice (some ⟨g, 0, none⟩) zs.length cap) zs.length ((zs.mergeSort fun x y => decide (x ≤ y)).map encI) := by
      have := Lib.ownsRow_putRow (q := m) HO.out hs (Nat.le_refl zs.length)
      rw [List.take_of_length_le (by omega)] at this
      rw [hw3]
      exact own_grow this
    have hb3 : Below w.heap.size w w3 := by
      rw [hw3]
      exact (Lib.below_putRow HB.out f2).trans ((Lib.below_grow _ _ (Nat.le_refl _) 0 os).mono (by
        have := HB.out.size
        simpa [Sort.putRow, Sort.mapBlock, Sort.ahead] using this))
    have hg3 : w2.grownBy w3 (some g) := by rw [hw3]; exact Go.grownBy_sortedI _
    have e33 := heap_grown HE3.out hg3 (opt_ne hgo)
    obtain ⟨_, _, r1, r2, r3, r4, r5, r6, r7⟩ := Lib.holds_of_ownsRow hown3 (by intro e; cases e)
    injection r1 with r1 _ rc
    injection r1 with r1
    injection r1 with r1
    subst r1 rc
    have HK := Try.slices_Compact_int g 0 cap _ w3 r7 (by rw [hs]; omega) (by rw [hs]; omega)
    rw [hs] at HK
    have HK2 := hide HK
    have HO2 := hide hown3
    have HB2 := hide hb3
    have k2 := cell_heap (j := 0) e33 rfl
    clear HK hown3 hb3 hw3 r7 hg3 e33
    go_wp2_with fail
    refine HK2.out.mono ?_; rintro e w4 ⟨rfl, q, hw4⟩
    have HW4 := hide hw4
    have hlen := compact_len (zs.mergeSort fun x y => decide (x ≤ y))
    rw [hs] at hlen
    have HX := hide (show SupOut s.nd f w (.returned (.tuple #[Value.slice (some ⟨g, 0, none⟩) (Lib.compact (zs.mergeSort fun x y => decide (x ≤ y))).length cap, .int .i64 0])) w4 from by
      unfold SupOut
      rw [HSU.out]
      refine ⟨_, rfl, ?_, ?_⟩
      · have := Lib.ownsRow_putRow (q := q) (ys := Lib.compact (zs.mergeSort fun x y => decide (x ≤ y)) ++ List.replicate (zs.length - (Lib.compact (zs.mergeSort fun x y => decide (x ≤ y))).length) 0) HO2.out (by simp; omega) hlen
        rw [HW4.out]
        rw [encI_eq] at this ⊢
        simpa using this
      · rw [HW4.out]
        exact Lib.below_putRow HB2.out f2)
    clear hw4
    go_wp2_with fail
    go_ret2
    exact HX.out
end Go.Proofs.Ytgfjdkkfgclhjaa.Bd
/- Plain words on rows of numbers: a row in form (each number once, rising). No program is in sight. -/
namespace Go.Proofs.Ytgfjdkkfgclhjaa.Ld
open Go

def leI (x y : Int) : Bool := decide (x ≤ y)
/-- the form of a row: sorted, each number once -/
def normL (l : List Int) : List Int := Lib.compact (l.mergeSort fun x y => decide (x ≤ y))
/-- rising -/
def Up (l : List Int) : Prop := l.Pairwise (· < ·)

theorem up_eq : ∀ (a b : List Int), Up a → Up b → (∀ x, x ∈ a ↔ x ∈ b) → a = b := by
  intro a
  induction a with
  | nil =>
    intro b _ _ h
    cases b with
    | nil => rfl
    | cons y ys => exact absurd ((h y).2 (List.mem_cons_self ..)) (by simp)
  | cons x xs ih =>
    intro b ha hb h
    cases b with
    | nil => exact absurd ((h x).1 (List.mem_cons_self ..)) (by simp)
    | cons y ys =>
      have ha' := List.pairwise_cons.1 ha
      have hb' := List.pairwise_cons.1 hb
      have hxy : x = y := by
        have h1 := (h x).1 (List.mem_cons_self ..)
        have h2 := (h y).2 (List.mem_cons_self ..)
        rcases List.mem_cons.1 h1 with h1 | h1
        · exact h1
        · rcases List.mem_cons.1 h2 with h2 | h2
          · exact h2.symm
          · have := ha'.1 y h2
            have := hb'.1 x h1
            omega
      subst hxy
      congr 1
      refine ih ys ha'.2 hb'.2 (fun z => ⟨fun hz => ?_, fun hz => ?_⟩)
      · rcases List.mem_cons.1 ((h z).1 (List.mem_cons_of_mem _ hz)) with e | e
        · have := ha'.1 z hz; omega
        · exact e
      · rcases List.mem_cons.1 ((h z).2 (List.mem_cons_of_mem _ hz)) with e | e
        · have := hb'.1 z hz; omega
        · exact e

theorem get_bang (l : List Int) (j : Nat) (h : j < l.length) : l.toArray[j]! = l[j] := by
  rw [getElem!_pos l.toArray j (by simpa using h)]
  simp

theorem comp_inv (l : List Int) (hs : l.Pairwise (fun x y => x ≤ y)) : ∀ m, m ≤ l.length →
    Up (Lib.compactUpTo l.toArray m) ∧ (∀ x, x ∈ Lib.compactUpTo l.toArray m ↔ x ∈ l.take m) := by
  intro m
  induction m with
  | zero => intro _; exact ⟨List.Pairwise.nil, fun x => by simp [Lib.compactUpTo]⟩
  | succ m ih =>
    intro hm
    obtain ⟨h1, h2⟩ := ih (by omega)
    rw [Lib.compactUpTo_succ, get_bang l m (by omega)]
    have ht : l.take (m + 1) = l.take m ++ [l[m]] := (List.take_append_getElem (by omega)).symm
    by_cases hk : Lib.keeps l.toArray m = true
    · rw [if_pos hk]
      refine ⟨List.pairwise_append.2 ⟨h1, List.pairwise_singleton _ _, fun a ha b hb => ?_⟩, fun x => ?_⟩
      · have hb' : b = l[m] := by simpa using hb
        subst hb'
        rcases Nat.eq_zero_or_pos m with rfl | hm0
        · simp [Lib.compactUpTo] at ha
        · have ha2 := (h2 a).1 ha
          obtain ⟨i, hi, rfl⟩ := List.mem_iff_getElem.1 ha2
          have hi' : i < m := by simp at hi; omega
          rw [List.getElem_take]
          have e1 : l[i] ≤ l[m - 1] := by
            rcases Nat.lt_or_ge i (m - 1) with h | h
            · exact List.pairwise_iff_getElem.1 hs i (m - 1) _ _ h
            · have : i = m - 1 := by omega
              subst this; exact Int.le_refl _
          have e2 : l[m - 1] ≤ l[m] := List.pairwise_iff_getElem.1 hs (m - 1) m _ _ (by omega)
          have e3 : l[m] ≠ l[m - 1] := by
            unfold Lib.keeps at hk
            rw [get_bang l m (by omega), get_bang l (m - 1) (by omega)] at hk
            have := of_decide_eq_true hk
            omega
          omega
      · rw [List.mem_append, h2, ht, List.mem_append]
    · rw [if_neg hk, List.append_nil]
      refine ⟨h1, fun x => ?_⟩
      rw [h2, ht, List.mem_append]
      refine ⟨.inl, fun h => ?_⟩
      rcases h with h | h
      · exact h
      · have hx : x = l[m] := by simpa using h
        unfold Lib.keeps at hk
        have hm0 : m ≠ 0 := fun e => hk (by simp [e])
        rw [get_bang l m (by omega), get_bang l (m - 1) (by omega)] at hk
        have e : l[m] = l[m - 1] := by
          by_cases e : l[m] = l[m - 1]
          · exact e
          · exact absurd (decide_eq_true (.inr e)) hk
        rw [hx, e, List.mem_iff_getElem]
        exact ⟨m - 1, by simp; omega, by rw [List.getElem_take]⟩
theorem sort_sorted (l : List Int) : (l.mergeSort fun x y => decide (x ≤ y)).Pairwise (fun x y => x ≤ y) := by
  have h := List.pairwise_mergeSort (le := fun (x y : Int) => decide (x ≤ y)) (fun a b c h1 h2 => by simp at *; omega) (fun a b => by simp; omega) l
  exact h.imp (fun h => by simpa using h)
theorem sort_len (l : List Int) : (l.mergeSort fun x y => decide (x ≤ y)).length = l.length := List.length_mergeSort l
theorem norm_up (l : List Int) : Up (normL l) := (comp_inv _ (sort_sorted l) _ (Nat.le_refl _)).1
theorem norm_mem (l : List Int) (x : Int) : x ∈ normL l ↔ x ∈ l := by
  have h := (comp_inv _ (sort_sorted l) _ (Nat.le_refl _)).2 x
  rw [List.take_length] at h
  exact h.trans List.mem_mergeSort
theorem norm_is {l a : List Int} (h1 : Up a) (h2 : ∀ x, x ∈ a ↔ x ∈ l) : a = normL l := up_eq _ _ h1 (norm_up l) (fun x => by rw [h2, norm_mem])
theorem norm_same {l m : List Int} (h : ∀ x, x ∈ l ↔ x ∈ m) : normL l = normL m := norm_is (norm_up l) (fun x => by rw [norm_mem, h])
theorem norm_norm (l : List Int) : normL (normL l) = normL l := norm_same (fun x => norm_mem l x)
theorem norm_len (l : List Int) : (normL l).length ≤ l.length := by
  have h : (normL l).length ≤ (l.mergeSort fun x y => decide (x ≤ y)).length := by
    show (Lib.compactUpTo _ _).length ≤ _
    unfold Lib.compactUpTo
    rw [List.length_map]
    refine Nat.le_trans (List.length_filter_le _ _) ?_
    simp
  rwa [sort_len] at h
end Go.Proofs.Ytgfjdkkfgclhjaa.Ld
/- What lies beneath a node; on which variables a function hangs. -/
namespace Go.Proofs.Ytgfjdkkfgclhjaa.Bd

inductive Reach (nd : List Nd) : Nat → Nat → Prop
  | refl (f : Nat) : Reach nd f f
  | lo {f v lo hi y : Nat} (h : nd[f]? = some (v, lo, hi)) (h2 : 2 ≤ f) (r : Reach nd lo y) : Reach nd f y
  | hi {f v lo hi y : Nat} (h : nd[f]? = some (v, lo, hi)) (h2 : 2 ≤ f) (r : Reach nd hi y) : Reach nd f y
theorem WF.row {nd : List Nd} (hw : WF nd) {f : Nat} (hf : f < nd.length) (h2 : 2 ≤ f) : ∃ v lo hi, nd[f]? = some (v, lo, hi) ∧ lo < f ∧ hi < f ∧ lo ≠ hi ∧ v < 256 := by
  obtain ⟨t, F, d⟩ := hw.den f hf
  obtain ⟨lo, hi, _, _, _, _, hr, r1, r2, r3, _, _, r6, _⟩ := d.row h2
  exact ⟨t, lo, hi, hr, r1, r2, r3, r6⟩
/-- the visit, said by what it leaves -/
structure VisOK (nd : List Nd) (he : Int → Bool) (fr : List Nat) (f : Nat) (R : List Nat) : Prop where
  old : ∀ x ∈ fr, x ∈ R
  me : f < 2 ∨ f ∈ R ∨ he f = true
  new : ∀ x ∈ R, x ∈ fr ∨ (Reach nd f x ∧ he x = false ∧ 2 ≤ x)
  shut : ∀ x ∈ R, x ∉ fr → ∀ v lo hi, nd[x]? = some (v, lo, hi) → (lo < 2 ∨ lo ∈ R ∨ he lo = true) ∧ (hi < 2 ∨ hi ∈ R ∨ he hi = true)
theorem vis_ok {nd : List Nd} (hw : WF nd) {he : Int → Bool} : ∀ (n : Nat) (fr : List Nat) (f : Nat), f < n → f < nd.length → VisOK nd he fr f (vis nd he n fr f) := by
  intro n
  induction n with
  | zero => intro fr f h; omega
  | succ n ih =>
    intro fr f hn hf
    by_cases hc : f < 2 ∨ f ∈ fr ∨ he f = true
    · have e : vis nd he (n + 1) fr f = fr := by unfold vis; rw [if_pos hc]
      rw [e]
      exact ⟨fun x h => h, hc, fun x h => .inl h, fun x h h' => absurd h h'⟩
    · have h2 : 2 ≤ f := by
        rcases Nat.lt_or_ge f 2 with h | h
        · exact absurd (.inl h) hc
        · exact h
      obtain ⟨v, lo, hi, hr, r1, r2, r3, r4⟩ := hw.row hf h2
      have e : vis nd he (n + 1) fr f = vis nd he n (vis nd he n (fr ++ [f]) lo) hi := by
        conv => lhs; unfold vis
        rw [if_neg hc, hr]
      rw [e]
      have a := ih (fr ++ [f]) lo (by omega) (by omega)
      have b := ih (vis nd he n (fr ++ [f]) lo) hi (by omega) (by omega)
      have hfa : f ∈ vis nd he n (fr ++ [f]) lo := a.old f (by simp)
      have hef : he f = false := by
        cases h : he f
        · rfl
        · exact absurd (.inr (.inr h)) hc
      refine ⟨fun x h => b.old x (a.old x (by simp [h])), .inr (.inl (b.old f hfa)), fun x h => ?_, fun x h hx v' lo' hi' hr' => ?_⟩
      · rcases b.new x h with h | ⟨h, h3, h4⟩
        · rcases a.new x h with h | ⟨h, h3, h4⟩
          · rcases List.mem_append.1 h with h | h
            · exact .inl h
            · have : x = f := by simpa using h
              subst this
              exact .inr ⟨.refl _, hef, h2⟩
          · exact .inr ⟨.lo hr h2 h, h3, h4⟩
        · exact .inr ⟨.hi hr h2 h, h3, h4⟩
      · by_cases hxa : x ∈ vis nd he n (fr ++ [f]) lo
        · by_cases hxf : x = f
          · subst hxf
            rw [hr] at hr'
            cases hr'
            exact ⟨a.me.imp id (fun h => h.imp (b.old _) id), b.me⟩
          · obtain ⟨s1, s2⟩ := a.shut x hxa (fun h => by
              rcases List.mem_append.1 h with h | h
              · exact hx h
              · exact hxf (by simpa using h)) _ _ _ hr'
            exact ⟨s1.imp id (fun h => h.imp (b.old _) id), s2.imp id (fun h => h.imp (b.old _) id)⟩
        · exact b.shut x h hxa _ _ _ hr'
theorem reach_lt {nd : List Nd} (hw : WF nd) {f y : Nat} (r : Reach nd f y) : f < nd.length → y ≤ f := by
  induction r with
  | refl => intro _; exact Nat.le_refl _
  | lo h h2 _ ih =>
    intro hf
    obtain ⟨v, lo, hi, hr, r1, r2, _⟩ := hw.row hf h2
    rw [hr] at h
    cases h
    have := ih (by omega)
    omega
  | hi h h2 _ ih =>
    intro hf
    obtain ⟨v, lo, hi, hr, r1, r2, _⟩ := hw.row hf h2
    rw [hr] at h
    cases h
    have := ih (by omega)
    omega
theorem shut_reach {nd : List Nd} {he : Int → Bool} {R : List Nat} (hhe : ∀ x : Nat, he x = true → ∀ v lo hi, nd[x]? = some (v, lo, hi) → (lo < 2 ∨ he lo = true) ∧ (hi < 2 ∨ he hi = true))
    (hs : ∀ x ∈ R, ∀ v lo hi, nd[x]? = some (v, lo, hi) → (lo < 2 ∨ lo ∈ R ∨ he lo = true) ∧ (hi < 2 ∨ hi ∈ R ∨ he hi = true)) {f y : Nat} (r : Reach nd f y) : (f < 2 ∨ f ∈ R ∨ he f = true) → (y < 2 ∨ y ∈ R ∨ he y = true) := by
  induction r with
  | refl => exact id
  | lo h h2 _ ih =>
    rintro (h' | h' | h')
    · omega
    · exact ih (hs _ h' _ _ _ h).1
    · exact ih ((hhe _ h' _ _ _ h).1.imp id .inr)
  | hi h h2 _ ih =>
    rintro (h' | h' | h')
    · omega
    · exact ih (hs _ h' _ _ _ h).2
    · exact ih ((hhe _ h' _ _ _ h).2.imp id .inr)
theorem beneath_iff {nd : List Nd} (hw : WF nd) {f y : Nat} (hf : f < nd.length) : y ∈ beneath nd f ↔ Reach nd f y ∧ 2 ≤ y := by
  have a := vis_ok hw (he := noH) (f + 1) [] f (by omega) hf
  constructor
  · intro h
    rcases a.new y h with h | ⟨h, _, h2⟩
    · cases h
    · exact ⟨h, h2⟩
  · rintro ⟨r, h2⟩
    rcases shut_reach (he := noH) (R := vis nd noH (f + 1) [] f) (fun x h => by cases h) (fun x h => a.shut x h (by simp)) r a.me with h | h | h
    · omega
    · exact h
    · cases h
/-- a function hangs on a variable -/
def Hangs (F : Env → Bool) (v : Nat) : Prop := ∃ ρ, F (upd ρ v false) ≠ F (upd ρ v true)
theorem Den.hangs_top {S : Nat → Bool} {nd : List Nd} (ho : Once nd) {f t : Nat} {F : Env → Bool} (d : Den S nd f t F) (h2 : 2 ≤ f) : Hangs F t := by
  obtain ⟨lo, hi, tl, th, Fl, Fh, hr, r1, r2, r3, r4, r5, r6, r7, dl, dh, rfl⟩ := d.row h2
  have hne : Fl ≠ Fh := fun e => by subst e; exact r3 (dl.eq ho dh)
  obtain ⟨ρ, hρ⟩ : ∃ ρ, Fl ρ ≠ Fh ρ := by
    apply Classical.byContradiction
    intro h
    exact hne (funext fun ρ => Classical.byContradiction fun h' => h ⟨ρ, h'⟩)
  refine ⟨ρ, ?_⟩
  simp only [upd_same, Bool.false_eq_true, if_false, if_true]
  rw [dl.free r4, dh.free r5]
  exact hρ
theorem Den.hangs {S : Nat → Bool} {nd : List Nd} (ho : Once nd) {f y : Nat} (r : Reach nd f y) : ∀ {t : Nat} {F : Env → Bool}, Den S nd f t F → 2 ≤ y → ∃ t', nd[y]?.map Prod.fst = some t' ∧ t ≤ t' ∧ Hangs F t' := by
  induction r with
  | refl f =>
    intro t F d h2
    obtain ⟨lo, hi, _, _, _, _, hr, _⟩ := d.row h2
    exact ⟨t, by rw [hr]; rfl, Nat.le_refl _, d.hangs_top ho h2⟩
  | lo h h2 _ ih =>
    intro t F d hy
    obtain ⟨lo, hi, tl, th, Fl, Fh, hr, r1, r2, r3, r4, r5, r6, r7, dl, dh, rfl⟩ := d.row h2
    rw [hr] at h
    simp only [Option.some.injEq, Prod.mk.injEq] at h
    obtain ⟨rfl, rfl, rfl⟩ := h
    obtain ⟨t', e, ht, ρ, hρ⟩ := ih dl hy
    refine ⟨t', e, by omega, upd ρ t false, ?_⟩
    simp only [upd_other _ _ (show t ≠ t' by omega), upd_same, Bool.false_eq_true, if_false]
    rw [upd_swap _ _ _ (show t ≠ t' by omega), upd_swap _ _ _ (show t ≠ t' by omega), dl.free r4, dl.free r4]
    exact hρ
  | hi h h2 _ ih =>
    intro t F d hy
    obtain ⟨lo, hi, tl, th, Fl, Fh, hr, r1, r2, r3, r4, r5, r6, r7, dl, dh, rfl⟩ := d.row h2
    rw [hr] at h
    simp only [Option.some.injEq, Prod.mk.injEq] at h
    obtain ⟨rfl, rfl, rfl⟩ := h
    obtain ⟨t', e, ht, ρ, hρ⟩ := ih dh hy
    refine ⟨t', e, by omega, upd ρ t true, ?_⟩
    simp only [upd_other _ _ (show t ≠ t' by omega), upd_same, if_true]
    rw [upd_swap _ _ _ (show t ≠ t' by omega), upd_swap _ _ _ (show t ≠ t' by omega), dh.free r5, dh.free r5]
    exact hρ
theorem Den.hung {S : Nat → Bool} {nd : List Nd} {f t : Nat} {F : Env → Bool} (d : Den S nd f t F) : ∀ v, Hangs F v → ∃ y lo hi, Reach nd f y ∧ 2 ≤ y ∧ nd[y]? = some (v, lo, hi) := by
  induction d with
  | zero => rintro v ⟨ρ, h⟩; exact absurd rfl h
  | one => rintro v ⟨ρ, h⟩; exact absurd rfl h
  | @node i w lo hi tl th Fl Fh h h2 hl hh hne h1 h3 hv hS dl dh il ih =>
    rintro v ⟨ρ, hρ⟩
    by_cases e : v = w
    · subst e
      exact ⟨i, lo, hi, .refl _, h2, h⟩
    · simp only [upd_other _ _ (Ne.symm e)] at hρ
      cases hw : ρ w
      · simp only [hw, Bool.false_eq_true, if_false] at hρ
        obtain ⟨y, a, b, r, h5, h6⟩ := il v ⟨ρ, hρ⟩
        exact ⟨y, a, b, .lo h h2 r, h5, h6⟩
      · simp only [hw, if_true] at hρ
        obtain ⟨y, a, b, r, h5, h6⟩ := ih v ⟨ρ, hρ⟩
        exact ⟨y, a, b, .hi h h2 r, h5, h6⟩
theorem supL_mem {S : Nat → Bool} {nd : List Nd} (hw : WF nd) {f t : Nat} {F : Env → Bool} (d : Den S nd f t F) (x : Int) : x ∈ supL nd f ↔ ∃ v : Nat, x = v ∧ Hangs F v := by
  have hf := d.lt hw
  rw [show supL nd f = Ld.normL ((beneath nd f).map fun x => (topOf nd x : Int)) from rfl, Ld.norm_mem, List.mem_map]
  constructor
  · rintro ⟨y, hy, rfl⟩
    obtain ⟨r, h2⟩ := (beneath_iff hw hf).1 hy
    obtain ⟨t', e, _, hh⟩ := d.hangs hw.once r h2
    refine ⟨t', ?_, hh⟩
    unfold topOf
    cases hx : nd[y]? with
    | none => rw [hx] at e; cases e
    | some z => rw [hx] at e; simp at e; simp [e]
  · rintro ⟨v, rfl, hh⟩
    obtain ⟨y, lo, hi, r, h2, hr⟩ := d.hung v hh
    refine ⟨y, (beneath_iff hw hf).2 ⟨r, h2⟩, ?_⟩
    unfold topOf
    rw [hr]
theorem supL_up (nd : List Nd) (f : Nat) : Ld.Up (supL nd f) := Ld.norm_up _
/-- on what a function hangs, its diagram has; on nothing else -/
theorem Den.hangs_in {S : Nat → Bool} {nd : List Nd} {f t : Nat} {F : Env → Bool} (d : Den S nd f t F) {v : Nat} (h : Hangs F v) : t ≤ v ∧ v < 256 ∧ S v = true := by
  obtain ⟨ρ, hρ⟩ := h
  have h1 : t ≤ v := by
    rcases Nat.lt_or_ge v t with h | h
    · rw [d.free h, d.free h] at hρ; exact absurd rfl hρ
    · exact h
  have h2 : ∃ x, x = v ∧ x < 256 ∧ S x = true := by
    apply Classical.byContradiction
    intro hno
    apply hρ
    apply d.indepS
    intro x _ hx hS
    by_cases e : x = v
    · exact absurd ⟨x, e, hx, hS⟩ hno
    · rw [upd_other _ _ e, upd_other _ _ e]
  obtain ⟨x, rfl, h3, h4⟩ := h2
  exact ⟨h1, h3, h4⟩
/-- the same diagram, over just the variables on which it hangs -/
theorem Den.narrow {S S' : Nat → Bool} {nd : List Nd} (ho : Once nd) {f t : Nat} {F : Env → Bool} (d : Den S nd f t F) : (∀ v, Hangs F v → S' v = true) → Den S' nd f t F := by
  induction d with
  | zero => intro _; exact .zero
  | one => intro _; exact .one
  | @node i w lo hi tl th Fl Fh h h2 hl hh hne h1 h3 hv hS dl dh il ih =>
    intro hs
    have dn : Den S nd i w (fun ρ => if ρ w then Fh ρ else Fl ρ) := .node h h2 hl hh hne h1 h3 hv hS dl dh
    refine .node h h2 hl hh hne h1 h3 hv (hs w (dn.hangs_top ho h2)) (il fun v hv' => hs v ?_) (ih fun v hv' => hs v ?_)
    · have := (dl.hangs_in hv').1
      obtain ⟨ρ, hρ⟩ := hv'
      refine ⟨upd ρ w false, ?_⟩
      simp only [upd_other _ _ (show w ≠ v by omega), upd_same, Bool.false_eq_true, if_false]
      rw [upd_swap _ _ _ (show w ≠ v by omega), upd_swap _ _ _ (show w ≠ v by omega), dl.free h1, dl.free h1]
      exact hρ
    · have := (dh.hangs_in hv').1
      obtain ⟨ρ, hρ⟩ := hv'
      refine ⟨upd ρ w true, ?_⟩
      simp only [upd_other _ _ (show w ≠ v by omega), upd_same, if_true]
      rw [upd_swap _ _ _ (show w ≠ v by omega), upd_swap _ _ _ (show w ≠ v by omega), dh.free h3, dh.free h3]
      exact hρ
end Go.Proofs.Ytgfjdkkfgclhjaa.Bd
/- Maps of the call's own whose elements are two uint64, told by a function on keys. No program is in sight. -/
namespace Go.Proofs.Ytgfjdkkfgclhjaa.Bd
open Go Go.Maps

abbrev Cn := Nat × Nat
def cEl (c : Cn) : Value := .agg #[.int .u64 c.1, .int .u64 c.2]
def cDt (c : Cn) : DataW Unit := .agg [.lit (.int .u64 c.1), .lit (.int .u64 c.2)]
def cRd (v : Value) : Option (DataW Unit × List MemPlace) :=
  match v with
  | .agg ⟨[.int .u64 h, .int .u64 l]⟩ => some (.agg [.lit (.int .u64 h), .lit (.int .u64 l)], [])
  | _ => none
theorem cRd_el (c : Cn) : cRd (cEl c) = some (cDt c, []) := rfl
theorem cRd_inv {v : Value} {z : DataW Unit × List MemPlace} (h : cRd v = some z) : ∃ a b : Int, v = .agg #[.int .u64 a, .int .u64 b] ∧ z.1 = .agg [.lit (.int .u64 a), .lit (.int .u64 b)] := by
  unfold cRd at h
  split at h
  · cases h; exact ⟨_, _, rfl, rfl⟩
  · cases h
theorem cRd_dt {v : Value} {z : DataW Unit × List MemPlace} (h : cRd v = some z) {c : Cn} (hz : z.1 = cDt c) : v = cEl c := by
  obtain ⟨a, b, rfl, e⟩ := cRd_inv h
  rw [e] at hz
  unfold cDt at hz
  simp only [DataW.agg.injEq, List.cons.injEq, DataW.lit.injEq, Lit.int.injEq, true_and, and_true] at hz
  obtain ⟨h1, h2⟩ := hz
  subst h1 h2
  rfl
variable {P : Program} {w : World} {k e t : TypeId} {b n : Nat} {α : Type} {en : α → Value}
/-- block b: keys read through f; elements: pairs of uint64 -/
def MCnt (P : Program) (w : World) (k : TypeId) (b n : Nat) (en : α → Value) (f : α → Option Cn) : Prop :=
  ∃ D : DataW Unit, w.ownsMap P k cRd b n D ∧ ∀ x kl, keyOf P k (en x) = some kl → Maps.has D kl = (f x).isSome ∧ ∀ c, f x = some c → D.atKey kl (cDt (0, 0)) = cDt c
theorem MCnt.made (w : World) (k : TypeId) (en : α → Value) : MCnt P (w.alloc (.map #[] 0)) k w.heap.size 0 en (fun _ => none) :=
  ⟨.map [], World.ownsMap_made w P k _, fun _ _ _ => ⟨rfl, fun _ h => by cases h⟩⟩
theorem MCnt.kept {w' : World} {row : Option Nat} {f : α → Option Cn} (h : MCnt P w k b n en f) (hg : w.grownBy w' row) (hne : some b ≠ row) : MCnt P w' k b n en f := by
  obtain ⟨D, h1, h2⟩ := h
  exact ⟨D, h1.kept hg hne, h2⟩
theorem MCnt.lt {f : α → Option Cn} (h : MCnt P w k b n en f) : b < w.heap.size := by obtain ⟨D, h1, _⟩ := h; exact h1.lt
theorem MCnt.setCell {f : α → Option Cn} (h : MCnt P w k b n en f) {a : Addr} (ha : b ≠ a.block) (u : Value) : MCnt P (w.setCell a u) k b n en f := by
  obtain ⟨D, h1, h2⟩ := h
  exact ⟨D, h1.setCell ha u, h2⟩
theorem MCnt.heap {f : α → Option Cn} (h : MCnt P w k b n en f) : ∃ es cl, w.heap[b]? = some (.map es cl) := by
  obtain ⟨D, ⟨es, cl, hb, _⟩, _⟩ := h
  exact ⟨es, cl, hb⟩
theorem MCnt.look {f : α → Option Cn} (h : MCnt P w k b n en f) (K : Keyed P k) (ht : P.underlying t = some (.map k e)) (hz : (zeroValue e).run P w = .ok (cEl (0, 0)) w) {key : α} {kl : Lit} (hkey : keyOf P k (en key) = some kl) :
    (Instr.lookup t (.map (some b)) (en key) true).run P w = .ok (.tuple #[cEl ((f key).getD (0, 0)), .bool (f key).isSome]) w := by
  obtain ⟨D, h1, h2⟩ := h
  obtain ⟨v, ps, hrun, hv⟩ := h1.look_ok K ht hz (cRd_el (0, 0)) hkey
  obtain ⟨g1, g2⟩ := h2 key kl hkey
  rw [g1] at hrun
  cases hf : f key with
  | none =>
    rw [hf] at g1
    rw [atKey_of_not_has g1] at hv
    have := cRd_dt hv (c := (0, 0)) rfl
    subst this
    rw [hrun, hf]; rfl
  | some c' =>
    rw [g2 c' hf] at hv
    have := cRd_dt hv (c := c') rfl
    subst this
    rw [hrun, hf]; rfl
theorem MCnt.store [DecidableEq α] {f : α → Option Cn} (h : MCnt P w k b n en f) (K : Keyed P k) (ht : P.underlying t = some (.map k e)) (hn : n < maxLen) (inj : ∀ x y, en x = en y → x = y) {key : α} {kl : Lit} (hkey : keyOf P k (en key) = some kl) (c : Cn) :
    ∃ w', (Instr.mapUpdate t (.map (some b)) (en key) (cEl c)).run P w = .ok () w' ∧ MCnt P w' k b (n + 1) en (fun x => if x = key then some c else f x) ∧ w.mapTurned w' b := by
  obtain ⟨D, h1, h2⟩ := h
  obtain ⟨w', hrun, g1, g2⟩ := h1.store K ht hn hkey (cRd_el c)
  refine ⟨w', hrun, ⟨_, g1, fun key' kl' hkey' => ?_⟩, g2⟩
  have hD := (h1.tidy K).isMap
  by_cases hq : key' = key
  · subst hq
    obtain rfl : kl' = kl := Option.some.inj (hkey'.symm.trans hkey)
    refine ⟨by rw [has_put_same hD (K.key hkey)]; simp, fun c' hc' => ?_⟩
    simp only [if_true] at hc'
    cases hc'
    exact atKey_put_same hD (K.key hkey) _ _
  · have hne : kl' ≠ kl := fun e => hq (inj _ _ (K.inj hkey' (e ▸ hkey)))
    rw [has_put_other hne, atKey_put_other hne]
    simp only [if_neg hq]
    exact h2 key' kl' hkey'
section
variable {ops : Array Oper} {rest : List Oper} {o : Oper} {a : Act} {Q : Exit → Act → World → Prop}
theorem wpList_putC [DecidableEq α] (hg : o.guard = none) (m x v : Operand) (hop : o.op = Op.mapUpdate t m x v) {f : α → Option Cn} (h : MCnt P w k b n en f) (K : Keyed P k) (ht : P.underlying t = some (.map k e)) (hn : n < maxLen) (inj : ∀ x y, en x = en y → x = y)
    (hm : a.eval m = .map (some b)) (key : α) (kl : Lit) (hx : a.eval x = en key) (hkey : keyOf P k (en key) = some kl) (c : Cn) (hv : a.eval v = cEl c)
    (hK : ∀ w', MCnt P w' k b (n + 1) en (fun x => if x = key then some c else f x) → w.mapTurned w' b → wpList P ops Q rest (a.put o.dst undef) w') : wpList P ops Q (o :: rest) a w := by
  refine wpList_plain hg fun K' hK' => ?_
  obtain ⟨w', hrun, r1, r2⟩ := h.store K ht hn inj hkey c
  unfold Oper.wp
  simp [execOp, hop, hm, hx, hv, hrun, Result.andThen]
  exact hK' _ _ (hK w' r1 r2)
theorem wpList_insC [DecidableEq α] (hg : o.guard = none) (m x v : Operand) (hop : o.op = Op.insert t m x v) {f : α → Option Cn} (h : MCnt P w k b n en f) (K : Keyed P k) (ht : P.underlying t = some (.map k e)) (hn : n < maxLen) (inj : ∀ x y, en x = en y → x = y)
    (hm : a.eval m = .map (some b)) (key : α) (kl : Lit) (hx : a.eval x = en key) (hkey : keyOf P k (en key) = some kl) (c : Cn) (hv : a.eval v = cEl c)
    (hK : ∀ w', MCnt P w' k b (n + 1) en (fun x => if x = key then some c else f x) → w.mapTurned w' b → wpList P ops Q rest (a.put o.dst undef) w') : wpList P ops Q (o :: rest) a w := by
  refine wpList_plain hg fun K' hK' => ?_
  obtain ⟨w', hrun, r1, r2⟩ := h.store K ht hn inj hkey c
  unfold Oper.wp
  simp [execOp, hop, hm, hx, hv, hrun, Result.andThen]
  exact hK' _ _ (hK w' r1 r2)
end
end Go.Proofs.Ytgfjdkkfgclhjaa.Bd
/- For how many values a function is true, in plain words. No program is in sight. -/
namespace Go.Proofs.Ytgfjdkkfgclhjaa.Bd

def cntL (F : Env → Bool) : List Nat → Env → Nat
  | [], ρ => if F ρ then 1 else 0
  | v :: vs, ρ => cntL F vs (upd ρ v false) + cntL F vs (upd ρ v true)
theorem cntL_le (F : Env → Bool) : ∀ (l : List Nat) (ρ : Env), cntL F l ρ ≤ 2 ^ l.length := by
  intro l
  induction l with
  | nil => intro ρ; unfold cntL; split <;> simp
  | cons v vs ih =>
    intro ρ
    have h1 := ih (upd ρ v false)
    have h2 := ih (upd ρ v true)
    simp only [cntL, List.length_cons, Nat.pow_succ]
    omega
theorem cntL_not (F : Env → Bool) : ∀ (l : List Nat) (ρ : Env), cntL F l ρ + cntL (fun ρ => !F ρ) l ρ = 2 ^ l.length := by
  intro l
  induction l with
  | nil => intro ρ; unfold cntL; cases F ρ <;> simp
  | cons v vs ih =>
    intro ρ
    have h1 := ih (upd ρ v false)
    have h2 := ih (upd ρ v true)
    simp only [cntL, List.length_cons, Nat.pow_succ]
    omega
/-- what F doesn't see may be put in -/
theorem cntL_upd {F : Env → Bool} {v : Nat} (h : ∀ ρ b, F (upd ρ v b) = F ρ) (b : Bool) : ∀ (l : List Nat) (ρ : Env), cntL F l (upd ρ v b) = cntL F l ρ := by
  intro l
  induction l with
  | nil => intro ρ; unfold cntL; rw [h]
  | cons x xs ih =>
    intro ρ
    simp only [cntL]
    by_cases e : v = x
    · subst e; simp only [upd_twice]
    · rw [upd_swap ρ b false e, upd_swap ρ b true e, ih, ih]
theorem cntL_free {F : Env → Bool} {v : Nat} (h : ∀ ρ b, F (upd ρ v b) = F ρ) (l : List Nat) (ρ : Env) : cntL F (v :: l) ρ = 2 * cntL F l ρ := by
  simp only [cntL, cntL_upd h]
  omega
theorem cntL_frees {F : Env → Bool} : ∀ (l1 l2 : List Nat) (ρ : Env), (∀ v ∈ l1, ∀ ρ b, F (upd ρ v b) = F ρ) → cntL F (l1 ++ l2) ρ = 2 ^ l1.length * cntL F l2 ρ := by
  intro l1
  induction l1 with
  | nil => intro l2 ρ _; simp
  | cons v vs ih =>
    intro l2 ρ h
    rw [List.cons_append, cntL_free (h v (by simp)), ih l2 ρ (fun x hx => h x (by simp [hx])), List.length_cons, Nat.pow_succ]
    rw [Nat.mul_comm (2 ^ vs.length) 2, Nat.mul_assoc]
theorem cntL_if {F G : Env → Bool} {v : Nat} {b : Bool} (h : ∀ ρ : Env, ρ v = b → F ρ = G ρ) : ∀ (l : List Nat) (ρ : Env), v ∉ l → ρ v = b → cntL F l ρ = cntL G l ρ := by
  intro l
  induction l with
  | nil => intro ρ _ e; unfold cntL; rw [h ρ e]
  | cons x xs ih =>
    intro ρ hv e
    have hx : v ≠ x := fun e => hv (by simp [e])
    have hxs : v ∉ xs := fun e => hv (by simp [e])
    simp only [cntL]
    rw [ih _ hxs (by rw [upd_other _ _ hx]; exact e), ih _ hxs (by rw [upd_other _ _ hx]; exact e)]
/-- a node's count -/
theorem cntL_node {v : Nat} {Fl Fh : Env → Bool} (hl : ∀ ρ b, Fl (upd ρ v b) = Fl ρ) (hh : ∀ ρ b, Fh (upd ρ v b) = Fh ρ) (l : List Nat) (hv : v ∉ l) (ρ : Env) : cntL (fun ρ => if ρ v then Fh ρ else Fl ρ) (v :: l) ρ = cntL Fl l ρ + cntL Fh l ρ := by
  simp only [cntL]
  rw [cntL_if (G := Fl) (b := false) (fun ρ e => by simp [e]) l _ hv (upd_same _ _ _), cntL_if (G := Fh) (b := true) (fun ρ e => by simp [e]) l _ hv (upd_same _ _ _), cntL_upd hl, cntL_upd hh]
theorem cntL_zero {F : Env → Bool} : ∀ (l : List Nat) (ρ : Env), cntL F l ρ = 0 → ∀ σ : Env, (∀ x, x ∉ l → σ x = ρ x) → F σ = false := by
  intro l
  induction l with
  | nil =>
    intro ρ h σ hσ
    have : σ = ρ := by funext x; exact hσ x (by simp)
    subst this
    unfold cntL at h
    cases hF : F σ
    · rfl
    · rw [hF] at h; simp at h
  | cons v vs ih =>
    intro ρ h σ hσ
    simp only [cntL] at h
    cases hb : σ v
    · exact ih (upd ρ v false) (by omega) σ (fun x hx => by
        by_cases e : x = v
        · subst e; rw [upd_same]; exact hb
        · rw [upd_other _ _ e]; exact hσ x (by simp [e, hx]))
    · exact ih (upd ρ v true) (by omega) σ (fun x hx => by
        by_cases e : x = v
        · subst e; rw [upd_same]; exact hb
        · rw [upd_other _ _ e]; exact hσ x (by simp [e, hx]))
theorem cntL_none (l : List Nat) (ρ : Env) : cntL (fun _ => false) l ρ = 0 := by
  induction l generalizing ρ with
  | nil => rfl
  | cons v vs ih => simp only [cntL, ih]
/-- a number times 2 to the n, in two words -/
def val (c : Nat × Nat) : Nat := c.1 * 18446744073709551616 + c.2
def ok2 (c : Nat × Nat) : Prop := c.1 < 18446744073709551616 ∧ c.2 < 18446744073709551616
def ofN (n : Nat) : Nat × Nat := (n / 18446744073709551616, n % 18446744073709551616)
theorem ofN_val (n : Nat) : val (ofN n) = n := by unfold val ofN; simp only; omega
theorem ofN_ok {n : Nat} (h : n < 340282366920938463463374607431768211456) : ok2 (ofN n) := by unfold ok2 ofN; simp only; omega
theorem ofN_small {n : Nat} (h : n < 18446744073709551616) : ofN n = (0, n) := by
  unfold ofN
  rw [Nat.div_eq_of_lt h, Nat.mod_eq_of_lt h]
theorem ofN_eq {c : Nat × Nat} (h : ok2 c) {n : Nat} (hv : val c = n) : c = ofN n := by
  obtain ⟨a, b⟩ := c
  unfold ok2 at h
  unfold val at hv
  unfold ofN
  simp only at h hv
  rw [Prod.mk.injEq]
  omega
end Go.Proofs.Ytgfjdkkfgclhjaa.Bd
/- times: a number times 2 to the n, in two words. -/
namespace Go.Proofs.Ytgfjdkkfgclhjaa.Bd
open Go.RowKit Go.Proofs.Ytgfjdkkfgclhjaa Go.Proofs.Ytgfjdkkfgclhjaa.Lx Go.Maps

/-- the two words, as the machine reckons them -/
theorem shift_words {hi lo n m : Nat} (h2 : lo < 18446744073709551616) (hm : m + n = 64) (hv : val (hi, lo) * 2 ^ n < 340282366920938463463374607431768211456) :
    bits .or .u64 (IntKind.u64.wrap ((hi : Int) * 2 ^ n)) ((lo : Int) / 2 ^ m) = ((ofN (val (hi, lo) * 2 ^ n)).1 : Int) ∧ IntKind.u64.wrap ((lo : Int) * 2 ^ n) = ((ofN (val (hi, lo) * 2 ^ n)).2 : Int) := by
  have hPQ : 2 ^ m * 2 ^ n = 18446744073709551616 := by rw [← Nat.pow_add, hm]
  have hP : 0 < 2 ^ n := Nat.two_pow_pos n
  have hQ : 0 < 2 ^ m := Nat.two_pow_pos m
  have cast : ∀ a : Nat, ((a : Int) * 2 ^ n) = ((a * 2 ^ n : Nat) : Int) := fun a => by push_cast; rfl
  have castd : ((lo : Int) / 2 ^ m) = ((lo / 2 ^ m : Nat) : Int) := by push_cast; rfl
  unfold val at hv ⊢
  simp only at hv ⊢
  have e0 : (hi * 18446744073709551616 + lo) * 2 ^ n = hi * 2 ^ n * 18446744073709551616 + lo * 2 ^ n := by
    rw [Nat.add_mul, Nat.mul_assoc, Nat.mul_comm 18446744073709551616 (2 ^ n), ← Nat.mul_assoc]
  rw [e0] at hv ⊢
  have hhi : hi * 2 ^ n < 18446744073709551616 := by omega
  have hld : lo / 2 ^ m < 2 ^ n := by
    rw [Nat.div_lt_iff_lt_mul hQ, Nat.mul_comm, hPQ]; exact h2
  have hdv : lo * 2 ^ n / 18446744073709551616 = lo / 2 ^ m := by
    rw [← hPQ]
    exact Nat.mul_div_mul_right _ _ hP
  have hdm := Nat.div_add_mod (lo * 2 ^ n) 18446744073709551616
  rw [hdv] at hdm
  have hmod := Nat.mod_lt (lo * 2 ^ n) (show 18446744073709551616 > 0 by omega)
  have hor : hi * 2 ^ n ||| lo / 2 ^ m = hi * 2 ^ n + lo / 2 ^ m := by
    rw [Nat.mul_comm, ← Nat.two_pow_add_eq_or_of_lt hld]
  have hs : hi * 2 ^ n + lo / 2 ^ m < 18446744073709551616 := by omega
  rw [cast, cast, castd, IntKind.wrap_u64, IntKind.wrap_u64]
  have w1 : ((hi * 2 ^ n : Nat) : Int) % 18446744073709551616 = ((hi * 2 ^ n : Nat) : Int) := by omega
  rw [w1, u64_or_nat _ _ hhi (by have : lo / 2 ^ m ≤ lo := Nat.div_le_self _ _; omega), hor]
  unfold ofN
  simp only
  generalize hi * 2 ^ n = A at *
  generalize lo * 2 ^ n = B at *
  generalize lo / 2 ^ m = C at *
  constructor
  · congr 1
    omega
  · omega
theorem two_boxes (w : World) (a b : Array Value) (ta tb : TypeId) : ((w.alloc (.cells a ta)).alloc (.cells b tb)).heap[w.heap.size]? = some (.cells a ta (0, 0)) ∧ ((w.alloc (.cells a ta)).alloc (.cells b tb)).heap[w.heap.size + 1]? = some (.cells b tb (0, 0)) ∧ Below w.heap.size w ((w.alloc (.cells a ta)).alloc (.cells b tb)) := by
  refine ⟨heap_old (heap_new _ _), ?_, bel_two w _ _⟩
  have := heap_new (w.alloc (.cells a ta)) (.cells b tb)
  rw [show (w.alloc (.cells a ta)).heap.size = w.heap.size + 1 by simp] at this
  exact this
set_option maxHeartbeats 1000000 in
set_option maxRecDepth 100000 in
theorem times_small (hi lo n : Nat) (w : World) (h1 : hi < 18446744073709551616) (h2 : lo < 18446744073709551616) (hn : n < 64) (hv : val (hi, lo) * 2 ^ n < 340282366920938463463374607431768211456) :
    Calls Try.prog 33 #[cEl (hi, lo), .int .i64 n] w fun e w' => e = .returned (cEl (ofN (val (hi, lo) * 2 ^ n))) ∧ Below w.heap.size w w' := by
  unfold cEl
  have d1 : decide ((64 : Int) ≤ n) = false := by simp; omega
  simp only
  have HX := hide (two_boxes w #[.int .u64 hi, .int .u64 lo] #[.int .u64 0, .int .u64 0] 34 34)
  obtain ⟨m, hm⟩ : ∃ m : Nat, m + n = 64 := ⟨64 - n, by omega⟩
  have HE := hide (shift_words h2 hm hv)
  have hw : IntKind.i64.wrap (64 - (n : Int)) = (m : Int) := by rw [IntWalk.i64_in _ (by omega)]; omega
  have hm64 : m ≤ 64 := by omega
  clear hv hm
  go_enter Try.func33, Try.ntmps33
  go_wp2_with fail
  generalize (w.alloc (.cells #[.int .u64 hi, .int .u64 lo] 34)).alloc (.cells #[.int .u64 0, .int .u64 0] 34) = w1 at *
  have c0 : w1.drew.cell? ⟨w.heap.size, 0, none⟩ = some (.int .u64 hi) := cell_heap HX.out.1 rfl
  have c1 : w1.drew.cell? ⟨w.heap.size, 1, none⟩ = some (.int .u64 lo) := cell_heap HX.out.1 rfl
  have f2 : w1.drew.frozen? ⟨w.heap.size + 1, 0, none⟩ = false := frozen_heap HX.out.2.1
  have f3 : ∀ u, (w1.drew.setCell ⟨w.heap.size + 1, 0, none⟩ u).frozen? ⟨w.heap.size + 1, 1, none⟩ = false := fun u => frozen_heap (heap_set HX.out.2.1)
  have c2 : w1.drew.cell? ⟨w.heap.size + 1, 0, none⟩ = some (.int .u64 0) := cell_heap HX.out.2.1 rfl
  have c3 : ∀ u, (w1.drew.setCell ⟨w.heap.size + 1, 0, none⟩ u).cell? ⟨w.heap.size + 1, 1, none⟩ = some (.int .u64 0) := fun u => cell_heap (heap_set HX.out.2.1) rfl
  go_still_tail 15, (by kernel_rfl)
  change wpList _ _ _ _ _ w1.drew
  have HY := hide (show w1.drew.heap[w.heap.size + 1]? = some (.cells #[.int .u64 0, .int .u64 0] 34 (0, 0)) ∧ Below w.heap.size w w1.drew from ⟨HX.out.2.1, HX.out.2.2.drew⟩)
  generalize w1.drew = w2 at *
  go_wp2_with fail
  rw [HE.out.1, HE.out.2]
  have y2 := HY.out.1
  have y3 := HY.out.2
  have q0 := cell_heap (j := 0) (heap_set (j := 1) (u := .int .u64 ((ofN (val (hi, lo) * 2 ^ n)).2 : Int)) (heap_set (j := 0) (u := .int .u64 ((ofN (val (hi, lo) * 2 ^ n)).1 : Int)) y2)) rfl
  have q1 := cell_heap (j := 1) (heap_set (j := 1) (u := .int .u64 ((ofN (val (hi, lo) * 2 ^ n)).2 : Int)) (heap_set (j := 0) (u := .int .u64 ((ofN (val (hi, lo) * 2 ^ n)).1 : Int)) y2)) rfl
  have hB := (y3.setCell (p := ⟨w.heap.size + 1, 0, none⟩) (by simp) (.int .u64 ((ofN (val (hi, lo) * 2 ^ n)).1 : Int))).setCell (p := ⟨w.heap.size + 1, 1, none⟩) (by simp) (.int .u64 ((ofN (val (hi, lo) * 2 ^ n)).2 : Int))
  generalize ((w2.setCell ⟨w.heap.size + 1, 0, none⟩ (.int .u64 ((ofN (val (hi, lo) * 2 ^ n)).1 : Int))).setCell ⟨w.heap.size + 1, 1, none⟩ (.int .u64 ((ofN (val (hi, lo) * 2 ^ n)).2 : Int))) = w9 at *
  exact bodyPost_ret (v := .agg #[.int .u64 ((ofN (val (hi, lo) * 2 ^ n)).1 : Int), .int .u64 ((ofN (val (hi, lo) * 2 ^ n)).2 : Int)]) (by simp [results, Try.results33, go_sem, q0, q1]) rfl ⟨rfl, hB⟩
set_option maxHeartbeats 1000000 in
set_option maxRecDepth 100000 in
theorem times_big (lo n : Nat) (w : World) (h2 : lo < 18446744073709551616) (hn : n < 64) (hv : val (lo, 0) * 2 ^ n < 340282366920938463463374607431768211456) :
    Calls Try.prog 33 #[cEl (0, lo), .int .i64 ((n : Int) + 64)] w fun e w' => e = .returned (cEl (ofN (val (lo, 0) * 2 ^ n))) ∧ Below w.heap.size w w' := by
  unfold cEl
  have d1 : decide ((64 : Int) ≤ (n : Int) + 64) = true := by simp; omega
  show Calls Try.prog 33 #[.agg #[.int .u64 0, .int .u64 lo], .int .i64 ((n : Int) + 64)] w _
  have HX := hide (two_boxes w #[.int .u64 lo, .int .u64 0] #[.int .u64 0, .int .u64 0] 34 34)
  obtain ⟨m, hm⟩ : ∃ m : Nat, m + n = 64 := ⟨64 - n, by omega⟩
  have HE : Hid (bits .or .u64 (IntKind.u64.wrap ((lo : Int) * 2 ^ n)) 0 = ((ofN (val (lo, 0) * 2 ^ n)).1 : Int) ∧ ((ofN (val (lo, 0) * 2 ^ n)).2 : Int) = 0) := by
    obtain ⟨a, b⟩ := shift_words (hi := lo) (lo := 0) (by omega) hm hv
    rw [show (((0 : Nat) : Int) / 2 ^ m) = 0 by simp] at a
    rw [show (((0 : Nat) : Int) * 2 ^ n) = 0 by simp, show IntKind.u64.wrap 0 = 0 from rfl] at b
    exact ⟨a, b.symm⟩
  have hw : IntKind.i64.wrap (64 - (n : Int)) = (m : Int) := by rw [IntWalk.i64_in _ (by omega)]; omega
  have hm64 : m ≤ 64 := by omega
  clear hv hm
  go_enter Try.func33, Try.ntmps33
  go_wp2_with fail
  generalize (w.alloc (.cells #[.int .u64 lo, .int .u64 0] 34)).alloc (.cells #[.int .u64 0, .int .u64 0] 34) = w1 at *
  have c0 : w1.drew.cell? ⟨w.heap.size, 0, none⟩ = some (.int .u64 lo) := cell_heap HX.out.1 rfl
  have c1 : w1.drew.cell? ⟨w.heap.size, 1, none⟩ = some (.int .u64 0) := cell_heap HX.out.1 rfl
  have f2 : w1.drew.frozen? ⟨w.heap.size + 1, 0, none⟩ = false := frozen_heap HX.out.2.1
  have f3 : ∀ u, (w1.drew.setCell ⟨w.heap.size + 1, 0, none⟩ u).frozen? ⟨w.heap.size + 1, 1, none⟩ = false := fun u => frozen_heap (heap_set HX.out.2.1)
  have c2 : w1.drew.cell? ⟨w.heap.size + 1, 0, none⟩ = some (.int .u64 0) := cell_heap HX.out.2.1 rfl
  have c3 : ∀ u, (w1.drew.setCell ⟨w.heap.size + 1, 0, none⟩ u).cell? ⟨w.heap.size + 1, 1, none⟩ = some (.int .u64 0) := fun u => cell_heap (heap_set HX.out.2.1) rfl
  go_still_tail 15, (by kernel_rfl)
  change wpList _ _ _ _ _ w1.drew
  have HY := hide (show w1.drew.heap[w.heap.size + 1]? = some (.cells #[.int .u64 0, .int .u64 0] 34 (0, 0)) ∧ Below w.heap.size w w1.drew from ⟨HX.out.2.1, HX.out.2.2.drew⟩)
  generalize w1.drew = w2 at *
  go_wp2_with fail
  rw [HE.out.1, HE.out.2]
  have y2 := HY.out.1
  have y3 := HY.out.2
  have q0 := cell_heap (j := 0) (heap_set (j := 1) (u := .int .u64 0) (heap_set (j := 0) (u := .int .u64 ((ofN (val (lo, 0) * 2 ^ n)).1 : Int)) y2)) rfl
  have q1 := cell_heap (j := 1) (heap_set (j := 1) (u := .int .u64 0) (heap_set (j := 0) (u := .int .u64 ((ofN (val (lo, 0) * 2 ^ n)).1 : Int)) y2)) rfl
  have hB := (y3.setCell (p := ⟨w.heap.size + 1, 0, none⟩) (by simp) (.int .u64 ((ofN (val (lo, 0) * 2 ^ n)).1 : Int))).setCell (p := ⟨w.heap.size + 1, 1, none⟩) (by simp) (.int .u64 0)
  generalize ((w2.setCell ⟨w.heap.size + 1, 0, none⟩ (.int .u64 ((ofN (val (lo, 0) * 2 ^ n)).1 : Int))).setCell ⟨w.heap.size + 1, 1, none⟩ (.int .u64 0)) = w9 at *
  exact bodyPost_ret (v := .agg #[.int .u64 ((ofN (val (lo, 0) * 2 ^ n)).1 : Int), .int .u64 0]) (by simp [results, Try.results33, go_sem, q0, q1]) rfl ⟨rfl, hB⟩
end Go.Proofs.Ytgfjdkkfgclhjaa.Bd
