/- At; Vars, Used; what a nil arena answers. -/
import Derived.Test.YtgfjdkkfgclhjaaBX
namespace Go.Proofs.Ytgfjdkkfgclhjaa.Bd
open Go.RowKit Go.Proofs.Ytgfjdkkfgclhjaa Go.Proofs.Ytgfjdkkfgclhjaa.Lx Go.Maps

def envOf (l : List Bool) : Env := fun x => l.getD x false
theorem srcB_at {w : World} {A : Option Addr} {m c : Nat} {l : List Bool} (h : Src w A m c 1 (l.map Value.bool)) {i : Nat} {x : Bool} (hx : l[i]? = some x) : ∃ ad, A = some ad ∧ w.cell? (ad.add i) = some (.bool x) := by
  obtain ⟨h1, ⟨_, h2, _⟩ | ⟨ad, h2, h3⟩⟩ := h
  · have := lt_of_some hx
    simp only [List.length_map] at h1
    omega
  · exact ⟨ad, h2, h3 i _ (by rw [List.getElem?_map, hx]; rfl)⟩
set_option maxHeartbeats 2000000 in
set_option maxRecDepth 100000 in
theorem At_any (S : Nat → Bool) (k : Blk) (s : St) (f t : Nat) (F : Env → Bool) (A : Option Addr) (c : Nat) (vals : List Bool) (w : World) (hA : Ar w k s) (g1 : s.gi f = true) (d : Den S s.nd f t F) (hS : Src w A vals.length c 1 (vals.map Value.bool)) (hn : vals.length = s.vs) (hv : s.vs ≤ 256) (hSv : ∀ x, S x = true → x < s.vs) (hm : s.m + 2 ≤ 1000000000) :
    Calls Try.prog 14 #[.pointer (some ⟨k.p, 0, none⟩), .int .i64 f, .slice A vals.length c] w fun e w' => e = .returned (.tuple #[.bool (F (envOf vals)), .int .i64 0]) ∧ Below w.heap.size w w' := by
  have hW := hA.wf
  have hnm := hA.nm
  have l1 := d.lt hW
  have hbl := bel_one w (.cells #[.int .i64 f] 3)
  have HC := hide (check_any k s [(f : Int)] w.heap.size _ (hA.below hbl) (cells1 w f) (by simp; omega) (by simp))
  rw [show [(f : Int)].length = 1 from rfl, gvn_all (s := s) (l := [(f : Int)]) (by simp [g1])] at HC
  have c0 : (w.alloc (.cells #[.int .i64 f] 3)).cell? ⟨k.p, 0, none⟩ = some (.int .i64 s.vs) := by obtain ⟨_, _, H, _⟩ := hA.below hbl; exact H.c0
  have hne : ((vals.length : Int) != s.vs) = false := by rw [hn]; simp
  have HA := hide hA
  have HB := hide hbl
  have HS := hide hS
  have HN := hide hn
  have HSV := hide hSv
  have HD := hide d
  clear hA hbl hS g1 hSv d
  have hv2 : vals.length ≤ 256 := by omega
  clear hn
  go_enter Try.func14, Try.ntmps14
  go_wp2_with fail
  refine HC.out.mono ?_
  rintro e w1 ⟨rfl, rfl⟩
  go_wp2_with fail
  have hw1 := HB.out
  generalize w.alloc (.cells #[.int .i64 f] 3) = w1 at *
  go_loopw [9, 10] (fun a _ wr => ∃ (i t : Nat) (G : Env → Bool), a = .int .i32 i ∧ Den S s.nd i t G ∧ G (envOf vals) = F (envOf vals) ∧ Below w.heap.size w wr) (fun a _ _ => (intOf a).toNat)
  case atStart => exact ⟨f, t, F, rfl, HD.out, rfl, hw1⟩
  case round =>
    obtain ⟨i, ti, G, rfl, dG, eG, hB⟩ := hrel
    have hil := dG.lt hW
    rcases Nat.lt_or_ge 1 i with hgt | hle
    · have d1 : decide (1 < (i : Int)) = true := by simp; omega
      obtain ⟨lo, hi, tl, th, Fl, Fh, hr, r1, r2, r3, r4, r5, r6, r7, dl, dh, eF⟩ := dG.row (by omega)
      have htv := HSV.out ti r7
      obtain ⟨b, hb⟩ : ∃ b, vals[ti]? = some b := ⟨_, List.getElem?_eq_getElem (by have := HN.out; omega)⟩
      have hbv : envOf vals ti = b := by unfold envOf; rw [List.getD_eq_getElem?_getD, hb]; rfl
      obtain ⟨fb, ft, H, I⟩ := HA.out.below hB
      obtain ⟨n0, n1, n2⟩ := H.node hr
      have c2 := H.c2
      have q1 : (i : Int) < s.nd.length := by omega
      have q2 : (ti : Int) < vals.length := by have := HN.out; omega
      have hB2 := (hB.alloc hB.size (.cells #[.int .i32 ti, .int .i32 lo, .int .i32 hi] 58))
      have z0 := cell_heap (j := 0) (heap_new wr (.cells #[.int .i32 ti, .int .i32 lo, .int .i32 hi] 58)) rfl
      have z0' : (wr.alloc (.cells #[.int .i32 ti, .int .i32 lo, .int .i32 hi] 58)).drew.cell? ⟨wr.heap.size, 0, none⟩ = some (.int .i32 ti) := z0
      obtain ⟨ad, rfl, hc⟩ := srcB_at (Src.below HS.out hB2) hb
      have hc' : (wr.alloc (.cells #[.int .i32 ti, .int .i32 lo, .int .i32 hi] 58)).drew.cell? (ad.add ti) = some (.bool b) := hc
      have HCT := hide (cut_any k s i ti b (wr.alloc (.cells #[.int .i32 ti, .int .i32 lo, .int .i32 hi] 58)).drew (HA.out.below hB2.drew) (by omega) (by omega) (by omega))
      obtain ⟨t', h1, d'⟩ := cut_den hW dG (v := ti) (Nat.le_refl _) r6 b
      have hce : (fun ρ => G (upd ρ ti b)) (envOf vals) = F (envOf vals) := by
        simp only
        have : upd (envOf vals) ti b = envOf vals := by
          funext x
          unfold upd
          split
          · rename_i e; rw [e, hbv]
          · rfl
        rw [this, eG]
      have hcl : cut s.nd i ti b < i := by
        unfold cut
        rw [hr]
        simp only [ne_eq, not_true_eq_false, if_false]
        cases b <;> simp <;> omega
      have HD2 := hide (And.intro d' hce)
      have HB2 := hide hB2.drew
      clear H I dl dh eF dG eG hr d' hce hB hB2 hb hbv
      generalize cut s.nd i ti b = i' at *
      go_wp2_with fail
      generalize wr.alloc (.cells #[.int .i32 ti, .int .i32 lo, .int .i32 hi] 58) = w3 at *
      go_still_tail 9, (by kernel_rfl)
      change wpList _ _ _ _ _ w3.drew
      go_wp2_with fail
      refine HCT.out.mono ?_
      rintro e w5 ⟨rfl, hb5⟩
      have HB5 := hide (HB2.out.trans (hb5.mono HB2.out.size))
      clear hb5
      go_wp2_with fail
      go_roundw
      case rel => exact ⟨i', t', _, rfl, HD2.out.1, HD2.out.2, HB5.out⟩
      case measure => simp [intOf]; omega
    · have d1 : decide (1 < (i : Int)) = false := by simp; omega
      obtain ⟨_, hF⟩ := dG.ends (by omega)
      have hv : decide (i = 1) = ((i : Int) == 1) := by
        rcases (by omega : i = 0 ∨ i = 1) with rfl | rfl <;> rfl
      have HV := hide (show ((i : Int) == 1) = F (envOf vals) by rw [← eG, hF, ← hv])
      have HB2 := hide hB
      clear dG eG hF hB
      go_wp2_with fail
      go_ret2
      exact ⟨by rw [← HV.out]; rfl, HB2.out⟩
theorem Vars_any (k : Blk) (s : St) (w : World) (hA : Ar w k s) : Calls Try.prog 20 #[.pointer (some ⟨k.p, 0, none⟩)] w fun e w' => e = .returned (.int .i64 s.vs) ∧ w = w' := by
  obtain ⟨_, _, H, _⟩ := hA
  have c0 := H.c0
  clear H
  go_enter Try.func20, Try.ntmps20
  go_wp2_with fail
  go_ret
  exact ⟨rfl, rfl⟩
theorem Vars_nil (w : World) : Calls Try.prog 20 #[.pointer none] w fun e w' => e = .returned (.int .i64 0) ∧ w = w' := by
  go_enter Try.func20, Try.ntmps20
  go_wp2_with fail
  go_ret
  exact ⟨rfl, rfl⟩
theorem Used_any (k : Blk) (s : St) (w : World) (hA : Ar w k s) : Calls Try.prog 21 #[.pointer (some ⟨k.p, 0, none⟩)] w fun e w' => e = .returned (.int .i64 s.hn) ∧ w = w' := by
  obtain ⟨_, _, H, _⟩ := hA
  have c6 := H.c6
  have ul : ∀ ty, (Builtin.len_ #[63] ty #[.map (some k.he)]).run Try.prog w = .ok (.int .i64 s.hn) w := fun ty => H.he.len Try.underlying63 ty
  clear H
  go_enter Try.func21, Try.ntmps21
  go_wp2_with fail
  go_ret
  exact ⟨rfl, rfl⟩
theorem Used_nil (w : World) : Calls Try.prog 21 #[.pointer none] w fun e w' => e = .returned (.int .i64 0) ∧ w = w' := by
  go_enter Try.func21, Try.ntmps21
  go_wp2_with fail
  go_ret
  exact ⟨rfl, rfl⟩
end Go.Proofs.Ytgfjdkkfgclhjaa.Bd
