/- BddPlays returns true for every input, and every argument reads afterwards as it read before; no condition. -/
import Derived.Test.YtgfjdkkfgclhjaaGreatPl01
import Derived.Test.YtgfjdkkfgclhjaaGreatPl02
import Derived.Test.YtgfjdkkfgclhjaaGreatPl03
import Derived.Test.YtgfjdkkfgclhjaaGreatPl04
import Derived.Test.YtgfjdkkfgclhjaaGreatPl05
import Derived.Test.YtgfjdkkfgclhjaaGreatPl06
import Derived.Test.YtgfjdkkfgclhjaaGreatPl07
import Derived.Test.YtgfjdkkfgclhjaaGreatPl08
import Derived.Test.YtgfjdkkfgclhjaaGreatPl09
import Derived.Test.YtgfjdkkfgclhjaaGreatPl10
import Derived.Test.YtgfjdkkfgclhjaaGreatPl11
import Derived.Test.YtgfjdkkfgclhjaaGreatPl12
namespace Go.Proofs.YtgfjdkkfgclhjaaGreat.BdP
open Go.ChangeShapes Go.WideShapes Go.ChangeAt Go.RowKit Go.Proofs.YtgfjdkkfgclhjaaGreat.Lx Go.Proofs.YtgfjdkkfgclhjaaGreat.Bd

theorem ownP : ownKnob Tryz.prog.godebug = none := by kernel_rfl
theorem laidOutP : laidOutB Tryz.prog = true := by kernel_rfl
set_option maxRecDepth 100000 in
theorem lifted (os : Os) (started : os.Started) (H : Type) (enc : TypeId × Value → H) :
    ReturnsInHanded {} Tryz.checked os 3 .any (Rows.bddPlaysSpec.pre6 enc Tryz.prog Tryz.f3 Rows.bddPlaysRow.domain false) (Rows.bddPlaysSpec.post enc Tryz.prog Tryz.f3 false true false false) := by
  refine returnsInHanded_of_change_shaped (C := Tryz.checked) ownP started (by kernel_rfl) Tryz.func3
    (ChangeSpec.witness6 (enc := enc) (C := Tryz.checked) false ⟨#[], #[.int .i64 0, .int .i64 0, .slice none 0 0], []⟩ 8 (by kernel_rfl) (by kernel_rfl) (by kernel_rfl) (by kernel_rfl)) ?_
  intro W base args ds gs before hval0 hW _ hwt _ _
  have hval : ∀ (j : Nat) t v, Tryz.f3.params[j]? = some t → args[j]? = some v → Value.okWide Tryz.prog W .any base t v := hval0
  have hW' := hW
  obtain ⟨p, q, hA0, hV, rfl, hfz, hnd⟩ := hW
  have hA : DataW.TrodAll enc Tryz.prog W 0 (fun _ => true) true Tryz.f3.params.toList args.toList ds p := hA0
  rw [Tryz.params3] at hA hval hwt
  obtain ⟨v0, vs0, d0, ds0, p0, q0, hargs, rfl, rfl, h0, r0⟩ := trodAll_cons hA
  obtain ⟨v1, vs1, d1, ds1, p1, q1, rfl, rfl, rfl, h1, r1⟩ := trodAll_cons r0
  obtain ⟨v2, vs2, d2, ds2, p2, q2, rfl, rfl, rfl, h2, r2⟩ := trodAll_cons r1
  obtain ⟨rfl, rfl, rfl⟩ := trodAll_nil r2
  obtain rfl : args = #[v0, v1, v2] := by cases args; simp_all
  obtain ⟨rfl, rfl⟩ := trodVars_none hV
  have lt0 : ∀ x ∈ p0, x.block < W.heap.size := by obtain ⟨m, hm⟩ := h0; exact DataW.trod_lt m _ _ _ hm
  have lt1 : ∀ x ∈ p1, x.block < W.heap.size := by obtain ⟨m, hm⟩ := h1; exact DataW.trod_lt m _ _ _ hm
  have lt2 : ∀ x ∈ p2, x.block < W.heap.size := by obtain ⟨m, hm⟩ := h2; exact DataW.trod_lt m _ _ _ hm
  have k0 := h0
  have k1 := h1
  have k2 := h2
  have hw2 : ∀ z ∈ d2.weights Tryz.prog 22, z ≤ reachBytes := fun z hz =>
    of_decide_eq_true (List.all_eq_true.1 hwt z (DataW.weights_mem_each (j := 2) (t := 22) (d := d2) rfl rfl z hz))
  obtain ⟨a2, len2, cap2, rfl⟩ := okWide_slice Tryz.underlying22 (hval 2 22 v2 rfl rfl)
  obtain ⟨m0, g0⟩ := h0
  obtain ⟨m1, g1⟩ := h1
  obtain ⟨m2, g2⟩ := h2
  obtain ⟨x0, rfl⟩ : ∃ x0, v0 = .int .i64 x0 := by
    exact okWide_int Tryz.underlying3 (hval 0 3 v0 rfl rfl)
  obtain ⟨x1, rfl⟩ : ∃ x1, v1 = .int .i64 x1 := by
    exact okWide_int Tryz.underlying3 (hval 1 3 v1 rfl rfl)
  obtain ⟨y1, e1, _, wf1⟩ := DataW.trod_int Tryz.underlying3 g1
  simp [Value.cells] at e1
  subst e1
  obtain ⟨A2, c2, xs, e2, s2, hok, hln⟩ := open_acts g2 hw2
  simp [Value.cells] at e2
  obtain ⟨rfl, rfl, rfl⟩ := e2
  clear hA0 hval0
  refine (plays_any x0 x1 a2 cap2 xs W (wf_i64 wf1) s2 hln hok).mono fun e W' ⟨he, bel⟩ => ?_
  subst he
  exact ⟨_, rfl, _, _, _, [], _, [], hW', trodAll_mk1 (shut_bool Tryz.underlying4 _),
    (trodAll_cons_mk (Below.trod laidOutP (by kernel_rfl) (of_decide_eq_true (by kernel_rfl)) k0 bel lt0)
      (trodAll_cons_mk (Below.trod laidOutP (by kernel_rfl) (of_decide_eq_true (by kernel_rfl)) k1 bel lt1)
        (trodAll_cons_mk (Below.trod laidOutP (by kernel_rfl) (of_decide_eq_true (by kernel_rfl)) k2 bel lt2) trodAll_mk0))), rfl, bel.frame _, fun h => by cases h⟩
theorem holds : Rows.BddPlaysSaid :=
  OpenClaim.holds_of_wide 3 Tryz.f3 rfl rfl rfl rfl rfl rfl rfl ⟨rfl, rfl, rfl, rfl, rfl⟩ rfl rfl rfl rfl rfl (by kernel_rfl) Tryz.func3 (by kernel_rfl)
    (of_decide_eq_true (by kernel_rfl)) (by unfold Func.isWrapper; first | (rw [if_pos (by decide +kernel)]; kernel_rfl) | (rw [if_neg (by decide +kernel)]; exact ⟨rfl, rfl⟩))
    (fun os started H enc _ => lifted os started H enc)
#print axioms holds
end Go.Proofs.YtgfjdkkfgclhjaaGreat.BdP
