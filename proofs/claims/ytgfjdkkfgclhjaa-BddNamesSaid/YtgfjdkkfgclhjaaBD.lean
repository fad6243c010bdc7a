/- cut: what becomes of a node when its variable has a value. -/
import Derived.Test.YtgfjdkkfgclhjaaBC
namespace Go.Proofs.Ytgfjdkkfgclhjaa.Bd
open Go.RowKit Go.Proofs.Ytgfjdkkfgclhjaa Go.Proofs.Ytgfjdkkfgclhjaa.Lx Go.Maps

set_option maxHeartbeats 1000000 in
set_option maxRecDepth 100000 in
theorem cut_any (k : Blk) (s : St) (f v : Nat) (b : Bool) (w : World) (hA : Ar w k s) (hf : f < s.nd.length) (hv : v < 2147483648) (hm : s.m + 2 ≤ 2147483648) :
    Calls Try.prog 35 #[.pointer (some ⟨k.p, 0, none⟩), .int .i32 f, .int .i32 v, .bool b] w fun e w' => e = .returned (.int .i32 (cut s.nd f v b)) ∧ Below w.heap.size w w' := by
  obtain ⟨fb, ft, H, I⟩ := hA
  obtain ⟨⟨a, lo, hi⟩, hx⟩ : ∃ x, s.nd[f]? = some x := ⟨_, List.getElem?_eq_getElem hf⟩
  obtain ⟨n0, n1, n2⟩ := H.node hx
  have c2 := H.c2
  have hfi : (f : Int) < s.nd.length := by omega
  have hcut : cut s.nd f v b = if a ≠ v then f else if b then hi else lo := by unfold cut; rw [hx]
  have hbl := hide (bel_one w (.cells #[.int .i32 a, .int .i32 lo, .int .i32 hi] 58))
  clear H I
  by_cases hav : a = v
  · have hd : ((a : Int) != v) = false := by rw [hav]; simp
    rw [if_neg (by simp [hav])] at hcut
    cases b
    · have HC := hide hcut
      clear hcut
      go_enter Try.func35, Try.ntmps35
      go_wp2_with fail
      go_ret
      refine ⟨?_, bel_one _ _⟩
      rw [HC.out]; rfl
    · have HC := hide hcut
      clear hcut
      go_enter Try.func35, Try.ntmps35
      go_wp2_with fail
      go_ret
      refine ⟨?_, bel_one _ _⟩
      rw [HC.out]; rfl
  · have hd : ((a : Int) != v) = true := by simp; omega
    rw [if_pos hav] at hcut
    have HC := hide hcut
    clear hcut
    go_enter Try.func35, Try.ntmps35
    go_wp2_with fail
    go_ret
    refine ⟨?_, bel_one _ _⟩
    rw [HC.out]
    rfl
end Go.Proofs.Ytgfjdkkfgclhjaa.Bd
