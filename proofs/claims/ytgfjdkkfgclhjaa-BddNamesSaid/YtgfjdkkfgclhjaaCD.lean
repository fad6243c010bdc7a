/- times: a number times 2 to the n, in two words. -/
import Derived.Test.YtgfjdkkfgclhjaaDR
import Derived.Test.YtgfjdkkfgclhjaaMC
import Derived.Test.YtgfjdkkfgclhjaaPC
import Derived.IntWalk
import Derived.Laws.BitsAllLaws
namespace Go.Proofs.Ytgfjdkkfgclhjaa.Bd
open Go.RowKit Go.Proofs.Ytgfjdkkfgclhjaa Go.Proofs.Ytgfjdkkfgclhjaa.Lx Go.Maps

/-- the two words, as the machine reckons them -/
theorem shift_words {hi lo n m : Nat} (h2 : lo < 18446744073709551616) (hm : m + n = 64) (hv : val (hi, lo) * 2 ^ n < 340282366920938463463374607431768211456) :
    bits .or .u64 (IntKind.u64.wrap ((hi : Int) * 2 ^ n)) ((lo : Int) / 2 ^ m) = ((ofN (val (hi, lo) * 2 ^ n)).1 : Int) ∧ IntKind.u64.wrap ((lo : Int) * 2 ^ n) = ((ofN (val (hi, lo) * 2 ^ n)).2 : Int) := by
  have hPQ : 2 ^ m * 2 ^ n = 18446744073709551616 := by rw [← Nat.pow_add, hm]
  have hP : 0 < 2 ^ n := Nat.two_pow_pos n
  have hQ : 0 < 2 ^ m := Nat.two_pow_pos m
  have cast : ∀ a : Nat, ((a : Int) * 2 ^ n) = ((a * 2 ^ n : Nat) : Int) := fun a => by push_cast; rfl
  have castd : ((lo : Int) / 2 ^ m) = ((lo / 2 ^ m : Nat) : Int) := by push_cast; rfl
  unfold val at hv ⊢
  simp only at hv ⊢
  have e0 : (hi * 18446744073709551616 + lo) * 2 ^ n = hi * 2 ^ n * 18446744073709551616 + lo * 2 ^ n := by
    rw [Nat.add_mul, Nat.mul_assoc, Nat.mul_comm 18446744073709551616 (2 ^ n), ← Nat.mul_assoc]
  rw [e0] at hv ⊢
  have hhi : hi * 2 ^ n < 18446744073709551616 := by omega
  have hld : lo / 2 ^ m < 2 ^ n := by
    rw [Nat.div_lt_iff_lt_mul hQ, Nat.mul_comm, hPQ]; exact h2
  have hdv : lo * 2 ^ n / 18446744073709551616 = lo / 2 ^ m := by
    rw [← hPQ]
    exact Nat.mul_div_mul_right _ _ hP
  have hdm := Nat.div_add_mod (lo * 2 ^ n) 18446744073709551616
  rw [hdv] at hdm
  have hmod := Nat.mod_lt (lo * 2 ^ n) (show 18446744073709551616 > 0 by omega)
  have hor : hi * 2 ^ n ||| lo / 2 ^ m = hi * 2 ^ n + lo / 2 ^ m := by
    rw [Nat.mul_comm, ← Nat.two_pow_add_eq_or_of_lt hld]
  have hs : hi * 2 ^ n + lo / 2 ^ m < 18446744073709551616 := by omega
  rw [cast, cast, castd, IntKind.wrap_u64, IntKind.wrap_u64]
  have w1 : ((hi * 2 ^ n : Nat) : Int) % 18446744073709551616 = ((hi * 2 ^ n : Nat) : Int) := by omega
  rw [w1, u64_or_nat _ _ hhi (by have : lo / 2 ^ m ≤ lo := Nat.div_le_self _ _; omega), hor]
  unfold ofN
  simp only
  generalize hi * 2 ^ n = A at *
  generalize lo * 2 ^ n = B at *
  generalize lo / 2 ^ m = C at *
  constructor
  · congr 1
    omega
  · omega
theorem two_boxes (w : World) (a b : Array Value) (ta tb : TypeId) : ((w.alloc (.cells a ta)).alloc (.cells b tb)).heap[w.heap.size]? = some (.cells a ta (0, 0)) ∧ ((w.alloc (.cells a ta)).alloc (.cells b tb)).heap[w.heap.size + 1]? = some (.cells b tb (0, 0)) ∧ Below w.heap.size w ((w.alloc (.cells a ta)).alloc (.cells b tb)) := by
  refine ⟨heap_old (heap_new _ _), ?_, bel_two w _ _⟩
  have := heap_new (w.alloc (.cells a ta)) (.cells b tb)
  rw [show (w.alloc (.cells a ta)).heap.size = w.heap.size + 1 by simp] at this
  exact this
set_option maxHeartbeats 1000000 in
set_option maxRecDepth 100000 in
theorem times_small (hi lo n : Nat) (w : World) (h1 : hi < 18446744073709551616) (h2 : lo < 18446744073709551616) (hn : n < 64) (hv : val (hi, lo) * 2 ^ n < 340282366920938463463374607431768211456) :
    Calls Try.prog 33 #[cEl (hi, lo), .int .i64 n] w fun e w' => e = .returned (cEl (ofN (val (hi, lo) * 2 ^ n))) ∧ Below w.heap.size w w' := by
  unfold cEl
  have d1 : decide ((64 : Int) ≤ n) = false := by simp; omega
  simp only
  have HX := hide (two_boxes w #[.int .u64 hi, .int .u64 lo] #[.int .u64 0, .int .u64 0] 34 34)
  obtain ⟨m, hm⟩ : ∃ m : Nat, m + n = 64 := ⟨64 - n, by omega⟩
  have HE := hide (shift_words h2 hm hv)
  have hw : IntKind.i64.wrap (64 - (n : Int)) = (m : Int) := by rw [IntWalk.i64_in _ (by omega)]; omega
  have hm64 : m ≤ 64 := by omega
  clear hv hm
  go_enter Try.func33, Try.ntmps33
  go_wp2_with fail
  generalize (w.alloc (.cells #[.int .u64 hi, .int .u64 lo] 34)).alloc (.cells #[.int .u64 0, .int .u64 0] 34) = w1 at *
  have c0 : w1.drew.cell? ⟨w.heap.size, 0, none⟩ = some (.int .u64 hi) := cell_heap HX.out.1 rfl
  have c1 : w1.drew.cell? ⟨w.heap.size, 1, none⟩ = some (.int .u64 lo) := cell_heap HX.out.1 rfl
  have f2 : w1.drew.frozen? ⟨w.heap.size + 1, 0, none⟩ = false := frozen_heap HX.out.2.1
  have f3 : ∀ u, (w1.drew.setCell ⟨w.heap.size + 1, 0, none⟩ u).frozen? ⟨w.heap.size + 1, 1, none⟩ = false := fun u => frozen_heap (heap_set HX.out.2.1)
  have c2 : w1.drew.cell? ⟨w.heap.size + 1, 0, none⟩ = some (.int .u64 0) := cell_heap HX.out.2.1 rfl
  have c3 : ∀ u, (w1.drew.setCell ⟨w.heap.size + 1, 0, none⟩ u).cell? ⟨w.heap.size + 1, 1, none⟩ = some (.int .u64 0) := fun u => cell_heap (heap_set HX.out.2.1) rfl
  go_still_tail 15, (by kernel_rfl)
  change wpList _ _ _ _ _ w1.drew
  have HY := hide (show w1.drew.heap[w.heap.size + 1]? = some (.cells #[.int .u64 0, .int .u64 0] 34 (0, 0)) ∧ Below w.heap.size w w1.drew from ⟨HX.out.2.1, HX.out.2.2.drew⟩)
  generalize w1.drew = w2 at *
  go_wp2_with fail
  rw [HE.out.1, HE.out.2]
  have y2 := HY.out.1
  have y3 := HY.out.2
  have q0 := cell_heap (j := 0) (heap_set (j := 1) (u := .int .u64 ((ofN (val (hi, lo) * 2 ^ n)).2 : Int)) (heap_set (j := 0) (u := .int .u64 ((ofN (val (hi, lo) * 2 ^ n)).1 : Int)) y2)) rfl
  have q1 := cell_heap (j := 1) (heap_set (j := 1) (u := .int .u64 ((ofN (val (hi, lo) * 2 ^ n)).2 : Int)) (heap_set (j := 0) (u := .int .u64 ((ofN (val (hi, lo) * 2 ^ n)).1 : Int)) y2)) rfl
  have hB := (y3.setCell (p := ⟨w.heap.size + 1, 0, none⟩) (by simp) (.int .u64 ((ofN (val (hi, lo) * 2 ^ n)).1 : Int))).setCell (p := ⟨w.heap.size + 1, 1, none⟩) (by simp) (.int .u64 ((ofN (val (hi, lo) * 2 ^ n)).2 : Int))
  generalize ((w2.setCell ⟨w.heap.size + 1, 0, none⟩ (.int .u64 ((ofN (val (hi, lo) * 2 ^ n)).1 : Int))).setCell ⟨w.heap.size + 1, 1, none⟩ (.int .u64 ((ofN (val (hi, lo) * 2 ^ n)).2 : Int))) = w9 at *
  exact bodyPost_ret (v := .agg #[.int .u64 ((ofN (val (hi, lo) * 2 ^ n)).1 : Int), .int .u64 ((ofN (val (hi, lo) * 2 ^ n)).2 : Int)]) (by simp [results, Try.results33, go_sem, q0, q1]) rfl ⟨rfl, hB⟩
set_option maxHeartbeats 1000000 in
set_option maxRecDepth 100000 in
theorem times_big (lo n : Nat) (w : World) (h2 : lo < 18446744073709551616) (hn : n < 64) (hv : val (lo, 0) * 2 ^ n < 340282366920938463463374607431768211456) :
    Calls Try.prog 33 #[cEl (0, lo), .int .i64 ((n : Int) + 64)] w fun e w' => e = .returned (cEl (ofN (val (lo, 0) * 2 ^ n))) ∧ Below w.heap.size w w' := by
  unfold cEl
  have d1 : decide ((64 : Int) ≤ (n : Int) + 64) = true := by simp; omega
  show Calls Try.prog 33 #[.agg #[.int .u64 0, .int .u64 lo], .int .i64 ((n : Int) + 64)] w _
  have HX := hide (two_boxes w #[.int .u64 lo, .int .u64 0] #[.int .u64 0, .int .u64 0] 34 34)
  obtain ⟨m, hm⟩ : ∃ m : Nat, m + n = 64 := ⟨64 - n, by omega⟩
  have HE : Hid (bits .or .u64 (IntKind.u64.wrap ((lo : Int) * 2 ^ n)) 0 = ((ofN (val (lo, 0) * 2 ^ n)).1 : Int) ∧ ((ofN (val (lo, 0) * 2 ^ n)).2 : Int) = 0) := by
    obtain ⟨a, b⟩ := shift_words (hi := lo) (lo := 0) (by omega) hm hv
    rw [show (((0 : Nat) : Int) / 2 ^ m) = 0 by simp] at a
    rw [show (((0 : Nat) : Int) * 2 ^ n) = 0 by simp, show IntKind.u64.wrap 0 = 0 from rfl] at b
    exact ⟨a, b.symm⟩
  have hw : IntKind.i64.wrap (64 - (n : Int)) = (m : Int) := by rw [IntWalk.i64_in _ (by omega)]; omega
  have hm64 : m ≤ 64 := by omega
  clear hv hm
  go_enter Try.func33, Try.ntmps33
  go_wp2_with fail
  generalize (w.alloc (.cells #[.int .u64 lo, .int .u64 0] 34)).alloc (.cells #[.int .u64 0, .int .u64 0] 34) = w1 at *
  have c0 : w1.drew.cell? ⟨w.heap.size, 0, none⟩ = some (.int .u64 lo) := cell_heap HX.out.1 rfl
  have c1 : w1.drew.cell? ⟨w.heap.size, 1, none⟩ = some (.int .u64 0) := cell_heap HX.out.1 rfl
  have f2 : w1.drew.frozen? ⟨w.heap.size + 1, 0, none⟩ = false := frozen_heap HX.out.2.1
  have f3 : ∀ u, (w1.drew.setCell ⟨w.heap.size + 1, 0, none⟩ u).frozen? ⟨w.heap.size + 1, 1, none⟩ = false := fun u => frozen_heap (heap_set HX.out.2.1)
  have c2 : w1.drew.cell? ⟨w.heap.size + 1, 0, none⟩ = some (.int .u64 0) := cell_heap HX.out.2.1 rfl
  have c3 : ∀ u, (w1.drew.setCell ⟨w.heap.size + 1, 0, none⟩ u).cell? ⟨w.heap.size + 1, 1, none⟩ = some (.int .u64 0) := fun u => cell_heap (heap_set HX.out.2.1) rfl
  go_still_tail 15, (by kernel_rfl)
  change wpList _ _ _ _ _ w1.drew
  have HY := hide (show w1.drew.heap[w.heap.size + 1]? = some (.cells #[.int .u64 0, .int .u64 0] 34 (0, 0)) ∧ Below w.heap.size w w1.drew from ⟨HX.out.2.1, HX.out.2.2.drew⟩)
  generalize w1.drew = w2 at *
  go_wp2_with fail
  rw [HE.out.1, HE.out.2]
  have y2 := HY.out.1
  have y3 := HY.out.2
  have q0 := cell_heap (j := 0) (heap_set (j := 1) (u := .int .u64 0) (heap_set (j := 0) (u := .int .u64 ((ofN (val (lo, 0) * 2 ^ n)).1 : Int)) y2)) rfl
  have q1 := cell_heap (j := 1) (heap_set (j := 1) (u := .int .u64 0) (heap_set (j := 0) (u := .int .u64 ((ofN (val (lo, 0) * 2 ^ n)).1 : Int)) y2)) rfl
  have hB := (y3.setCell (p := ⟨w.heap.size + 1, 0, none⟩) (by simp) (.int .u64 ((ofN (val (lo, 0) * 2 ^ n)).1 : Int))).setCell (p := ⟨w.heap.size + 1, 1, none⟩) (by simp) (.int .u64 0)
  generalize ((w2.setCell ⟨w.heap.size + 1, 0, none⟩ (.int .u64 ((ofN (val (lo, 0) * 2 ^ n)).1 : Int))).setCell ⟨w.heap.size + 1, 1, none⟩ (.int .u64 0)) = w9 at *
  exact bodyPost_ret (v := .agg #[.int .u64 ((ofN (val (lo, 0) * 2 ^ n)).1 : Int), .int .u64 0]) (by simp [results, Try.results33, go_sem, q0, q1]) rfl ⟨rfl, hB⟩
end Go.Proofs.Ytgfjdkkfgclhjaa.Bd
