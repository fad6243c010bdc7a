import Derived.Test.YtihmmmodimionaaA
import Derived.Test.YtihmmmodimionaaShelf
namespace Go.Proofs.Ytihmmmodimionaa.Lx
open Go.RowKit

abbrev RdR (w : World) (R : Nat) (b : ByteArray) (l c : Int) : Prop := w.heap[R]? = some (.cells #[.string b, .int .i64 l, .int .i64 c] 69 (0, 0))

set_option maxHeartbeats 1000000 in
theorem take_any (R : Nat) (b : ByteArray) (n : Nat) (l c : Int) (w : World) (hn : n ≤ b.size) (hl : 1 ≤ l) (hl2 : l + n ≤ 1000000) (hc : 1 ≤ c) (hc2 : c + n ≤ 1000000) (hr : RdR w R b l c) :
    Calls Try.prog 53 #[.pointer (some ⟨R, 0, none⟩), .int .i64 n] w fun e w' => e = .returned (.string (b.extract 0 n)) ∧ Only R w w' ∧ RdR w' R (b.extract n b.size) (adv ((T b).take n) l c).1 (adv ((T b).take n) l c).2 := by
  have p0 := cell_heap (j := 0) hr rfl
  have f0 := frozen_heap (j := 0) hr
  have HR := hide hr
  clear hr
  go_enter Try.func53, Try.ntmps53
  go_wp2
  have he := T_head b n
  have hes : (b.extract 0 n).size = n := by rw [size_T, he, List.length_take, T_len]; omega
  generalize hg1 : b.extract 0 n = e at *
  generalize hg2 : b.extract n b.size = rest at *
  have HG1 := hide hg1
  have HG2 := hide hg2
  clear hg1 hg2
  have HE := hide he
  have HS := hide hes
  clear he hes
  go_loopw [23] (fun j wr => ∃ k : Nat, k ≤ n ∧ j = .int .i64 k ∧ Only R w wr ∧ RdR wr R rest (adv ((T e).take k) l c).1 (adv ((T e).take k) l c).2) (fun j _ => n - (intOf j).toNat)
  case atStart => exact ⟨0, Nat.zero_le _, rfl, only_set (only_refl _ _) _ _, heap_set HR.out⟩
  case round =>
    obtain ⟨k, hk, rfl, ho, hrd⟩ := hrel
    have hbd := adv_bd ((T e).take k) l c hl hc
    rw [List.length_take] at hbd
    generalize hadv : adv ((T e).take k) l c = a at *
    obtain ⟨a1, a2⟩ := a
    obtain ⟨b1, b2, b3, b4⟩ := hbd
    have HA := hide hadv
    clear hadv
    simp only at b1 b2 b3 b4 hrd
    have q1 := cell_heap (j := 1) hrd rfl
    have q2 := cell_heap (j := 2) hrd rfl
    have g1 := frozen_heap (j := 1) hrd
    have g2 := frozen_heap (j := 2) hrd
    have HO := hide ho
    have HRD := hide hrd
    clear ho hrd
    have b5 : a1 ≤ l + k := by omega
    have b6 : a2 ≤ c + k := by omega
    clear b2 b4
    by_cases hlt : k < n
    · have hke : k < e.size := by rw [HS.out]; exact hlt
      have hsn := hide (adv_snoc ((T e).take k) e[k] l c)
      have ht := hide (T_take e k hke)
      by_cases h3 : e[k] = 10
      · have h3' : ((e[k].toNat : Int) == 10) = true := beq_it (by have := (eq10 _).1 h3; omega)
        have HH := hide h3
        clear h3
        go_wp2
        go_roundw
        case rel =>
          refine ⟨k + 1, by omega, by go_num, only_set (only_set (only_set HO.out _ _) _ _) _ _, ?_⟩
          rw [ht.out, hsn.out, if_pos HH.out, HA.out]
          exact heap_set (heap_set (heap_set HRD.out))
        case measure => simp [intOf]; omega
      · have h3' : ((e[k].toNat : Int) == 10) = false := beq_if (by intro e'; exact h3 ((eq10 _).2 (by omega)))
        have HH := hide h3
        clear h3
        go_wp2
        go_roundw
        case rel =>
          refine ⟨k + 1, by omega, by go_num, only_set HO.out _ _, ?_⟩
          rw [ht.out, hsn.out, if_neg HH.out, HA.out]
          exact heap_set HRD.out
        case measure => simp [intOf]; omega
    · have HK : Hid (k = n) := by show _ = _; omega
      go_wp2
      go_ret
      refine ⟨by rw [HG1.out]; rfl, HO.out, ?_⟩
      rw [HG2.out]
      rw [← HE.out, ← List.take_of_length_le (i := k) (show (T e).length ≤ k by rw [T_len, HS.out]; omega), HA.out]
      exact HRD.out
end Go.Proofs.Ytihmmmodimionaa.Lx
