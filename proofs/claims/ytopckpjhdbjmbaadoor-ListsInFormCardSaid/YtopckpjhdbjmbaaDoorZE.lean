import Derived.Test.YtopckpjhdbjmbaaDoorZC
namespace Go.Proofs.YtopckpjhdbjmbaaDoor.Ld
open Go.RowKit

def Us (w : World) (A : Option Addr) (n : Nat) (z : Nat → Int) : Prop := ∀ i, i < n → ∃ b off, A = some ⟨b, off, none⟩ ∧ w.cell? ⟨b, off + i, none⟩ = some (.int .u32 (z i))
theorem Us.below {w w' : World} {A : Option Addr} {n : Nat} {z : Nat → Int} (h : Us w A n z) (hb : Below w.heap.size w w') : Us w' A n z := fun i hi => by
  obtain ⟨b, off, hA, h0⟩ := h i hi
  exact ⟨b, off, hA, cellB hb h0⟩

def eqI (z : Nat → Int) (v : Int) (i : Nat) : Bool := v == z i
def hasI (z : Nat → Int) (n : Nat) (v : Int) : Int := firstI (eqI z v) 0 n
def hasB (z : Nat → Int) (n : Nat) (v : Int) : Bool := decide (0 ≤ hasI z n v)
theorem firstI_succ (p : Nat → Bool) (k n : Nat) (h : k < n) : firstI p k (n - k) = if p k then (k : Int) else firstI p (k + 1) (n - (k + 1)) := by
  rw [show n - k = (n - (k + 1)) + 1 by omega, firstI]

set_option maxHeartbeats 400000 in
theorem index_any (A : Option Addr) (n c : Nat) (z : Nat → Int) (v : Int) (w : World) (hn : n ≤ maxLen) (hz : Us w A n z) :
    Calls Tryd.prog 51 #[.slice A n c, .int .u32 v] w fun e w' => e = .returned (.int .i64 (hasI z n v)) ∧ w = w' := by
  unfold maxLen at hn
  have HE := hide hz
  clear hz
  go_enter Tryd.func51, Tryd.ntmps51
  go_wp2
  go_loop [8] (fun j => ∃ k : Nat, k ≤ n ∧ j = .int .i64 k ∧ hasI z n v = firstI (eqI z v) k (n - k)) (fun j => n - (intOf j).toNat)
  case atStart => exact ⟨0, Nat.zero_le _, rfl, rfl⟩
  case round =>
    obtain ⟨k, hk, rfl, hf⟩ := hrel
    have HF := hide hf
    clear hf
    by_cases hlt : k < n
    · obtain ⟨bE, off, rfl, h0⟩ := HE.out k hlt
      have HS := hide (firstI_succ (eqI z v) k n hlt)
      cases hfit : eqI z v k
      · have hq : (v == z k) = false := hfit
        have HQ := hide hfit
        clear hfit
        go_wp2_with fail
        go_round
        case rel => exact ⟨k + 1, by omega, by go_num, by rw [HF.out, HS.out, HQ.out]; rfl⟩
        case measure => simp [intOf]; omega
      · have hq : (v == z k) = true := hfit
        have HQ := hide hfit
        clear hfit
        go_wp2_with fail
        go_ret
        exact ⟨ret_int (by rw [HF.out, HS.out, HQ.out]; rfl), rfl⟩
    · go_wp2_with fail
      go_ret
      exact ⟨ret_int (by rw [HF.out, show n - k = 0 by omega]; rfl), rfl⟩

set_option maxHeartbeats 400000 in
theorem contains_any (A : Option Addr) (n c : Nat) (z : Nat → Int) (v : Int) (w : World) (hn : n ≤ maxLen) (hz : Us w A n z) :
    Calls Tryd.prog 38 #[.slice A n c, .int .u32 v] w fun e w' => e = .returned (.bool (hasB z n v)) ∧ w = w' := by
  have HC := hide (index_any A n c z v w hn hz)
  clear hz
  go_enter Tryd.func38, Tryd.ntmps38
  go_wp2_with fail
  refine HC.out.mono ?_; rintro e w1 ⟨rfl, rfl⟩
  go_wp2_with fail
  go_ret
  exact ⟨rfl, rfl⟩

set_option maxHeartbeats 400000 in
theorem has_any (A : Option Addr) (n c : Nat) (z : Nat → Int) (v : Int) (w : World) (hn : n ≤ maxLen) (hz : Us w A n z) :
    Calls Tryd.prog 28 #[.slice A n c, .int .u32 v] w fun e w' => e = .returned (.bool (hasB z n v)) ∧ w = w' := by
  unfold maxLen at hn
  have HE := hide hz
  clear hz
  go_enter Tryd.func28, Tryd.ntmps28
  go_wp2
  go_loop [5] (fun j => ∃ k : Nat, k ≤ n ∧ j = .int .i64 k ∧ hasI z n v = firstI (eqI z v) k (n - k)) (fun j => n - (intOf j).toNat)
  case atStart => exact ⟨0, Nat.zero_le _, rfl, rfl⟩
  case round =>
    obtain ⟨k, hk, rfl, hf⟩ := hrel
    have HF := hide hf
    clear hf
    by_cases hlt : k < n
    · obtain ⟨bE, off, rfl, h0⟩ := HE.out k hlt
      have HS := hide (firstI_succ (eqI z v) k n hlt)
      cases hfit : eqI z v k
      · have hq : (z k == v) = false := by have := hfit; simp only [eqI] at this; rw [← this]; exact Bool.beq_comm
        have HQ := hide hfit
        clear hfit
        go_wp2_with fail
        go_round
        case rel => exact ⟨k + 1, by omega, by go_num, by rw [HF.out, HS.out, HQ.out]; rfl⟩
        case measure => simp [intOf]; omega
      · have hq : (z k == v) = true := by have := hfit; simp only [eqI] at this; rw [← this]; exact Bool.beq_comm
        have HQ := hide hfit
        clear hfit
        go_wp2_with fail
        go_ret
        exact ⟨ret_bool (by unfold hasB; rw [HF.out, HS.out, HQ.out]; simp), rfl⟩
    · go_wp2_with fail
      go_ret
      exact ⟨ret_bool (by unfold hasB; rw [HF.out, show n - k = 0 by omega]; rfl), rfl⟩
end Go.Proofs.YtopckpjhdbjmbaaDoor.Ld
