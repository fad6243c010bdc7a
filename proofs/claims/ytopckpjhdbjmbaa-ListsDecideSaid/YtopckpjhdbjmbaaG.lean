import Derived.Test.YtopckpjhdbjmbaaF
import Derived.Test.YtopckpjhdbjmbaaD
namespace Go.Proofs.Ytopckpjhdbjmbaa.Ld
open Go.RowKit

def allB (p : Nat → Bool) : Nat → Bool
  | 0 => true
  | k + 1 => allB p k && p k
theorem allB_front (p : Nat → Bool) : ∀ k i, allB (fun j => p (i + j)) (k + 1) = (p i && allB (fun j => p (i + 1 + j)) k) := by
  intro k
  induction k with
  | zero => intro i; simp [allB]
  | succ k ih =>
    intro i
    rw [allB, ih i, allB, show i + (k + 1) = i + 1 + k by omega, Bool.and_assoc]
theorem firstI_all (p : Nat → Bool) : ∀ k i, decide (0 ≤ firstI p i k) = !allB (fun j => !p (i + j)) k := by
  intro k
  induction k with
  | zero => intro i; simp [firstI, allB]
  | succ k ih =>
    intro i
    rw [allB_front (fun j => !p j) k i, firstI]
    cases h : p i
    · simpa using ih (i + 1)
    · simp
theorem memB_all (z : Nat → Int) (n : Nat) (M : Nat → Mem) (i : Nat) : memB z n M i = allB (fun j => hasB z n ((M i).z j)) (M i).n := by
  unfold memB
  rw [firstI_all]
  simp [notI]

abbrev OM (nm : ByteArray) (A : Option Addr) (n c : Nat) : Obj := Obj.cells #[Value.string nm, Value.slice A n c] 32
theorem bel_one (w : World) (o : Obj) : Below w.heap.size w (w.alloc o) := (Below.refl _ _).alloc (Nat.le_refl _) _

set_option maxHeartbeats 1000000 in
theorem rmember_any (nm : ByteArray) (A : Option Addr) (n c : Nat) (z : Nat → Int) (A2 : Option Addr) (n2 c2 : Nat) (M : Nat → Mem) (w : World) (hn : n ≤ maxLen) (hz : Us w A n z) (hn2 : n2 ≤ maxLen) (hM : Mems w A2 n2 M) :
    Calls Try.prog 8 #[.agg #[.string nm, .slice A2 n2 c2], .slice A n c] w fun e w' => e = .returned (.int .i64 (firstI (memB z n M) 0 n2)) ∧ Below w.heap.size w w' := by
  have HH := hide (fun v => has_any A n c z v (w.alloc (OM nm A2 n2 c2)) hn (hz.below (bel_one _ _)))
  have HE := hide (hM.below (bel_one w (OM nm A2 n2 c2)))
  unfold maxLen at hn hn2
  clear hz hM
  go_enter Try.func8, Try.ntmps8
  go_wp2
  go_loop [5] (fun j => ∃ k : Nat, k ≤ n2 ∧ j = .int .i64 k ∧ firstI (memB z n M) 0 n2 = firstI (memB z n M) k (n2 - k)) (fun j => n2 - (intOf j).toNat)
  case atStart => exact ⟨0, Nat.zero_le _, rfl, rfl⟩
  case round =>
    obtain ⟨k, hk, rfl, hf⟩ := hrel
    have HF := hide hf
    clear hf
    by_cases hlt : k < n2
    · obtain ⟨bE, off, rfl, h0, h1, h2, h3⟩ := HE.out k hlt
      have HS := hide (firstI_succ (memB z n M) k n2 hlt)
      have HMA := hide (memB_all z n M k)
      have HU := hide h2
      unfold maxLen at h3
      clear h2
      go_wp2
      go_loop [6, 7] (fun a j => ∃ q : Nat, q ≤ (M k).n ∧ j = .int .i64 q ∧ a = .bool (allB (fun j => hasB z n ((M k).z j)) q)) (fun _ j => (M k).n - (intOf j).toNat)
      case atStart => exact ⟨0, Nat.zero_le _, rfl, rfl⟩
      case round =>
        obtain ⟨q, hq, rfl, rfl⟩ := hrel
        by_cases hlq : q < (M k).n
        · obtain ⟨bU, offU, hA, g0⟩ := HU.out q hlq
          have HA := hide hA
          clear hA
          rw [HA.out] at h1
          have hh := HH.out ((M k).z q)
          cases hall : allB (fun j => hasB z n ((M k).z j)) q
          · have HL := hide hall
            clear hall hh
            go_wp2_with fail
            go_round
            case rel => exact ⟨q + 1, by omega, by go_num, by rw [allB, HL.out]; rfl⟩
            case measure => simp [intOf]; omega
          · have HL := hide hall
            have HHq := hide hh
            clear hall hh
            go_wp2_with fail
            refine HHq.out.mono ?_; rintro e w1 ⟨rfl, rfl⟩
            go_wp2_with fail
            go_round
            case rel => exact ⟨q + 1, by omega, by go_num, by rw [allB, HL.out]; simp⟩
            case measure => simp [intOf]; omega
        · have hqe : q = (M k).n := by omega
          have HQ := hide hqe
          clear hqe
          cases hall : allB (fun j => hasB z n ((M k).z j)) q
          · have HL := hide hall
            clear hall
            go_wp2_with fail
            go_round
            case rel => exact ⟨k + 1, by omega, by go_num, by rw [HF.out, HS.out, HMA.out, ← HQ.out, HL.out]; rfl⟩
            case measure => simp [intOf]; omega
          · have HL := hide hall
            clear hall
            go_wp2_with fail
            go_ret
            exact ⟨ret_int (by rw [HF.out, HS.out, HMA.out, ← HQ.out, HL.out]; rfl), bel_one _ _⟩
    · go_wp2_with fail
      go_ret
      exact ⟨ret_int (by rw [HF.out, show n2 - k = 0 by omega]; rfl), bel_one _ _⟩
end Go.Proofs.Ytopckpjhdbjmbaa.Ld
