import Derived.Test.YtihmmmodimionaaDoorA
import Derived.Test.YtihmmmodimionaaDoorShelf
import Derived.Laws.RangeAny
import Derived.BigGuardPart
namespace Go.Proofs.YtihmmmodimionaaDoor.Lx
open Go.RowKit

def letterB (x : UInt8) : Bool := (decide ((97 : Int) ≤ (x.toNat : Int)) && decide ((x.toNat : Int) ≤ 122)) || (decide ((65 : Int) ≤ (x.toNat : Int)) && decide ((x.toNat : Int) ≤ 90))
def otherB (x : UInt8) : Bool := (decide ((48 : Int) ≤ (x.toNat : Int)) && decide ((x.toNat : Int) ≤ 57)) || ((x.toNat : Int) == 45) || ((x.toNat : Int) == 95) || ((x.toNat : Int) == 46) || ((x.toNat : Int) == 47)
def nmL : Bool → List UInt8 → Bool
  | _, [] => true
  | f, x :: xs => (letterB x || (!f && otherB x)) && nmL false xs
/-- is a text a name? -/
def nameB (s : List UInt8) : Bool := decide (1 ≤ s.length ∧ s.length ≤ 32) && nmL true s
theorem nmL_at (b : ByteArray) (k : Nat) (h : k < b.size) (f : Bool) : nmL f ((T b).drop k) = ((letterB b[k] || (!f && otherB b[k])) && nmL false ((T b).drop (k + 1))) := by
  rw [T_drop b k h, nmL]
theorem byte_cases (n : Nat) : n < 45 ∨ n = 45 ∨ n = 46 ∨ n = 47 ∨ (48 ≤ n ∧ n ≤ 57) ∨ (58 ≤ n ∧ n ≤ 64) ∨ (65 ≤ n ∧ n ≤ 90) ∨ (91 ≤ n ∧ n ≤ 94) ∨ n = 95 ∨ n = 96 ∨ (97 ≤ n ∧ n ≤ 122) ∨ 122 < n := by omega
theorem punct_bits (x : UInt8) : decide ((0 : Int) ≤ Lib.indexByte [45, 95, 46, 47] x) = (((x.toNat : Int) == 45) || ((x.toNat : Int) == 95) || ((x.toNat : Int) == 46) || ((x.toNat : Int) == 47)) := by
  rw [← Lib.contains_iff_indexByte, Bool.eq_iff_iff]
  simp only [List.contains_cons, List.contains_nil, Bool.or_false, Bool.or_eq_true, beq_iff_eq]
  rw [show (45 : UInt8) = UInt8.ofNat 45 from rfl, show (95 : UInt8) = UInt8.ofNat 95 from rfl, show (46 : UInt8) = UInt8.ofNat 46 from rfl, show (47 : UInt8) = UInt8.ofNat 47 from rfl, u8_eq x 45 (by omega), u8_eq x 95 (by omega), u8_eq x 46 (by omega), u8_eq x 47 (by omega)]
  omega

set_option maxRecDepth 100000 in
set_option maxHeartbeats 4000000 in
theorem ref_name (s : ByteArray) (w : World) (hs : s.size ≤ maxLen) :
    Calls Tryd.prog 20 #[.string s] w fun e w' => e = .returned (.bool (nameB (T s))) ∧ w = w' := by
  unfold maxLen at hs
  go_enter Tryd.func20, Tryd.ntmps20
  go_wp2_with fail
  go_loop [3] (fun j => ∃ k : Nat, k ≤ s.size ∧ j = .int .i64 k ∧ nmL true (T s) = nmL (decide (k = 0)) ((T s).drop k)) (fun j => s.size - (intOf j).toNat)
  case atStart => exact ⟨0, Nat.zero_le _, rfl, rfl⟩
  case round =>
    obtain ⟨k, hk, rfl, hf⟩ := hrel
    by_cases hlt : k < s.size
    · rw [nmL_at s k hlt] at hf
      have HF := hide hf
      clear hf
      have hbc := byte_cases s[k].toNat
      cases h0 : decide (k = 0)
      case' true => have h0' : (((k : Nat) : Int) == 0) = true := beq_it (by have : k = 0 := by simpa using h0
                                                                             omega)
      case' false => have h0' : (((k : Nat) : Int) == 0) = false := beq_if (by have : ¬ k = 0 := by simpa using h0
                                                                               omega)
      all_goals
        have HF2 := HF
        rw [h0] at HF2
        clear h0 HF
        rcases hbc with h | h | h | h | h | h | h | h | h | h | h | h
      all_goals
        first | have t1 : decide ((97 : Int) ≤ (s[k].toNat : Int)) = true := by (simp; omega) | have t1 : decide ((97 : Int) ≤ (s[k].toNat : Int)) = false := by (simp; omega)
        first | have t2 : decide ((s[k].toNat : Int) ≤ 122) = true := by (simp; omega) | have t2 : decide ((s[k].toNat : Int) ≤ 122) = false := by (simp; omega)
        first | have t3 : decide ((65 : Int) ≤ (s[k].toNat : Int)) = true := by (simp; omega) | have t3 : decide ((65 : Int) ≤ (s[k].toNat : Int)) = false := by (simp; omega)
        first | have t4 : decide ((s[k].toNat : Int) ≤ 90) = true := by (simp; omega) | have t4 : decide ((s[k].toNat : Int) ≤ 90) = false := by (simp; omega)
        first | have t5 : decide ((48 : Int) ≤ (s[k].toNat : Int)) = true := by (simp; omega) | have t5 : decide ((48 : Int) ≤ (s[k].toNat : Int)) = false := by (simp; omega)
        first | have t6 : decide ((s[k].toNat : Int) ≤ 57) = true := by (simp; omega) | have t6 : decide ((s[k].toNat : Int) ≤ 57) = false := by (simp; omega)
        first | have t7 : ((s[k].toNat : Int) == 45) = true := beq_it (by omega) | have t7 : ((s[k].toNat : Int) == 45) = false := beq_if (by omega)
        first | have t8 : ((s[k].toNat : Int) == 95) = true := beq_it (by omega) | have t8 : ((s[k].toNat : Int) == 95) = false := beq_if (by omega)
        first | have t9 : ((s[k].toNat : Int) == 46) = true := beq_it (by omega) | have t9 : ((s[k].toNat : Int) == 46) = false := beq_if (by omega)
        first | have t0 : ((s[k].toNat : Int) == 47) = true := beq_it (by omega) | have t0 : ((s[k].toNat : Int) == 47) = false := beq_if (by omega)
        have hl := HF2.out
        simp only [letterB, otherB, t1, t2, t3, t4, t5, t6, t7, t8, t9, t0, Bool.and_true, Bool.and_false, Bool.or_true, Bool.or_false, Bool.true_and, Bool.false_and, Bool.not_true, Bool.not_false] at hl
        have HR := hide hl
        clear hl HF2 h
        go_wp2_with fail
        first
          | (go_round
             case rel => exact ⟨k + 1, hlt, by go_num, by rw [HR.out]; simp⟩
             case measure => simp [intOf]; omega)
          | (go_ret
             exact ⟨ret_bool (by unfold nameB; rw [HR.out, Bool.and_false]), rfl⟩)
    · have he : nmL true (T s) = true := by rw [hf, List.drop_eq_nil_of_le (by rw [T_len]; omega)]; rfl
      have HE := hide he
      clear hf he
      have hv : nameB (T s) = (decide ((1 : Int) ≤ (s.size : Int)) && decide ((s.size : Int) ≤ 32)) := by
        unfold nameB
        rw [HE.out, Bool.and_true, T_len, Bool.eq_iff_iff]
        simp
        omega
      by_cases h1 : 1 ≤ s.size
      · have h1' : decide ((1 : Int) ≤ (s.size : Int)) = true := by simp; omega
        by_cases h2 : s.size ≤ 32
        · have h2' : decide ((s.size : Int) ≤ 32) = true := by simp; omega
          rw [h1', h2'] at hv
          have HV := hide hv
          clear hv
          go_wp2_with fail
          go_ret
          exact ⟨by rw [HV.out]; rfl, rfl⟩
        · have h2' : decide ((s.size : Int) ≤ 32) = false := by simp; omega
          rw [h1', h2'] at hv
          have HV := hide hv
          clear hv
          go_wp2_with fail
          go_ret
          exact ⟨by rw [HV.out]; rfl, rfl⟩
      · have h1' : decide ((1 : Int) ≤ (s.size : Int)) = false := by simp; omega
        rw [h1'] at hv
        have HV := hide hv
        clear hv
        go_wp2_with fail
        go_ret
        exact ⟨by rw [HV.out]; rfl, rfl⟩
end Go.Proofs.YtihmmmodimionaaDoor.Lx
