import Derived.Test.YtihmmmodimionaaL
namespace Go.Proofs.Ytihmmmodimionaa.Lx
open Go.RowKit

/-- the kind of a sign; 0: none -/
def sgn (x : UInt8) : Int := if 0 ≤ Lib.indexByte signs x then 2 + Lib.indexByte signs x else 0
theorem sgn_def (x : UInt8) : sgn x = if x = 123 then 2 else if x = 125 then 3 else if x = 59 then 4 else if x = 91 then 5 else if x = 93 then 6 else 0 := by
  unfold sgn signs
  by_cases h1 : x = 123
  · subst h1; decide
  by_cases h2 : x = 125
  · subst h2; decide
  by_cases h3 : x = 59
  · subst h3; decide
  by_cases h4 : x = 91
  · subst h4; decide
  by_cases h5 : x = 93
  · subst h5; decide
  have n1 : ((123 : UInt8) == x) = false := beq_eq_false_iff_ne.2 (fun h => h1 h.symm)
  have n2 : ((125 : UInt8) == x) = false := beq_eq_false_iff_ne.2 (fun h => h2 h.symm)
  have n3 : ((59 : UInt8) == x) = false := beq_eq_false_iff_ne.2 (fun h => h3 h.symm)
  have n4 : ((91 : UInt8) == x) = false := beq_eq_false_iff_ne.2 (fun h => h4 h.symm)
  have n5 : ((93 : UInt8) == x) = false := beq_eq_false_iff_ne.2 (fun h => h5 h.symm)
  simp [Lib.indexByte, n1, n2, n3, n4, n5, h1, h2, h3, h4, h5]
theorem sign_any (x : UInt8) (w : World) :
    Calls Try.prog 34 #[.int .u8 x.toNat] w fun e w' => e = .returned (.int .u8 (sgn x)) ∧ w = w' := by
  have hd := sgn_def x
  have e1 : x = 123 ↔ (x.toNat : Int) = 123 := u8_int x 123 (by omega)
  have e2 : x = 125 ↔ (x.toNat : Int) = 125 := u8_int x 125 (by omega)
  have e3 : x = 59 ↔ (x.toNat : Int) = 59 := u8_int x 59 (by omega)
  have e4 : x = 91 ↔ (x.toNat : Int) = 91 := u8_int x 91 (by omega)
  have e5 : x = 93 ↔ (x.toNat : Int) = 93 := u8_int x 93 (by omega)
  simp only [e1, e2, e3, e4, e5] at hd
  clear e1 e2 e3 e4 e5
  by_cases h1 : (x.toNat : Int) = 123
  · rw [if_pos h1] at hd
    have h1' := beq_it h1
    have HD := hide hd
    clear hd h1
    go_enter Try.func34, Try.ntmps34
    go_wp2_with fail
    go_ret
    exact ⟨ret_int HD.out.symm, rfl⟩
  rw [if_neg h1] at hd
  by_cases h2 : (x.toNat : Int) = 125
  · rw [if_pos h2] at hd
    have h1' := beq_if h1
    have h2' := beq_it h2
    have HD := hide hd
    clear hd h1 h2
    go_enter Try.func34, Try.ntmps34
    go_wp2_with fail
    go_ret
    exact ⟨ret_int HD.out.symm, rfl⟩
  rw [if_neg h2] at hd
  by_cases h3 : (x.toNat : Int) = 59
  · rw [if_pos h3] at hd
    have h1' := beq_if h1
    have h2' := beq_if h2
    have h3' := beq_it h3
    have HD := hide hd
    clear hd h1 h2 h3
    go_enter Try.func34, Try.ntmps34
    go_wp2_with fail
    go_ret
    exact ⟨ret_int HD.out.symm, rfl⟩
  rw [if_neg h3] at hd
  by_cases h4 : (x.toNat : Int) = 91
  · rw [if_pos h4] at hd
    have h1' := beq_if h1
    have h2' := beq_if h2
    have h3' := beq_if h3
    have h4' := beq_it h4
    have HD := hide hd
    clear hd h1 h2 h3 h4
    go_enter Try.func34, Try.ntmps34
    go_wp2_with fail
    go_ret
    exact ⟨ret_int HD.out.symm, rfl⟩
  rw [if_neg h4] at hd
  by_cases h5 : (x.toNat : Int) = 93
  · rw [if_pos h5] at hd
    have h1' := beq_if h1
    have h2' := beq_if h2
    have h3' := beq_if h3
    have h4' := beq_if h4
    have h5' := beq_it h5
    have HD := hide hd
    clear hd h1 h2 h3 h4 h5
    go_enter Try.func34, Try.ntmps34
    go_wp2_with fail
    go_ret
    exact ⟨ret_int HD.out.symm, rfl⟩
  rw [if_neg h5] at hd
  have h1' := beq_if h1
  have h2' := beq_if h2
  have h3' := beq_if h3
  have h4' := beq_if h4
  have h5' := beq_if h5
  have HD := hide hd
  clear hd h1 h2 h3 h4 h5
  go_enter Try.func34, Try.ntmps34
  go_wp2_with fail
  go_ret
  exact ⟨ret_int HD.out.symm, rfl⟩

theorem beg_at (b : ByteArray) (k : Nat) (h : k < b.size) : Lib.hasPrefix ((T b).drop k) [47, 42] = (((b[k].toNat : Int) == 47) && (if h2 : k + 1 < b.size then ((b[k + 1].toNat : Int) == 42) else false)) := by
  rw [T_drop b k h]
  unfold Lib.hasPrefix
  have e1 : ((47 : UInt8) == b[k]) = ((b[k].toNat : Int) == 47) := by
    rw [Bool.eq_iff_iff, beq_iff_eq, beq_iff_eq]; exact eq_comm.trans (u8_int b[k] 47 (by omega))
  by_cases h2 : k + 1 < b.size
  · rw [T_drop b (k + 1) h2, dif_pos h2]
    have e2 : ((42 : UInt8) == b[k + 1]) = ((b[k + 1].toNat : Int) == 42) := by
      rw [Bool.eq_iff_iff, beq_iff_eq, beq_iff_eq]; exact eq_comm.trans (u8_int b[k + 1] 42 (by omega))
    simp [List.isPrefixOf, e1, e2]
  · rw [dif_neg h2, List.drop_eq_nil_of_le (by rw [T_len]; omega)]
    simp [List.isPrefixOf]
theorem begins_any (b : ByteArray) (k : Nat) (w : World) (h : k < b.size) (hs : b.size ≤ 65536) :
    Calls Try.prog 31 #[.string b, .int .i64 k] w fun e w' => e = .returned (.bool (Lib.hasPrefix ((T b).drop k) [47, 42])) ∧ w = w' := by
  have hd := beg_at b k h
  by_cases h2 : k + 1 < b.size
  · rw [dif_pos h2] at hd
    cases h1 : ((b[k].toNat : Int) == 47)
    · rw [h1] at hd
      have HD := hide hd
      clear hd
      go_enter Try.func31, Try.ntmps31
      go_wp2_with fail
      go_ret
      exact ⟨ret_bool (by rw [HD.out]; rfl), rfl⟩
    · rw [h1] at hd
      have HD := hide hd
      clear hd
      go_enter Try.func31, Try.ntmps31
      go_wp2_with fail
      go_ret
      exact ⟨ret_bool (by rw [HD.out]; rfl), rfl⟩
  · rw [dif_neg h2, Bool.and_false] at hd
    have HD := hide hd
    clear hd
    go_enter Try.func31, Try.ntmps31
    go_wp2_with fail
    go_ret
    exact ⟨ret_bool HD.out.symm, rfl⟩
end Go.Proofs.Ytihmmmodimionaa.Lx
