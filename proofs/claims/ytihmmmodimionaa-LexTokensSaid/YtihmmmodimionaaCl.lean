import Derived.Test.YtihmmmodimionaaM
namespace Go.Proofs.Ytihmmmodimionaa.Lx
open Go.RowKit

def cl34 : List UInt8 → Int → Int
  | [], _ => -1
  | x :: xs, k => if x = 10 then -1 else if x = 34 then k + 1 else cl34 xs (k + 1)
def clC : List UInt8 → Int → Int
  | [], _ => -1
  | [_], _ => -1
  | x :: y :: r, k => if x = 42 ∧ y = 47 then k + 2 else clC (y :: r) (k + 1)
theorem cl34_eq : ∀ (s : List UInt8) (k : Int), cl34 s k = if Lib.indexAny s [34, 10] < 0 ∨ s.getD (Lib.indexAny s [34, 10]).toNat 0 = 10 then -1 else k + Lib.indexAny s [34, 10] + 1 := by
  intro s
  induction s with
  | nil => intro k; rfl
  | cons x xs ih =>
    intro k
    by_cases h1 : x = 10
    · subst h1; simp [cl34, Lib.indexAny]
    by_cases h2 : x = 34
    · subst h2; simp [cl34, Lib.indexAny]
    have hc : ([34, 10] : List UInt8).contains x = false := by simp [h1, h2]
    have hge := Lib.indexAny_ge [34, 10] xs
    rw [cl34, if_neg h1, if_neg h2, ih (k + 1), Lib.indexAny, hc]
    simp only [Bool.false_eq_true, if_false]
    by_cases h3 : Lib.indexAny xs [34, 10] = -1
    · rw [h3]; simp
    · have h4 : ¬ (Lib.indexAny xs [34, 10] == -1) = true := by simpa using h3
      rw [if_neg h4]
      have h5 : (Lib.indexAny xs [34, 10] + 1).toNat = (Lib.indexAny xs [34, 10]).toNat + 1 := by omega
      rw [h5, List.getD_cons_succ]
      have h6 : (Lib.indexAny xs [34, 10] < 0) ↔ (Lib.indexAny xs [34, 10] + 1 < 0) := by omega
      simp only [h6]
      split
      · rfl
      · omega
theorem clC_eq : ∀ (s : List UInt8) (k : Int), clC s k = if Lib.index s [42, 47] < 0 then -1 else k + Lib.index s [42, 47] + 2 := by
  intro s
  induction s with
  | nil => intro k; rfl
  | cons x xs ih =>
    intro k
    cases xs with
    | nil => simp [clC, Lib.index, List.isPrefixOf]
    | cons y r =>
      have hge := Lib.index_ge (y :: r) [42, 47]
      rw [Lib.index]
      by_cases h : x = 42 ∧ y = 47
      · obtain ⟨rfl, rfl⟩ := h
        rw [clC]; simp
      · rw [clC, if_neg h, ih (k + 1)]
        have hp : ([42, 47] : List UInt8).isPrefixOf (x :: y :: r) = false := by
          have e1 : (42 == x) = true ↔ x = 42 := by rw [beq_iff_eq]; exact eq_comm
          have e2 : (47 == y) = true ↔ y = 47 := by rw [beq_iff_eq]; exact eq_comm
          rw [Bool.eq_false_iff]
          intro hh
          simp only [List.isPrefixOf, Bool.and_true, Bool.and_eq_true] at hh
          exact h ⟨e1.1 hh.1, e2.1 hh.2⟩
        rw [hp]
        simp only [Bool.false_eq_true, if_false]
        by_cases h3 : Lib.index (y :: r) [42, 47] = -1
        · rw [h3]; simp
        · have h4 : ¬ (Lib.index (y :: r) [42, 47] == -1) = true := by simpa using h3
          rw [if_neg h4]
          have h6 : (Lib.index (y :: r) [42, 47] < 0) ↔ (Lib.index (y :: r) [42, 47] + 1 < 0) := by omega
          simp only [h6]
          split
          · rfl
          · omega

/-- where a quoted word that begins at byte i ends -/
theorem closed_q (b : ByteArray) (i : Nat) (w : World) (hi : i < b.size) (hs : b.size ≤ 65536) (hx : (b[i].toNat : Int) = 34) :
    Calls Try.prog 32 #[.string b, .int .i64 i] w fun e w' => e = .returned (.int .i64 (cl34 ((T b).drop (i + 1)) (i + 1))) ∧ w = w' := by
  have hx1 := beq_it hx
  clear hx
  go_enter Try.func32, Try.ntmps32
  go_wp2_with fail
  go_loop [5] (fun j => ∃ k : Nat, k ≤ b.size ∧ j = .int .i64 k ∧ cl34 ((T b).drop (i + 1)) (i + 1) = cl34 ((T b).drop k) k) (fun j => b.size - (intOf j).toNat)
  case atStart => exact ⟨i + 1, by omega, by go_num, rfl⟩
  case round =>
    obtain ⟨k, hk, rfl, hf⟩ := hrel
    by_cases hlt : k < b.size
    · rw [T_drop b k hlt, cl34] at hf
      by_cases h1 : b[k] = 10
      · rw [if_pos h1] at hf
        have h1' : ((b[k].toNat : Int) == 10) = true := beq_it ((u8_int b[k] 10 (by omega)).1 h1)
        have HF := hide hf
        clear hf h1
        go_wp2_with fail
        go_ret
        exact ⟨ret_int HF.out.symm, rfl⟩
      · rw [if_neg h1] at hf
        have h1' : ((b[k].toNat : Int) == 10) = false := beq_if (fun e => h1 ((u8_int b[k] 10 (by omega)).2 e))
        by_cases h2 : b[k] = 34
        · rw [if_pos h2] at hf
          have h2' : ((b[k].toNat : Int) == 34) = true := beq_it ((u8_int b[k] 34 (by omega)).1 h2)
          have HF := hide hf
          clear hf h1 h2
          go_wp2_with fail
          go_ret
          exact ⟨ret_int (by rw [HF.out]), rfl⟩
        · rw [if_neg h2] at hf
          have h2' : ((b[k].toNat : Int) == 34) = false := beq_if (fun e => h2 ((u8_int b[k] 34 (by omega)).2 e))
          have HF := hide hf
          clear hf h1 h2
          go_wp2_with fail
          go_round
          case rel => exact ⟨k + 1, by omega, by go_num, by rw [HF.out]; rfl⟩
          case measure => simp [intOf]; omega
    · rw [List.drop_eq_nil_of_le (i := k) (by rw [T_len]; omega), cl34] at hf
      have HF := hide hf
      clear hf
      go_wp2_with fail
      go_ret
      exact ⟨ret_int HF.out.symm, rfl⟩
theorem clC_at (b : ByteArray) (k : Nat) (h : k + 1 < b.size) (j : Int) : clC ((T b).drop k) j = if b[k] = 42 ∧ b[k + 1] = 47 then j + 2 else clC ((T b).drop (k + 1)) (j + 1) := by
  rw [T_drop b k (by omega), T_drop b (k + 1) h, clC]
theorem clC_end (b : ByteArray) (k : Nat) (h : ¬ k + 1 < b.size) (j : Int) : clC ((T b).drop k) j = -1 := by
  by_cases h2 : k < b.size
  · rw [T_drop b k h2, List.drop_eq_nil_of_le (by rw [T_len]; omega), clC]
  · rw [List.drop_eq_nil_of_le (by rw [T_len]; omega), clC]
theorem closed_c (b : ByteArray) (i : Nat) (w : World) (hi : i + 1 < b.size) (hs : b.size ≤ 65536) (hx : ¬ (b[i].toNat : Int) = 34) :
    Calls Try.prog 32 #[.string b, .int .i64 i] w fun e w' => e = .returned (.int .i64 (clC ((T b).drop (i + 2)) (i + 2))) ∧ w = w' := by
  have hx1 := beq_if hx
  clear hx
  go_enter Try.func32, Try.ntmps32
  go_wp2_with fail
  go_loop [6] (fun j => ∃ k : Nat, k ≤ b.size + 1 ∧ j = .int .i64 k ∧ clC ((T b).drop (i + 2)) (i + 2) = clC ((T b).drop k) k) (fun j => b.size + 1 - (intOf j).toNat)
  case atStart => exact ⟨i + 2, by omega, by go_num, rfl⟩
  case round =>
    obtain ⟨k, hk, rfl, hf⟩ := hrel
    by_cases hlt : k + 1 < b.size
    · rw [clC_at b k hlt] at hf
      by_cases h1 : b[k] = 42
      · have h1' : ((b[k].toNat : Int) == 42) = true := beq_it ((u8_int b[k] 42 (by omega)).1 h1)
        by_cases h2 : b[k + 1] = 47
        · have h2' : ((b[k + 1].toNat : Int) == 47) = true := beq_it ((u8_int b[k + 1] 47 (by omega)).1 h2)
          rw [if_pos ⟨h1, h2⟩] at hf
          have HF := hide hf
          clear hf h1 h2
          go_wp2_with fail
          go_ret
          exact ⟨ret_int HF.out.symm, rfl⟩
        · have h2' : ((b[k + 1].toNat : Int) == 47) = false := beq_if (fun e => h2 ((u8_int b[k + 1] 47 (by omega)).2 e))
          rw [if_neg (fun h => h2 h.2)] at hf
          have HF := hide hf
          clear hf h1 h2
          go_wp2_with fail
          go_round
          case rel => exact ⟨k + 1, by omega, by go_num, by rw [HF.out]; rfl⟩
          case measure => simp [intOf]; omega
      · have h1' : ((b[k].toNat : Int) == 42) = false := beq_if (fun e => h1 ((u8_int b[k] 42 (by omega)).2 e))
        rw [if_neg (fun h => h1 h.1)] at hf
        have HF := hide hf
        clear hf h1
        go_wp2_with fail
        go_round
        case rel => exact ⟨k + 1, by omega, by go_num, by rw [HF.out]; rfl⟩
        case measure => simp [intOf]; omega
    · rw [clC_end b k hlt] at hf
      have HF := hide hf
      clear hf
      go_wp2_with fail
      go_ret
      exact ⟨ret_int HF.out.symm, rfl⟩
theorem endB_bits (x : UInt8) : decide ((0 : Int) ≤ Lib.indexByte endB x) = (((x.toNat : Int) == 32) || ((x.toNat : Int) == 10) || ((x.toNat : Int) == 34) || ((x.toNat : Int) == 35) || !(sgn x == 0)) := by
  have e32 : ((x.toNat : Int) == 32) = (x == 32) := by rw [Bool.eq_iff_iff, beq_iff_eq, beq_iff_eq]; exact (u8_int x 32 (by omega)).symm
  have e10 : ((x.toNat : Int) == 10) = (x == 10) := by rw [Bool.eq_iff_iff, beq_iff_eq, beq_iff_eq]; exact (u8_int x 10 (by omega)).symm
  have e34 : ((x.toNat : Int) == 34) = (x == 34) := by rw [Bool.eq_iff_iff, beq_iff_eq, beq_iff_eq]; exact (u8_int x 34 (by omega)).symm
  have e35 : ((x.toNat : Int) == 35) = (x == 35) := by rw [Bool.eq_iff_iff, beq_iff_eq, beq_iff_eq]; exact (u8_int x 35 (by omega)).symm
  rw [e32, e10, e34, e35, sgn_def]
  clear e32 e10 e34 e35
  by_cases a1 : x = 32
  · subst a1; decide
  by_cases a2 : x = 10
  · subst a2; decide
  by_cases a3 : x = 123
  · subst a3; decide
  by_cases a4 : x = 125
  · subst a4; decide
  by_cases a5 : x = 59
  · subst a5; decide
  by_cases a6 : x = 91
  · subst a6; decide
  by_cases a7 : x = 93
  · subst a7; decide
  by_cases a8 : x = 34
  · subst a8; decide
  by_cases a9 : x = 35
  · subst a9; decide
  have n1 : ((32 : UInt8) == x) = false := beq_eq_false_iff_ne.2 (fun h => a1 h.symm)
  have n2 : ((10 : UInt8) == x) = false := beq_eq_false_iff_ne.2 (fun h => a2 h.symm)
  have n3 : ((123 : UInt8) == x) = false := beq_eq_false_iff_ne.2 (fun h => a3 h.symm)
  have n4 : ((125 : UInt8) == x) = false := beq_eq_false_iff_ne.2 (fun h => a4 h.symm)
  have n5 : ((59 : UInt8) == x) = false := beq_eq_false_iff_ne.2 (fun h => a5 h.symm)
  have n6 : ((91 : UInt8) == x) = false := beq_eq_false_iff_ne.2 (fun h => a6 h.symm)
  have n7 : ((93 : UInt8) == x) = false := beq_eq_false_iff_ne.2 (fun h => a7 h.symm)
  have n8 : ((34 : UInt8) == x) = false := beq_eq_false_iff_ne.2 (fun h => a8 h.symm)
  have n9 : ((35 : UInt8) == x) = false := beq_eq_false_iff_ne.2 (fun h => a9 h.symm)
  simp [endB, Lib.indexByte, n1, n2, n3, n4, n5, n6, n7, n8, n9, a1, a2, a3, a4, a5, a6, a7, a8, a9]
theorem isEnd_bits (b : ByteArray) (k : Nat) (h : k < b.size) : isEnd ((T b).drop k) = ((((b[k].toNat : Int) == 32) || ((b[k].toNat : Int) == 10) || ((b[k].toNat : Int) == 34) || ((b[k].toNat : Int) == 35) || !(sgn b[k] == 0)) || Lib.hasPrefix ((T b).drop k) [47, 42]) := by
  rw [isEnd_at b k h, endB_bits]
end Go.Proofs.Ytihmmmodimionaa.Lx
