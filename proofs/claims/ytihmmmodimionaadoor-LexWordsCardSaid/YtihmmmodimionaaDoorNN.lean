import Derived.Test.YtihmmmodimionaaDoorNR
namespace Go.Proofs.YtihmmmodimionaaDoor.Lx
open Go.RowKit

theorem letter_hi {x : UInt8} (h : 128 ≤ x.toNat) : letterB x = false ∧ otherB x = false := by
  have t2 : decide ((x.toNat : Int) ≤ 122) = false := by simp; omega
  have t4 : decide ((x.toNat : Int) ≤ 90) = false := by simp; omega
  have t6 : decide ((x.toNat : Int) ≤ 57) = false := by simp; omega
  have t7 : ((x.toNat : Int) == 45) = false := beq_if (by omega)
  have t8 : ((x.toNat : Int) == 95) = false := beq_if (by omega)
  have t9 : ((x.toNat : Int) == 46) = false := beq_if (by omega)
  have t0 : ((x.toNat : Int) == 47) = false := beq_if (by omega)
  simp [letterB, otherB, t2, t4, t6, t7, t8, t9, t0]
theorem nameB_no {s : List UInt8} (h : nmL true s = false) : nameB s = false := by unfold nameB; rw [h, Bool.and_false]

set_option maxRecDepth 100000 in
set_option maxHeartbeats 4000000 in
theorem name_any (s : ByteArray) (w : World) (hs : s.size ≤ maxLen) :
    Calls Tryd.prog 17 #[.string s] w fun e w' => e = .returned (.bool (nameB (T s))) ∧ Below w.heap.size w w' := by
  unfold maxLen at hs
  by_cases h1 : 0 < s.size
  case neg =>
    have he : T s = [] := List.eq_nil_of_length_eq_zero (by rw [T_len]; omega)
    have hemp : s.toList.isEmpty = true := by rw [ByteArray.toList_eq, show s.data.toList = T s from rfl, he]; rfl
    have HV : Hid (nameB (T s) = false) := by show _ = _; rw [he]; rfl
    clear he
    go_enter Tryd.func17, Tryd.ntmps17
    go_wp2_with fail
    go_ret
    exact ⟨by rw [HV.out]; rfl, Below.refl _ _⟩
  have hemp : s.toList.isEmpty = false := by
    rw [ByteArray.toList_eq, show s.data.toList = T s from rfl]
    cases h : T s with
    | nil => have := congrArg List.length h; rw [T_len, List.length_nil] at this; omega
    | cons => rfl
  by_cases h2 : 32 < s.size
  · have h2' : decide ((32 : Int) < (s.size : Int)) = true := by simp; omega
    have HV : Hid (nameB (T s) = false) := by
      show _ = _
      unfold nameB
      rw [decide_eq_false (by rw [T_len]; omega)]; rfl
    go_enter Tryd.func17, Tryd.ntmps17
    go_wp2_with fail
    go_ret
    exact ⟨by rw [HV.out]; rfl, Below.refl _ _⟩
  have h2' : decide ((32 : Int) < (s.size : Int)) = false := by simp; omega
  have HV : Hid (nameB (T s) = nmL true (T s)) := by
    show _ = _
    unfold nameB
    rw [decide_eq_true (by rw [T_len]; omega)]; rfl
  go_enter Tryd.func17, Tryd.ntmps17
  go_wp2_with fail
  clear h2' hemp
  go_loopw [3] (fun _ wr => ∃ k : Nat, k ≤ s.size ∧ wr = w.iter s k ∧ nmL true (T s) = nmL (decide (k = 0)) ((T s).drop k)) (fun _ wr => s.size - wr.iterPos w.heap.size)
  case atStart => exact ⟨0, Nat.zero_le _, rfl, rfl⟩
  case round =>
    obtain ⟨k, hk, rfl, hf⟩ := hrel
    by_cases hlt : k < s.size
    case neg =>
      have hnx : ∀ ty, (Instr.next (.pointer (some ⟨w.heap.size, 0, none⟩)) true ty).run Tryd.prog (w.iter s k) = .ok (.tuple #[.bool false]) (w.iter s k) := fun ty => run_next_end w s k ty hlt
      have HE : Hid (nmL true (T s) = true) := by show _ = _; rw [hf, List.drop_eq_nil_of_le (by rw [T_len]; omega)]; rfl
      clear hf
      go_wp2_with fail
      go_ret
      exact ⟨by rw [HV.out, HE.out]; rfl, bel_one _ _⟩
    rw [nmL_at s k hlt] at hf
    have HF := hide hf
    clear hf
    by_cases hasc : s[k].toNat < 128
    case neg =>
      have hlb := letter_hi (x := s[k]) (by omega)
      have HN : Hid (nameB (T s) = false) := by show _ = _; refine nameB_no ?_; rw [HF.out, hlb.1, hlb.2]; simp
      have hnx : ∀ ty, (Instr.next (.pointer (some ⟨w.heap.size, 0, none⟩)) true ty).run Tryd.prog (w.iter s k) = _ := fun ty => run_next_any w s k ty hlt
      have hhi := decode_high s k hlt (by omega)
      have hval := decode_valid s k hlt (by omega)
      generalize Utf8.decode s k = d at *
      obtain ⟨r, wd⟩ := d
      have hr128 : 128 ≤ r := hhi.1
      have HIR := hide (fun W => irune_high (r : Int) W (by omega) hval)
      have t1 : decide ((97 : Int) ≤ (r : Int)) = true := by simp; omega
      have t2 : decide ((r : Int) ≤ 122) = false := by simp; omega
      have t3 : decide ((65 : Int) ≤ (r : Int)) = true := by simp; omega
      have t4 : decide ((r : Int) ≤ 90) = false := by simp; omega
      have t5 : decide ((r : Int) < 48) = false := by simp; omega
      have t6 : decide ((57 : Int) < (r : Int)) = true := by simp; omega
      clear hhi hval hlb hasc HF
      simp only at hnx
      by_cases hk0 : k = 0
      · have h0' : (((k : Nat) : Int) == 0) = true := beq_it (by omega)
        clear hk0
        go_wp2_with fail
        go_ret
        exact ⟨by rw [HN.out]; rfl, bel_one _ _⟩
      · have h0' : (((k : Nat) : Int) == 0) = false := beq_if (by omega)
        clear hk0
        go_wp2_with fail
        refine (HIR.out _).mono ?_; rintro e w1 ⟨rfl, hb1⟩
        have HB1 := hide (below_wide (bel_one w (.stringIter s (k + wd))) hb1)
        clear hb1
        go_wp2_with fail
        go_ret
        exact ⟨by rw [HN.out]; rfl, HB1.out⟩
    have hnx : ∀ ty, (Instr.next (.pointer (some ⟨w.heap.size, 0, none⟩)) true ty).run Tryd.prog (w.iter s k) = _ := fun ty => run_next_ascii w s k ty hlt hasc
    have hbc := byte_cases s[k].toNat
    have HIR := hide (fun W => Tryd.strings_IndexRune_ascii ⟨#[45, 95, 46, 47]⟩ (s[k].toNat : Int) W (by omega) (by omega))
    have hpun := punct_bits s[k]
    have eqi : Lib.indexByte (⟨#[45, 95, 46, 47]⟩ : ByteArray).data.toList ((s[k].toNat : Int)).toNat.toUInt8 = Lib.indexByte [45, 95, 46, 47] s[k] := by
      congr 1
      simp
    rw [eqi] at HIR
    clear eqi
    generalize Lib.indexByte [45, 95, 46, 47] s[k] = ix at *
    have HPU := hide hpun
    clear hpun
    cases h0 : decide (k = 0)
    case' true => have h0' : (((k : Nat) : Int) == 0) = true := beq_it (by have : k = 0 := by simpa using h0
                                                                           omega)
    case' false => have h0' : (((k : Nat) : Int) == 0) = false := beq_if (by have : ¬ k = 0 := by simpa using h0
                                                                             omega)
    all_goals
      have HF2 := HF
      rw [h0] at HF2
      clear h0 HF
      rcases hbc with h | h | h | h | h | h | h | h | h | h | h | h
    all_goals
      first | have t1 : decide ((97 : Int) ≤ (s[k].toNat : Int)) = true := by (simp; omega) | have t1 : decide ((97 : Int) ≤ (s[k].toNat : Int)) = false := by (simp; omega)
      first | have t2 : decide ((s[k].toNat : Int) ≤ 122) = true := by (simp; omega) | have t2 : decide ((s[k].toNat : Int) ≤ 122) = false := by (simp; omega)
      first | have t3 : decide ((65 : Int) ≤ (s[k].toNat : Int)) = true := by (simp; omega) | have t3 : decide ((65 : Int) ≤ (s[k].toNat : Int)) = false := by (simp; omega)
      first | have t4 : decide ((s[k].toNat : Int) ≤ 90) = true := by (simp; omega) | have t4 : decide ((s[k].toNat : Int) ≤ 90) = false := by (simp; omega)
      first | have t5 : decide ((48 : Int) ≤ (s[k].toNat : Int)) = true := by (simp; omega) | have t5 : decide ((48 : Int) ≤ (s[k].toNat : Int)) = false := by (simp; omega)
      first | have t6 : decide ((s[k].toNat : Int) ≤ 57) = true := by (simp; omega) | have t6 : decide ((s[k].toNat : Int) ≤ 57) = false := by (simp; omega)
      first | have t7 : ((s[k].toNat : Int) == 45) = true := beq_it (by omega) | have t7 : ((s[k].toNat : Int) == 45) = false := beq_if (by omega)
      first | have t8 : ((s[k].toNat : Int) == 95) = true := beq_it (by omega) | have t8 : ((s[k].toNat : Int) == 95) = false := beq_if (by omega)
      first | have t9 : ((s[k].toNat : Int) == 46) = true := beq_it (by omega) | have t9 : ((s[k].toNat : Int) == 46) = false := beq_if (by omega)
      first | have t0 : ((s[k].toNat : Int) == 47) = true := beq_it (by omega) | have t0 : ((s[k].toNat : Int) == 47) = false := beq_if (by omega)
      first | have u5 : decide ((s[k].toNat : Int) < 48) = true := by (simp; omega) | have u5 : decide ((s[k].toNat : Int) < 48) = false := by (simp; omega)
      first | have u6 : decide ((57 : Int) < (s[k].toNat : Int)) = true := by (simp; omega) | have u6 : decide ((57 : Int) < (s[k].toNat : Int)) = false := by (simp; omega)
      have hl := HF2.out
      have hp := HPU.out
      simp only [letterB, otherB, t1, t2, t3, t4, t5, t6, t7, t8, t9, t0, Bool.and_true, Bool.and_false, Bool.or_true, Bool.or_false, Bool.true_and, Bool.false_and, Bool.not_true, Bool.not_false] at hl hp
      have hix : decide (ix < 0) = !decide (0 ≤ ix) := by
        by_cases hx : ix < 0
        · rw [decide_eq_true hx, decide_eq_false (by omega)]; rfl
        · rw [decide_eq_false hx, decide_eq_true (by omega)]; rfl
      rw [hp] at hix
      simp only [Bool.not_true, Bool.not_false] at hix
      have HR := hide hl
      clear hl HF2 h hp HPU
      go_wp2_with fail
      try (refine (HIR.out _).mono ?_; rintro e w1 ⟨rfl, rfl⟩; go_wp2_with fail)
      first
        | (go_roundw
           case rel => exact ⟨k + 1, hlt, rfl, by rw [HR.out]; simp⟩
           case measure => simp; omega)
        | (go_ret
           exact ⟨ret_bool (by unfold nameB; rw [HR.out, Bool.and_false]), bel_one _ _⟩)
end Go.Proofs.YtihmmmodimionaaDoor.Lx
