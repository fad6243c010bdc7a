import Derived.Test.YtihmmmodimionaaDoorWN
import Derived.Test.YtihmmmodimionaaDoorDG
namespace Go.Proofs.YtihmmmodimionaaDoor.Lx
open Go.RowKit

theorem leT_less : ∀ (a b : List UInt8), a.length = b.length → leT a b = (Op.bytesLess a b || a == b) := by
  intro a
  induction a with
  | nil =>
    intro b hl
    have : b = [] := List.eq_nil_of_length_eq_zero (by simp at hl; omega)
    subst this
    rfl
  | cons x xs ih =>
    intro b hl
    cases b with
    | nil => simp at hl
    | cons y ys =>
      have hi := ih ys (by simpa using hl)
      rw [leT, hi]
      have e1 : decide (x < y) = decide (x.toNat < y.toNat) := rfl
      have e2 : ((x :: xs) == (y :: ys)) = (x == y && xs == ys) := rfl
      have e3 : Op.bytesLess (x :: xs) (y :: ys) = (decide (x < y) || (x == y && Op.bytesLess xs ys)) := rfl
      rw [e2, e3, e1]
      cases decide (x.toNat < y.toNat) <;> cases x == y <;> cases xs == ys <;> cases Op.bytesLess xs ys <;> rfl
theorem digB_int (c : UInt8) : digB c = true ↔ (48 : Int) ≤ (c.toNat : Int) ∧ (c.toNat : Int) ≤ 57 := by rw [digB_iff]; omega
theorem val_snoc (b : ByteArray) (k : Nat) (h : k < b.size) : valF 0 ((T b).take (k + 1)) = 10 * valF 0 ((T b).take k) + (b[k].toNat - 48) := by
  rw [T_take b k h, valF_append, valF_cons, valF_nil]
theorem canon_false_dig {b : ByteArray} {k : Nat} (h : k < b.size) (hd : digB b[k] = false) : canon (T b) = false := by
  unfold canon
  have : (T b).all digB = false := by
    rw [List.all_eq_false]
    exact ⟨b[k], List.mem_of_getElem? (T_get b k h), by rw [hd]; decide⟩
  rw [this]; simp
theorem canon_zero {b : ByteArray} (h : 1 < b.size) (h0 : b[0] = 48) : canon (T b) = false := by
  unfold canon
  have e : (T b).headD 0 = 48 := by
    have := T_drop b 0 (by omega)
    rw [List.drop_zero] at this
    rw [this, h0]; rfl
  rw [e, T_len, decide_eq_false (by omega)]
  simp
theorem canon_nil {b : ByteArray} (h : b.size = 0) : canon (T b) = false := by
  have : T b = [] := List.eq_nil_of_length_eq_zero (by rw [T_len]; exact h)
  rw [this]; rfl
theorem canon_all {b : ByteArray} (h : 0 < b.size) (hd : ∀ c ∈ T b, digB c = true) (h0 : b.size ≤ 1 ∨ ¬ b[0] = 48) : canon (T b) = true := by
  have e := T_drop b 0 h
  rw [List.drop_zero] at e
  unfold canon
  simp only [Bool.and_eq_true, Bool.or_eq_true, decide_eq_true_eq, Bool.not_eq_true', List.isEmpty_eq_false_iff, List.all_eq_true, beq_eq_false_iff_ne]
  refine ⟨⟨by rw [e]; exact List.cons_ne_nil _ _, hd⟩, ?_⟩
  rcases h0 with h0 | h0
  · exact .inl (by rw [T_len]; exact h0)
  · exact .inr (by rw [e]; exact h0)

set_option maxRecDepth 100000 in
set_option maxHeartbeats 2000000 in
theorem big_any (s : ByteArray) (most : Int) (w : World) (hlim : s.size ≤ 140737488351232) (hcase : 18 < s.size ∨ s.size = 0 ∨ (∃ h : 1 < s.size, s[0] = 48)) :
    Calls Tryd.prog 32 #[.string s, .int .i64 most] w (NumOut (numRes (T s) most) w) := by
  by_cases h19 : s.size = 19
  case neg =>
    have h19' : ((s.size : Int) == 19) = false := beq_if (by omega)
    have h19'' : ((s.size : Int) != 19) = true := by rw [bne, h19']; rfl
    have HN : Hid (numRes (T s) most = (0, false)) := by
      show _ = _
      cases hc : canon (T s)
      · exact numRes_no hc
      · rcases hcase with h | h | ⟨h1, h⟩
        · exact numRes_big (canon_long hc (by rw [T_len]; omega))
        · rw [canon_nil h] at hc; cases hc
        · rw [canon_zero h1 h] at hc; cases hc
    clear hcase h19
    go_enter Tryd.func32, Tryd.ntmps32
    go_wp2_with fail
    go_ret2
    exact ⟨by rw [HN.out]; rfl, Below.refl _ _⟩
  have h19' : ((s.size : Int) == 19) = true := beq_it (by omega)
  have h19'' : ((s.size : Int) != 19) = false := by rw [bne, h19']; rfl
  have h19p : 0 < s.size := by omega
  have h19q : s.size ≤ 19 := by omega
  have H19 := hide h19
  clear hcase h19
  by_cases h48 : (s[0].toNat : Int) = 48
  · have h48' : ((s[0].toNat : Int) == 48) = true := beq_it h48
    have HN : Hid (numRes (T s) most = (0, false)) := numRes_no (canon_zero (by have := H19.out; omega) ((u8_eq _ 48 (by omega)).2 (by omega)))
    clear h48
    go_enter Tryd.func32, Tryd.ntmps32
    go_wp2_with fail
    go_ret2
    exact ⟨by rw [HN.out]; rfl, Below.refl _ _⟩
  have h48' : ((s[0].toNat : Int) == 48) = false := beq_if h48
  have hd0 : ¬ s[0] = 48 := fun e => h48 (by have := (u8_eq s[0] 48 (by omega)).1 e; omega)
  have HD0 := hide hd0
  clear h48 hd0
  have HNU := hide (fun W => ref_number 9223372036854775807 W (Nat.le_refl _))
  rw [show ((9223372036854775807 : Nat) : Int) = 9223372036854775807 from rfl] at HNU
  have HLT := hide (leT_less (T s) maxS (by rw [T_len, H19.out]; rfl))
  go_enter Tryd.func32, Tryd.ntmps32
  go_wp2_with fail
  refine (HNU.out _).mono ?_; rintro e w1 ⟨r, rfl, hr, hrs, hb⟩
  have HB := hide hb
  rw [maxS_dec] at hr
  have hless : (Op.bytesLess s.toList r.toList || s.toList == r.toList) = leT (T s) maxS := by
    rw [HLT.out, ByteArray.toList_eq, ByteArray.toList_eq, show s.data.toList = T s from rfl, show r.data.toList = T r from rfl, hr]
  clear hr hrs hb
  cases hl : leT (T s) maxS
  · rw [hl] at hless
    have HN : Hid (numRes (T s) most = (0, false)) := by
      show _ = _
      cases hc : canon (T s)
      · exact numRes_no hc
      · refine numRes_big ?_
        have hall : ∀ c ∈ T s, digB c = true := by
          unfold canon at hc
          simp only [Bool.and_eq_true, List.all_eq_true] at hc
          exact hc.1.2
        have := leT_val (T s) maxS (by rw [T_len, H19.out]; rfl) hall (by decide)
        rw [hl] at this
        have hm : valF 0 maxS = maxI := by decide
        rw [hm] at this
        have h2 : ¬ valF 0 (T s) ≤ maxI := fun h => by have := this.2 h; cases this
        show maxI < valF 0 (T s)
        omega
    clear hl
    go_wp2_with fail
    go_ret2
    exact ⟨by rw [HN.out]; rfl, HB.out⟩
  rw [hl] at hless
  have HLE : Hid ((∀ c ∈ T s, digB c = true) → valF 0 (T s) ≤ 9223372036854775807) := fun hall => by
    have := leT_val (T s) maxS (by rw [T_len, H19.out]; rfl) hall (by decide)
    have hm : valF 0 maxS = 9223372036854775807 := by decide
    rw [hm] at this
    exact this.1 hl
  clear hl
  go_wp2_with fail
  go_loop [6, 7] (fun x j => ∃ (k n : Nat), k ≤ 19 ∧ j = .int .i64 k ∧ x = .int .i64 n ∧ n = valF 0 ((T s).take k) ∧ ∀ c ∈ (T s).take k, digB c = true) (fun _ j => 19 - (intOf j).toNat)
  case atStart => exact ⟨0, 0, Nat.zero_le _, rfl, rfl, rfl, fun c hc => by cases hc⟩
  case round =>
    obtain ⟨k, n, hk, rfl, rfl, hn, hd⟩ := hrel
    have h19s := H19.out
    by_cases hlt : k < 19
    · have hks : k < s.size := by omega
      have hlt2 : valF 0 ((T s).take k) < 10 ^ k := by
        have := valF_lt ((T s).take k) hd
        rwa [List.length_take, T_len, Nat.min_eq_left (by omega)] at this
      have hp18 : 10 ^ k ≤ 10 ^ 18 := Nat.pow_le_pow_right (by decide) (by omega)
      have hn18 : n ≤ 1000000000000000000 := by
        have e : (10 : Nat) ^ 18 = 1000000000000000000 := by decide
        omega
      by_cases hdg : digB s[k] = true
      · have hs := val_snoc s k hks
        have hdc := (digB_int s[k]).1 hdg
        have hall : ∀ c ∈ (T s).take (k + 1), digB c = true := by
          intro c hc
          rw [T_take s k hks] at hc
          rcases List.mem_append.1 hc with hc | hc
          · exact hd c hc
          · have : c = s[k] := by simpa using hc
            rw [this]; exact hdg
        have hbd : 10 * n + (s[k].toNat - 48) ≤ 9223372036854775807 := by
          by_cases hk18 : k = 18
          · have := HLE.out (fun c hc => hall c (by rw [List.take_of_length_le (by rw [T_len]; omega)]; exact hc))
            rw [List.take_of_length_le (by rw [T_len]; omega)] at hs
            omega
          · have hp17 : 10 ^ k ≤ 10 ^ 17 := Nat.pow_le_pow_right (by decide) (by omega)
            have e : (10 : Nat) ^ 17 = 100000000000000000 := by decide
            omega
        have hbi : 10 * (n : Int) + ((s[k].toNat : Int) - 48) ≤ 9223372036854775807 := by omega
        have hbi2 : 10 * (n : Int) ≤ 9223372036854775807 := by omega
        obtain ⟨hdc1, hdc2⟩ := hdc
        have t1 : decide ((s[k].toNat : Int) < 48) = false := by simp; omega
        have t2 : decide ((57 : Int) < (s[k].toNat : Int)) = false := by simp; omega
        have HS := hide hs
        have HALL := hide hall
        have HN := hide hn
        clear hs hall hd hlt2 hp18 hdg hn hbd h19s
        go_wp2_with fail
        go_round
        case rel =>
          refine ⟨k + 1, 10 * n + (s[k].toNat - 48), by omega, by go_num, ?_, by rw [HS.out, HN.out], HALL.out⟩
          congr 1
          omega
        case measure => simp [intOf]; omega
      · have hdg' : digB s[k] = false := by simpa using hdg
        have HN : Hid (numRes (T s) most = (0, false)) := numRes_no (canon_false_dig hks hdg')
        have hdc : ¬ ((48 : Int) ≤ (s[k].toNat : Int) ∧ (s[k].toNat : Int) ≤ 57) := fun h => hdg ((digB_int _).2 h)
        clear hdg hdg' hd hlt2 hp18 hn h19s
        by_cases hlo : (s[k].toNat : Int) < 48
        · have t1 : decide ((s[k].toNat : Int) < 48) = true := by simpa using hlo
          clear hdc
          go_wp2_with fail
          go_ret2
          exact ⟨by rw [HN.out]; rfl, HB.out⟩
        · have t1 : decide ((s[k].toNat : Int) < 48) = false := by simpa using hlo
          have t2 : decide ((57 : Int) < (s[k].toNat : Int)) = true := by simp; omega
          clear hdc hlo
          go_wp2_with fail
          go_ret2
          exact ⟨by rw [HN.out]; rfl, HB.out⟩
    · have hall : ∀ c ∈ T s, digB c = true := fun c hc => hd c (by rw [List.take_of_length_le (by rw [T_len]; omega)]; exact hc)
      have hnv : n = val (T s) := by rw [hn, List.take_of_length_le (by rw [T_len]; omega)]; rfl
      have hc := canon_all (b := s) (by omega) hall (.inr HD0.out)
      have hmx : val (T s) ≤ maxI := HLE.out hall
      by_cases hm : most < (n : Int)
      · have t1 : decide (most < (n : Int)) = true := by simpa using hm
        have HN : Hid (numRes (T s) most = (0, false)) := numRes_most (by omega)
        clear hm hmx hc hnv hall hn hd h19s
        go_wp2_with fail
        go_ret2
        exact ⟨by rw [HN.out]; rfl, HB.out⟩
      · have t1 : decide (most < (n : Int)) = false := by simpa using hm
        have HN : Hid (numRes (T s) most = ((n : Int), true)) := by show _ = _; rw [hnv]; exact numRes_yes hc hmx (by omega)
        clear hm hmx hc hnv hall hn hd h19s
        go_wp2_with fail
        go_ret2
        exact ⟨by rw [HN.out]; rfl, HB.out⟩
end Go.Proofs.YtihmmmodimionaaDoor.Lx
