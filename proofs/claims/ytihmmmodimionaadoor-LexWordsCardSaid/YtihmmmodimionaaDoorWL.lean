import Derived.Test.YtihmmmodimionaaDoorWR
import Derived.Test.YtihmmmodimionaaDoorNN
namespace Go.Proofs.YtihmmmodimionaaDoor.Lx
open Go.RowKit

set_option maxRecDepth 100000 in
set_option maxHeartbeats 2000000 in
theorem refnum_big (s : ByteArray) (most : Int) (w : World) (hlim : s.size ≤ 140737488351232) (hcase : 18 < s.size ∨ s.size = 0 ∨ (∃ h : 1 < s.size, s[0] = 48)) :
    Calls Tryd.prog 19 #[.string s, .int .i64 most] w (NumOut (numRes (T s) most) w) := by
  have HBG := hide (big_any s most w hlim hcase)
  by_cases h18 : 18 < s.size
  · have t1 : decide ((18 : Int) < (s.size : Int)) = true := by simp; omega
    clear hcase h18
    go_enter Tryd.func19, Tryd.ntmps19
    go_wp2_with fail
    refine HBG.out.mono ?_; rintro e w1 ⟨rfl, hb⟩
    have HB := hide hb
    clear hb
    go_wp2_with fail
    go_ret2
    exact ⟨rfl, HB.out⟩
  have t1 : decide ((18 : Int) < (s.size : Int)) = false := by simp; omega
  by_cases h0 : s.size = 0
  · have hemp : s.toList.isEmpty = true := by
      rw [ByteArray.toList_eq, show s.data.toList = T s from rfl, List.eq_nil_of_length_eq_zero (show (T s).length = 0 by rw [T_len]; exact h0)]; rfl
    clear hcase h18 h0
    go_enter Tryd.func19, Tryd.ntmps19
    go_wp2_with fail
    refine HBG.out.mono ?_; rintro e w1 ⟨rfl, hb⟩
    have HB := hide hb
    clear hb
    go_wp2_with fail
    go_ret2
    exact ⟨rfl, HB.out⟩
  have hemp : s.toList.isEmpty = false := by
    rw [ByteArray.toList_eq, show s.data.toList = T s from rfl]
    cases h : T s with
    | nil => have := congrArg List.length h; rw [T_len, List.length_nil] at this; omega
    | cons => rfl
  obtain ⟨h1, h48⟩ := (hcase.resolve_left h18).resolve_left h0
  have t2 : decide ((1 : Int) < (s.size : Int)) = true := by simp; omega
  have t3 : ((s[0].toNat : Int) == 48) = true := beq_it (by have := (u8_eq s[0] 48 (by omega)).1 h48; omega)
  clear hcase h48
  go_enter Tryd.func19, Tryd.ntmps19
  go_wp2_with fail
  refine HBG.out.mono ?_; rintro e w1 ⟨rfl, hb⟩
  have HB := hide hb
  clear hb
  go_wp2_with fail
  go_ret2
  exact ⟨rfl, HB.out⟩

set_option maxRecDepth 100000 in
set_option maxHeartbeats 2000000 in
theorem refnum_small (s : ByteArray) (most : Int) (w : World) (h18 : s.size ≤ 18) (h0 : 0 < s.size) (h48 : s.size ≤ 1 ∨ ¬ s[0] = 48) :
    Calls Tryd.prog 19 #[.string s, .int .i64 most] w (NumOut (numRes (T s) most) w) := by
  have t1 : decide ((18 : Int) < (s.size : Int)) = false := by simp; omega
  have hemp : s.toList.isEmpty = false := by
    rw [ByteArray.toList_eq, show s.data.toList = T s from rfl]
    cases h : T s with
    | nil => have := congrArg List.length h; rw [T_len, List.length_nil] at this; omega
    | cons => rfl
  have hguard : decide ((1 : Int) < (s.size : Int)) = false ∨ (decide ((1 : Int) < (s.size : Int)) = true ∧ ((s[0].toNat : Int) == 48) = false) := by
    by_cases h1 : s.size ≤ 1
    · exact .inl (by simp; omega)
    · refine .inr ⟨by simp; omega, beq_if (fun e => ?_)⟩
      rcases h48 with h | h
      · exact h1 h
      · exact h ((u8_eq s[0] 48 (by omega)).2 (by omega))
  have HCN := hide (fun hd => canon_all (b := s) h0 hd h48)
  clear h48
  rcases hguard with g1 | ⟨g1, g2⟩
  all_goals
    go_enter Tryd.func19, Tryd.ntmps19
    go_wp2_with fail
    go_loop [6, 7] (fun x j => ∃ (k n : Nat), k ≤ s.size ∧ j = .int .i64 k ∧ x = .int .i64 n ∧ n = valF 0 ((T s).take k) ∧ ∀ c ∈ (T s).take k, digB c = true) (fun _ j => s.size - (intOf j).toNat)
    case atStart => exact ⟨0, 0, Nat.zero_le _, rfl, rfl, rfl, fun c hc => by cases hc⟩
    case round =>
      obtain ⟨k, n, hk, rfl, rfl, hn, hd⟩ := hrel
      have hlt2 : valF 0 ((T s).take k) < 10 ^ k := by
        have := valF_lt ((T s).take k) hd
        rwa [List.length_take, T_len, Nat.min_eq_left (by omega)] at this
      have hp18 : 10 ^ k ≤ 10 ^ 18 := Nat.pow_le_pow_right (by decide) (by omega)
      have hn18 : n ≤ 1000000000000000000 := by
        have e : (10 : Nat) ^ 18 = 1000000000000000000 := by decide
        omega
      by_cases hlt : k < s.size
      · have hks : k < s.size := hlt
        have hn17 : n ≤ 100000000000000000 := by
          have hp17 : 10 ^ k ≤ 10 ^ 17 := Nat.pow_le_pow_right (by decide) (by omega)
          have e : (10 : Nat) ^ 17 = 100000000000000000 := by decide
          omega
        by_cases hdg : digB s[k] = true
        · have hs := val_snoc s k hks
          have hdc := (digB_int s[k]).1 hdg
          have hall : ∀ c ∈ (T s).take (k + 1), digB c = true := by
            intro c hc
            rw [T_take s k hks] at hc
            rcases List.mem_append.1 hc with hc | hc
            · exact hd c hc
            · have : c = s[k] := by simpa using hc
              rw [this]; exact hdg
          obtain ⟨hdc1, hdc2⟩ := hdc
          have t4 : decide ((s[k].toNat : Int) < 48) = false := by simp; omega
          have t5 : decide ((57 : Int) < (s[k].toNat : Int)) = false := by simp; omega
          have HS := hide hs
          have HALL := hide hall
          have HN := hide hn
          clear hs hall hd hlt2 hp18 hdg hn
          go_wp2_with fail
          go_round
          case rel =>
            refine ⟨k + 1, 10 * n + (s[k].toNat - 48), by omega, by go_num, ?_, by rw [HS.out, HN.out], HALL.out⟩
            congr 1
            omega
          case measure => simp [intOf]; omega
        · have hdg' : digB s[k] = false := by simpa using hdg
          have HN : Hid (numRes (T s) most = (0, false)) := numRes_no (canon_false_dig hks hdg')
          have hdc : ¬ ((48 : Int) ≤ (s[k].toNat : Int) ∧ (s[k].toNat : Int) ≤ 57) := fun h => hdg ((digB_int _).2 h)
          clear hdg hdg' hd hlt2 hp18 hn
          by_cases hlo : (s[k].toNat : Int) < 48
          · have t4 : decide ((s[k].toNat : Int) < 48) = true := by simpa using hlo
            clear hdc
            go_wp2_with fail
            go_ret2
            exact ⟨by rw [HN.out]; rfl, Below.refl _ _⟩
          · have t4 : decide ((s[k].toNat : Int) < 48) = false := by simpa using hlo
            have t5 : decide ((57 : Int) < (s[k].toNat : Int)) = true := by simp; omega
            clear hdc hlo
            go_wp2_with fail
            go_ret2
            exact ⟨by rw [HN.out]; rfl, Below.refl _ _⟩
      · have hall : ∀ c ∈ T s, digB c = true := fun c hc => hd c (by rw [List.take_of_length_le (by rw [T_len]; omega)]; exact hc)
        have hnv : n = val (T s) := by rw [hn, List.take_of_length_le (by rw [T_len]; omega)]; rfl
        have hc := HCN.out hall
        have hmx : val (T s) ≤ maxI := by unfold maxI; omega
        by_cases hm : most < (n : Int)
        · have t6 : decide (most < (n : Int)) = true := by simpa using hm
          have HN : Hid (numRes (T s) most = (0, false)) := numRes_most (by omega)
          clear hm hmx hc hnv hall hn hd
          go_wp2_with fail
          go_ret2
          exact ⟨by rw [HN.out]; rfl, Below.refl _ _⟩
        · have t6 : decide (most < (n : Int)) = false := by simpa using hm
          have HN : Hid (numRes (T s) most = ((n : Int), true)) := by show _ = _; rw [hnv]; exact numRes_yes hc hmx (by omega)
          clear hm hmx hc hnv hall hn hd
          go_wp2_with fail
          go_ret2
          exact ⟨by rw [HN.out]; rfl, Below.refl _ _⟩
theorem refnum_any (s : ByteArray) (most : Int) (w : World) (hlim : s.size ≤ 140737488351232) :
    Calls Tryd.prog 19 #[.string s, .int .i64 most] w (NumOut (numRes (T s) most) w) := by
  by_cases h18 : 18 < s.size
  · exact refnum_big s most w hlim (.inl h18)
  by_cases h0 : s.size = 0
  · exact refnum_big s most w hlim (.inr (.inl h0))
  by_cases h1 : s.size ≤ 1
  · exact refnum_small s most w (by omega) (by omega) (.inl h1)
  by_cases h48 : s[0] = 48
  · exact refnum_big s most w hlim (.inr (.inr ⟨by omega, h48⟩))
  · exact refnum_small s most w (by omega) (by omega) (.inr h48)

set_option maxHeartbeats 1000000 in
theorem wlaw_any (s : ByteArray) (most : Int) (w : World) (hlim : s.size ≤ 140737488351232) (hsv : SV w) :
    Calls Tryd.prog 7 #[.string s, .int .i64 most] w fun e w' => e = .returned (.bool true) ∧ Below w.heap.size w w' := by
  have H1 := hide (number_any s most w hlim hsv)
  have H2 := hide (fun W => refnum_any s most W hlim)
  have H3 := hide (fun W => name_any s W (by unfold maxLen; omega))
  have H4 := hide (fun W => ref_name s W (by unfold maxLen; omega))
  generalize numRes (T s) most = r at *
  obtain ⟨n, b⟩ := r
  have e1 : (n == n) = true := by simp
  have e2 : (b == b) = true := by simp
  have e3 : (nameB (T s) == nameB (T s)) = true := by simp
  generalize nameB (T s) = nb at *
  go_enter Tryd.func7, Tryd.ntmps7
  go_wp2_with fail
  refine H1.out.mono ?_; rintro e w1 ⟨rfl, hb1⟩
  have HB1 := hide hb1
  clear hb1
  go_wp2_with fail
  refine (H2.out _).mono ?_; rintro e w2 ⟨rfl, hb2⟩
  have HB2 := hide (below_wide HB1.out hb2)
  clear hb2
  go_wp2_with fail
  refine (H3.out _).mono ?_; rintro e w3 ⟨rfl, hb3⟩
  have HB3 := hide (below_wide HB2.out hb3)
  clear hb3
  go_wp2_with fail
  refine (H4.out _).mono ?_; rintro e w4 ⟨rfl, rfl⟩
  go_wp2_with fail
  go_ret
  exact ⟨rfl, HB3.out⟩
end Go.Proofs.YtihmmmodimionaaDoor.Lx
