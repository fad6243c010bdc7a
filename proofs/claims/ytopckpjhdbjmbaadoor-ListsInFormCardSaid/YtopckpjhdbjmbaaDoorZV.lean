/- The reference's Read, Text and Parse. -/
import Derived.Test.YtopckpjhdbjmbaaDoorZQ
import Derived.Test.YtopckpjhdbjmbaaDoorZP
namespace Go.Proofs.YtopckpjhdbjmbaaDoor.Ld
open Go.RowKit Go.Proofs.YtopckpjhdbjmbaaDoor.Lx

theorem digB_int (c : UInt8) : digB c = true ↔ (48 : Int) ≤ (c.toNat : Int) ∧ (c.toNat : Int) ≤ 57 := by rw [digB_iff]; omega
theorem val_snoc (b : ByteArray) (k : Nat) (h : k < b.size) : valF 0 ((T b).take (k + 1)) = 10 * valF 0 ((T b).take k) + (b[k].toNat - 48) := by
  rw [T_take b k h, valF_append, valF_cons, valF_nil]
theorem canon_false_dig {b : ByteArray} {k : Nat} (h : k < b.size) (hd : digB b[k] = false) : canon (T b) = false := by
  unfold canon
  have : (T b).all digB = false := by
    rw [List.all_eq_false]
    exact ⟨b[k], List.mem_of_getElem? (T_get b k h), by rw [hd]; decide⟩
  rw [this]; simp
theorem canon_zero {b : ByteArray} (h : 1 < b.size) (h0 : b[0] = 48) : canon (T b) = false := by
  unfold canon
  have e : (T b).headD 0 = 48 := by
    have := T_drop b 0 (by omega)
    rw [List.drop_zero] at this
    rw [this, h0]; rfl
  rw [e, T_len, decide_eq_false (by omega)]
  simp
theorem canon_nil {b : ByteArray} (h : b.size = 0) : canon (T b) = false := by
  have : T b = [] := List.eq_nil_of_length_eq_zero (by rw [T_len]; exact h)
  rw [this]; rfl
theorem canon_all {b : ByteArray} (h : 0 < b.size) (hd : ∀ c ∈ T b, digB c = true) (h0 : b.size ≤ 1 ∨ ¬ b[0] = 48) : canon (T b) = true := by
  have e := T_drop b 0 h
  rw [List.drop_zero] at e
  unfold canon
  simp only [Bool.and_eq_true, Bool.or_eq_true, decide_eq_true_eq, Bool.not_eq_true', List.isEmpty_eq_false_iff, List.all_eq_true, beq_eq_false_iff_ne]
  refine ⟨⟨by rw [e]; exact List.cons_ne_nil _ _, hd⟩, ?_⟩
  rcases h0 with h0 | h0
  · exact .inl (by rw [T_len]; exact h0)
  · exact .inr (by rw [e]; exact h0)

theorem canon_long5 {l : List UInt8} (h : canon l = true) (hl : 5 < l.length) : 65535 < val l := by
  refine Nat.lt_of_not_le (fun hv => ?_)
  have h1 := canon_dec _ l (Nat.le_refl _) h
  have h2 := dec_len 5 (val l) (by omega) (by omega)
  rw [h1] at h2
  omega
theorem rdI_no {l : List UInt8} (h : canon l = false) : rdI l = -1 := by unfold rdI; rw [if_neg (by rw [h]; simp)]
theorem rdI_big {l : List UInt8} (h : 65535 < val l) : rdI l = -1 := by unfold rdI; rw [if_neg (by omega)]
theorem rdI_yes {l : List UInt8} (h : canon l = true) (h2 : val l ≤ 65535) : rdI l = val l := by unfold rdI; rw [if_pos ⟨h, h2⟩]
def RdOut (r : Int) (w : World) (e : Ending) (w' : World) : Prop := e = .returned (.int .i64 r) ∧ Below w.heap.size w w'

theorem empty_of (s : ByteArray) : s.toList.isEmpty = decide (s.size = 0) := by
  rw [ByteArray.toList_eq, show s.data.toList = T s from rfl, ← T_len]
  cases T s <;> simp

set_option maxHeartbeats 2000000 in
set_option maxRecDepth 100000 in
theorem read_loop (s : ByteArray) (w : World) (h0 : 0 < s.size) (h12 : s.size ≤ 12) (hz : s.size ≤ 1 ∨ ¬ s[0] = 48)
    (hem : s.toList.isEmpty = false) (h12' : decide ((12 : Int) < (s.size : Int)) = false) (hc1 : decide ((1 : Int) < (s.size : Int)) = false ∨ (decide ((1 : Int) < (s.size : Int)) = true ∧ ((s[0].toNat : Int) == 48) = false)) :
    Calls Tryd.prog 27 #[.string s, .int .i64 65535] w (RdOut (rdI (T s)) w) := by
  have HZ := hide hz
  have H0 := hide h0
  clear hz
  go_enter Tryd.func27, Tryd.ntmps27
  have key : ∀ (K : Prop), (decide ((1 : Int) < (s.size : Int)) = false → K) → (decide ((1 : Int) < (s.size : Int)) = true → ((s[0].toNat : Int) == 48) = false → K) → K := fun K a b => by
    rcases hc1 with h | ⟨h, h'⟩
    · exact a h
    · exact b h h'
  clear hc1
  refine key _ (fun hc1 => ?_) (fun hc1 hc2 => ?_)
  all_goals
    clear key
    go_wp2_with fail
    go_loop [5, 6] (fun x j => ∃ (k n : Nat), k ≤ s.size ∧ j = .int .i64 k ∧ x = .int .i64 n ∧ n = valF 0 ((T s).take k) ∧ ∀ c ∈ (T s).take k, digB c = true) (fun _ j => s.size - (intOf j).toNat)
    case atStart => exact ⟨0, 0, Nat.zero_le _, rfl, rfl, rfl, fun c hc => (by cases hc)⟩
    case round =>
      obtain ⟨k, n, hk, rfl, rfl, hn, hd⟩ := hrel
      by_cases hks : k < s.size
      · have hlt2 : valF 0 ((T s).take k) < 10 ^ k := by
          have := valF_lt ((T s).take k) hd
          rwa [List.length_take, T_len, Nat.min_eq_left (by omega)] at this
        have hp18 : 10 ^ k ≤ 10 ^ 12 := Nat.pow_le_pow_right (by decide) (by omega)
        have hn18 : n ≤ 1000000000000 := by
          have e : (10 : Nat) ^ 12 = 1000000000000 := by decide
          omega
        by_cases hdg : digB s[k] = true
        · have hs := val_snoc s k hks
          have hdc := (digB_int s[k]).1 hdg
          have hall : ∀ c ∈ (T s).take (k + 1), digB c = true := by
            intro c hc
            rw [T_take s k hks] at hc
            rcases List.mem_append.1 hc with hc | hc
            · exact hd c hc
            · have : c = s[k] := by simpa using hc
              rw [this]; exact hdg
          obtain ⟨hdc1, hdc2⟩ := hdc
          have t1 : decide ((s[k].toNat : Int) < 48) = false := by simp; omega
          have t2 : decide ((57 : Int) < (s[k].toNat : Int)) = false := by simp; omega
          have HS := hide hs
          have HALL := hide hall
          have HN := hide hn
          clear hs hall hd hlt2 hp18 hdg hn
          go_wp2_with fail
          go_round
          case rel =>
            refine ⟨k + 1, 10 * n + (s[k].toNat - 48), by omega, by go_num, ?_, by rw [HS.out, HN.out], HALL.out⟩
            congr 1
            omega
          case measure => simp [intOf]; omega
        · have hdg' : digB s[k] = false := by simpa using hdg
          have HN : Hid (rdI (T s) = -1) := rdI_no (canon_false_dig hks hdg')
          have hdc : ¬ ((48 : Int) ≤ (s[k].toNat : Int) ∧ (s[k].toNat : Int) ≤ 57) := fun h => hdg ((digB_int _).2 h)
          clear hdg hdg' hd hlt2 hp18 hn
          by_cases hlo : (s[k].toNat : Int) < 48
          · have t1 : decide ((s[k].toNat : Int) < 48) = true := by simpa using hlo
            clear hdc
            go_wp2_with fail
            go_ret
            exact ⟨by rw [HN.out]; rfl, Below.refl _ _⟩
          · have t1 : decide ((s[k].toNat : Int) < 48) = false := by simpa using hlo
            have t2 : decide ((57 : Int) < (s[k].toNat : Int)) = true := by simp; omega
            clear hdc hlo
            go_wp2_with fail
            go_ret
            exact ⟨by rw [HN.out]; rfl, Below.refl _ _⟩
      · have hall : ∀ c ∈ T s, digB c = true := fun c hc => hd c (by rw [List.take_of_length_le (by rw [T_len]; omega)]; exact hc)
        have hnv : n = val (T s) := by rw [hn, List.take_of_length_le (by rw [T_len]; omega)]; rfl
        have hc := canon_all (b := s) H0.out hall HZ.out
        by_cases hm : (65535 : Int) < (n : Int)
        · have t1 : decide ((65535 : Int) < (n : Int)) = true := by simpa using hm
          have HN : Hid (rdI (T s) = -1) := rdI_big (by omega)
          clear hc hnv hall hn hd
          go_wp2_with fail
          go_ret
          exact ⟨by rw [HN.out]; rfl, Below.refl _ _⟩
        · have t1 : decide ((65535 : Int) < (n : Int)) = false := by simpa using hm
          have HN : Hid (rdI (T s) = (n : Int)) := by show _ = _; rw [hnv]; exact rdI_yes hc (by omega)
          clear hc hnv hall hn hd
          go_wp2_with fail
          go_ret
          exact ⟨by rw [HN.out]; rfl, Below.refl _ _⟩

set_option maxHeartbeats 2000000 in
set_option maxRecDepth 100000 in
theorem read_any (s : ByteArray) (w : World) (hs : s.size ≤ 2000000) :
    Calls Tryd.prog 27 #[.string s, .int .i64 65535] w (RdOut (rdI (T s)) w) := by
  by_cases h0 : s.size = 0
  · have hem : s.toList.isEmpty = true := by rw [empty_of]; simpa using h0
    have HN : Hid (rdI (T s) = -1) := rdI_no (canon_nil h0)
    clear h0
    go_enter Tryd.func27, Tryd.ntmps27
    go_wp2_with fail
    go_ret
    exact ⟨by rw [HN.out]; rfl, Below.refl _ _⟩
  have hem : s.toList.isEmpty = false := by rw [empty_of]; simpa using h0
  by_cases h12 : 12 < s.size
  · have h12' : decide ((12 : Int) < (s.size : Int)) = true := by simp; omega
    have HN : Hid (rdI (T s) = -1) := by
      show _ = _
      cases hc : canon (T s)
      · exact rdI_no hc
      · exact rdI_big (canon_long5 hc (by rw [T_len]; omega))
    go_enter Tryd.func27, Tryd.ntmps27
    go_wp2_with fail
    go_ret
    exact ⟨by rw [HN.out]; rfl, Below.refl _ _⟩
  have h12' : decide ((12 : Int) < (s.size : Int)) = false := by simp; omega
  by_cases h1 : 1 < s.size
  · have h1' : decide ((1 : Int) < (s.size : Int)) = true := by simp; omega
    by_cases h48 : (s[0].toNat : Int) = 48
    · have h48' : ((s[0].toNat : Int) == 48) = true := beq_it h48
      have HN : Hid (rdI (T s) = -1) := rdI_no (canon_zero h1 ((u8_eq _ 48 (by omega)).2 (by omega)))
      clear h48
      go_enter Tryd.func27, Tryd.ntmps27
      go_wp2_with fail
      go_ret
      exact ⟨by rw [HN.out]; rfl, Below.refl _ _⟩
    · exact read_loop s w (by omega) (by omega) (.inr (fun e => h48 (by have := (u8_eq s[0] 48 (by omega)).1 e; omega))) hem h12' (.inr ⟨h1', beq_if h48⟩)
  · exact read_loop s w (by omega) (by omega) (.inl (by omega)) hem h12' (.inl (by simp; omega))

set_option maxHeartbeats 1000000 in
theorem rtext_any (c : Nat) (w : World) (hc : c < 4294967296) :
    Calls Tryd.prog 14 #[.int .u32 c] w (TxtOut c w) := by
  have HI := hide (fun W => ref_number (c / 65536) W (by omega))
  have HJ := hide (fun W => ref_number (c % 65536) W (by omega))
  rw [show ((c / 65536 : Nat) : Int) = (c : Int) / 65536 by omega] at HI
  rw [show ((c % 65536 : Nat) : Int) = (c : Int) % 65536 by omega] at HJ
  go_enter Tryd.func14, Tryd.ntmps14
  go_wp2_with fail
  refine (HI.out _).mono ?_; rintro e w1 ⟨r, rfl, hr, hrs, hb1⟩
  have HB1 := hide hb1
  have HR := hide hr
  clear hb1 hr
  go_wp2_with fail
  refine (HJ.out _).mono ?_; rintro e w2 ⟨r2, rfl, hr2, hrs2, hb2⟩
  have HB2 := hide (below_wide HB1.out hb2)
  have HR2 := hide hr2
  clear hb2 hr2
  go_wp2_with fail
  go_ret
  refine ⟨_, rfl, ?_, ?_, HB2.out⟩
  · rw [T_app2, T_app2, HR.out, HR2.out]; rfl
  · rw [ByteArray.size_append, ByteArray.size_append]
    show r.size + 1 + r2.size ≤ 100
    omega

theorem parseR_at {s : ByteArray} {k : Nat} (h : k < s.size) (hn : ∀ x ∈ (T s).take k, x ≠ 58) (h58 : s[k] = 58) : parseR (T s) = pairR ((T s).take k) ((T s).drop (k + 1)) := by
  conv => lhs; rw [← List.take_append_drop k (T s), T_drop s k h, h58]
  exact parseR_app _ _ hn

set_option maxHeartbeats 2000000 in
set_option maxRecDepth 100000 in
theorem rparse_any (s : ByteArray) (w : World) (hs : s.size ≤ 2000000) :
    Calls Tryd.prog 9 #[.string s] w (ParOut (parseR (T s)) w) := by
  go_enter Tryd.func9, Tryd.ntmps9
  go_wp2_with fail
  go_loop [4] (fun j => ∃ k : Nat, k ≤ s.size ∧ j = .int .i64 k ∧ ∀ x ∈ (T s).take k, x ≠ 58) (fun j => s.size - (intOf j).toNat)
  case atStart => exact ⟨0, Nat.zero_le _, rfl, fun c hc => (by cases hc)⟩
  case round =>
    obtain ⟨k, hk, rfl, hno⟩ := hrel
    by_cases hks : k < s.size
    · by_cases h58 : (s[k].toNat : Int) = 58
      · have h58' : ((s[k].toNat : Int) == 58) = true := beq_it h58
        have hp := parseR_at hks hno ((u8_eq _ 58 (by omega)).2 (by omega))
        have e1 : T (s.extract 0 k) = (T s).take k := T_head s k
        have e2 : T (s.extract (k + 1) s.size) = (T s).drop (k + 1) := T_tail s (k + 1)
        have r1 := fun W => read_any (s.extract 0 k) W (by simp; omega)
        have r2 := fun W => read_any (s.extract (k + 1) s.size) W (by simp; omega)
        rw [e1] at r1
        rw [e2] at r2
        have b1 : rdI ((T s).take k) ≤ 65535 ∧ -1 ≤ rdI ((T s).take k) := by unfold rdI; split <;> omega
        have b2 : rdI ((T s).drop (k + 1)) ≤ 65535 ∧ -1 ≤ rdI ((T s).drop (k + 1)) := by unfold rdI; split <;> omega
        unfold pairR at hp
        generalize rdI ((T s).take k) = m at *
        generalize rdI ((T s).drop (k + 1)) = n at *
        have HP := hide hp
        have R1 := hide r1
        have R2 := hide r2
        clear hp r1 r2 e1 e2 hno h58
        have hk1 : (k : Int) + 1 ≤ (s.size : Int) := by omega
        go_wp2_with fail
        refine (R1.out _).mono ?_; rintro e w1 ⟨rfl, hb1⟩
        have HB1 := hide hb1
        clear hb1
        go_wp2_with fail
        refine (R2.out _).mono ?_; rintro e w2 ⟨rfl, hb2⟩
        have HB2 := hide (below_wide HB1.out hb2)
        clear hb2
        by_cases hm : m < 0
        · have t1 : decide (m < 0) = true := by simpa using hm
          go_wp2_with fail
          go_ret2
          exact ⟨by rw [HP.out, if_pos (.inl hm)]; rfl, HB2.out⟩
        have t1 : decide (m < 0) = false := by simpa using hm
        by_cases hn : n < 0
        · have t2 : decide (n < 0) = true := by simpa using hn
          go_wp2_with fail
          go_ret2
          exact ⟨by rw [HP.out, if_pos (.inr hn)]; rfl, HB2.out⟩
        have t2 : decide (n < 0) = false := by simpa using hn
        obtain ⟨m, rfl⟩ := Int.eq_ofNat_of_zero_le (by omega : 0 ≤ m)
        obtain ⟨n, rfl⟩ := Int.eq_ofNat_of_zero_le (by omega : 0 ≤ n)
        go_wp2_with fail
        go_ret2
        refine ⟨?_, HB2.out⟩
        rw [HP.out, if_neg (by omega)]
        show Ending.returned (.tuple #[.int .u32 (65536 * (m : Int) + (n : Int)), .int .i64 0]) = .returned (.tuple #[.int .u32 (((65536 * (m : Int) + (n : Int)).toNat : Nat) : Int), .int .i64 0])
        rw [Int.toNat_of_nonneg (by omega)]
      · have h58' : ((s[k].toNat : Int) == 58) = false := beq_if h58
        have hno' : ∀ x ∈ (T s).take (k + 1), x ≠ 58 := by
          intro x hx
          rw [T_take s k hks] at hx
          rcases List.mem_append.1 hx with hx | hx
          · exact hno x hx
          · have : x = s[k] := by simpa using hx
            rw [this]
            exact fun e => h58 (by have := (u8_eq s[k] 58 (by omega)).1 e; omega)
        have HNO := hide hno'
        clear hno hno' h58
        go_wp2_with fail
        go_round
        case rel => exact ⟨k + 1, by omega, by go_num, HNO.out⟩
        case measure => simp [intOf]; omega
    · have HP : Hid (parseR (T s) = none) := parseR_no _ (fun x hx => hno x (by rw [List.take_of_length_le (by rw [T_len]; omega)]; exact hx))
      clear hno
      go_wp2_with fail
      go_ret2
      exact ⟨by rw [HP.out]; rfl, Below.refl _ _⟩
end Go.Proofs.YtopckpjhdbjmbaaDoor.Ld
