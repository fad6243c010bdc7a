import Derived.Test.YtihmmmodimionaaDoorA
namespace Go.Proofs.YtihmmmodimionaaDoor.Lx
open Go.RowKit

theorem adv_take (b : ByteArray) (k : Nat) (h : k < b.size) (l c : Int) : adv ((T b).take (k + 1)) l c = if b[k] = 10 then ((adv ((T b).take k) l c).1 + 1, 1) else ((adv ((T b).take k) l c).1, (adv ((T b).take k) l c).2 + 1) := by
  rw [T_take b k h, adv_snoc]

set_option maxHeartbeats 1000000 in
theorem at_any (s : ByteArray) (i : Nat) (w : World) (hi : i ≤ s.size) (hs : s.size ≤ 65536) :
    Calls Tryd.prog 39 #[.string s, .int .i64 i] w fun e w' => e = .returned (.agg #[.int .i64 (adv ((T s).take i) 1 1).1, .int .i64 (adv ((T s).take i) 1 1).2]) ∧ Below w.heap.size w w' := by
  go_enter Tryd.func39, Tryd.ntmps39
  go_wp2
  go_loopw [6] (fun j wr => ∃ (k : Nat) (l c : Int), k ≤ i ∧ j = .int .i64 k ∧ 1 ≤ l ∧ l ≤ k + 1 ∧ 1 ≤ c ∧ c ≤ k + 1 ∧ Below w.heap.size w wr ∧ PosR wr w.heap.size 0 0 ∧ PosR wr (w.heap.size + 1) l c ∧ adv ((T s).take k) 1 1 = (l, c)) (fun j _ => i - (intOf j).toNat)
  case atStart =>
    refine ⟨0, 1, 1, Nat.zero_le _, rfl, by omega, by omega, by omega, by omega, by go_grown, ?_, ?_, rfl⟩
    · exact heap_old (heap_new w _)
    · exact heap_new2 w _ _
  case round =>
    obtain ⟨k, l, c, hk, rfl, hl1, hl2, hc1, hc2, hb, hp, hq, hf⟩ := hrel
    have p0 := cell_heap (j := 0) hp rfl
    have p1 := cell_heap (j := 1) hp rfl
    have q0 := cell_heap (j := 0) hq rfl
    have q1 := cell_heap (j := 1) hq rfl
    have fp0 := frozen_heap (j := 0) hp
    have fp1 := frozen_heap (j := 1) hp
    have fq0 := frozen_heap (j := 0) hq
    have fq1 := frozen_heap (j := 1) hq
    have HP := hide hp
    have HQ := hide hq
    have HB := hide hb
    clear hp hq hb
    by_cases hlt : k < i
    · have hd := adv_take s k (by omega) 1 1
      rw [hf] at hd
      clear hf
      by_cases h3 : s[k] = 10
      · have h3' : ((s[k].toNat : Int) == 10) = true := beq_it (by have := (eq10 _).1 h3; omega)
        rw [if_pos h3] at hd
        have HD := hide hd
        clear h3 hd
        go_wp2
        go_roundw
        case rel =>
          refine ⟨k + 1, l + 1, 1, by omega, by go_num, by omega, by omega, by omega, by omega, ?_, ?_, ?_, HD.out⟩
          · exact ((HB.out.setCell (p := ⟨w.heap.size + 1, 1, none⟩) (by simp) _).setCell (p := ⟨w.heap.size + 1, 0, none⟩) (by simp) _).setCell (p := ⟨w.heap.size + 1, 1, none⟩) (by simp) _
          · exact heap_far (heap_far (heap_far HP.out (by simp)) (by simp)) (by simp)
          · exact heap_set (heap_set (heap_set HQ.out))
        case measure => simp [intOf]; omega
      · have h3' : ((s[k].toNat : Int) == 10) = false := beq_if (by intro e; exact h3 ((eq10 _).2 (by omega)))
        rw [if_neg h3] at hd
        have HD := hide hd
        clear h3 hd
        go_wp2
        go_roundw
        case rel =>
          refine ⟨k + 1, l, c + 1, by omega, by go_num, by omega, by omega, by omega, by omega, ?_, ?_, ?_, HD.out⟩
          · exact HB.out.setCell (p := ⟨w.heap.size + 1, 1, none⟩) (by simp) _
          · exact heap_far HP.out (by simp)
          · exact heap_set HQ.out
        case measure => simp [intOf]; omega
    · obtain rfl : k = i := by omega
      have HF := hide hf
      clear hf
      go_wp2
      refine bodyPost_ret (v := .agg #[.int .i64 l, .int .i64 c]) (by simp [results, Tryd.results39, go_sem, p0, p1]) rfl ⟨by rw [HF.out], ?_⟩
      exact (HB.out.setCell (p := ⟨w.heap.size, 0, none⟩) (Nat.le_refl _) _).setCell (p := ⟨w.heap.size, 1, none⟩) (Nat.le_refl _) _

theorem chkL_drop (b : ByteArray) (k : Nat) (h : k < b.size) (l c : Int) : chkL ((T b).drop k) l c = if 4096 < l then (l, c, 3) else if b[k] = 10 then chkL ((T b).drop (k + 1)) (l + 1) 1 else if b[k].toNat < 32 ∨ 126 < b[k].toNat then (l, c, 70) else chkL ((T b).drop (k + 1)) l (c + 1) := by
  rw [T_drop b k h, chkL]

set_option maxHeartbeats 1000000 in
theorem ref_check (s : ByteArray) (w : World) (hs : s.size ≤ maxLen) :
    Calls Tryd.prog 25 #[.string s] w fun e w' => e = .returned (.tuple #[.agg #[.int .i64 (chk (T s)).1, .int .i64 (chk (T s)).2.1], .int .i64 (chk (T s)).2.2]) ∧ Below w.heap.size w w' := by
  unfold maxLen at hs
  by_cases h1 : 65536 < s.size
  · have HC : Hid (chk (T s) = (0, 0, 3)) := by show _ = _; unfold chk; rw [T_len, if_pos h1]
    go_enter Tryd.func25, Tryd.ntmps25
    go_wp2
    go_returns
    exact ⟨by rw [HC.out], by go_grown⟩
  · have HC : Hid (chk (T s) = chkL (T s) 1 1) := by show _ = _; unfold chk; rw [T_len, if_neg h1]
    go_enter Tryd.func25, Tryd.ntmps25
    go_wp2
    go_loopw [4, 5] (fun x j wr => ∃ (k : Nat) (l c : Int), k ≤ s.size ∧ j = .int .i64 k ∧ x = .int .i64 l ∧ 1 ≤ l ∧ l ≤ k + 1 ∧ Below w.heap.size w wr ∧ PosR wr w.heap.size 0 0 ∧ adv ((T s).take k) 1 1 = (l, c) ∧ chkL (T s) 1 1 = chkL ((T s).drop k) l c) (fun _ j _ => s.size - (intOf j).toNat)
    case atStart =>
      exact ⟨0, 1, 1, Nat.zero_le _, rfl, rfl, by omega, by omega, by go_grown, heap_new w _, rfl, rfl⟩
    case round =>
      obtain ⟨k, l, c, hk, rfl, rfl, hl1, hl2, hb, hp, hf, hg⟩ := hrel
      have p0 := cell_heap (j := 0) hp rfl
      have p1 := cell_heap (j := 1) hp rfl
      have fp0 := frozen_heap (j := 0) hp
      have fp1 := frozen_heap (j := 1) hp
      have HP := hide hp
      have HB := hide hb
      have HAT := hide (at_any s k)
      clear hp hb
      by_cases hlt : k < s.size
      · have hd := chkL_drop s k hlt l c
        rw [← hg] at hd
        have hn := adv_take s k hlt 1 1
        rw [hf] at hn
        have HF := hide hf
        clear hg hf
        by_cases h2 : 4096 < l
        · rw [if_pos h2] at hd
          have HD := hide hd
          clear hd hn
          go_wp2_with fail
          refine (HAT.out _ hk (by omega)).mono ?_; rintro e w1 ⟨rfl, hb1⟩
          have hp1 : PosR w1 w.heap.size 0 0 := heapB hb1 HP.out
          have p0 := cell_heap (j := 0) hp1 rfl
          have p1 := cell_heap (j := 1) hp1 rfl
          have fp0 := frozen_heap (j := 0) hp1
          have fp1 := frozen_heap (j := 1) hp1
          have HB1 := hide (below_wide HB.out hb1)
          rw [HF.out]
          clear hp1 hb1
          go_wp2_with fail
          refine bodyPost_ret (v := .tuple #[.agg #[.int .i64 l, .int .i64 c], .int .i64 3]) (by simp [results, Tryd.results25, go_sem, p0, p1]) rfl ⟨by rw [HC.out, HD.out], ?_⟩
          exact (HB1.out.setCell (p := ⟨w.heap.size, 0, none⟩) (Nat.le_refl _) _).setCell (p := ⟨w.heap.size, 1, none⟩) (Nat.le_refl _) _
        · by_cases h3 : s[k] = 10
          · have h3' : ((s[k].toNat : Int) == 10) = true := beq_it (by have := (eq10 _).1 h3; omega)
            rw [if_neg h2, if_pos h3] at hd
            rw [if_pos h3] at hn
            have HD := hide hd
            have HN := hide hn
            clear h3 hd hn
            go_wp2_with fail
            go_roundw
            case rel => exact ⟨k + 1, l + 1, 1, by omega, by go_num, rfl, by omega, by omega, HB.out, HP.out, HN.out, HD.out⟩
            case measure => simp [intOf]; omega
          · have h3' : ((s[k].toNat : Int) == 10) = false := beq_if (by intro e; exact h3 ((eq10 _).2 (by omega)))
            rw [if_neg h3] at hn
            by_cases h4 : s[k].toNat < 32 ∨ 126 < s[k].toNat
            · rw [if_neg h2, if_neg h3, if_pos h4] at hd
              have HD := hide hd
              clear h3 hd hn
              by_cases h5 : (s[k].toNat : Int) < 32
              · have h5' : decide ((s[k].toNat : Int) < 32) = true := by simp; omega
                go_wp2_with fail
                refine (HAT.out _ hk (by omega)).mono ?_; rintro e w1 ⟨rfl, hb1⟩
                have hp1 : PosR w1 w.heap.size 0 0 := heapB hb1 HP.out
                have p0 := cell_heap (j := 0) hp1 rfl
                have p1 := cell_heap (j := 1) hp1 rfl
                have fp0 := frozen_heap (j := 0) hp1
                have fp1 := frozen_heap (j := 1) hp1
                have HB1 := hide (below_wide HB.out hb1)
                rw [HF.out]
                clear hp1 hb1
                go_wp2_with fail
                refine bodyPost_ret (v := .tuple #[.agg #[.int .i64 l, .int .i64 c], .int .i64 70]) (by simp [results, Tryd.results25, go_sem, p0, p1]) rfl ⟨by rw [HC.out, HD.out], ?_⟩
                exact (HB1.out.setCell (p := ⟨w.heap.size, 0, none⟩) (Nat.le_refl _) _).setCell (p := ⟨w.heap.size, 1, none⟩) (Nat.le_refl _) _
              · have h5' : decide ((s[k].toNat : Int) < 32) = false := by simp; omega
                have h6 : decide ((126 : Int) < (s[k].toNat : Int)) = true := by simp; omega
                go_wp2_with fail
                refine (HAT.out _ hk (by omega)).mono ?_; rintro e w1 ⟨rfl, hb1⟩
                have hp1 : PosR w1 w.heap.size 0 0 := heapB hb1 HP.out
                have p0 := cell_heap (j := 0) hp1 rfl
                have p1 := cell_heap (j := 1) hp1 rfl
                have fp0 := frozen_heap (j := 0) hp1
                have fp1 := frozen_heap (j := 1) hp1
                have HB1 := hide (below_wide HB.out hb1)
                rw [HF.out]
                clear hp1 hb1
                go_wp2_with fail
                refine bodyPost_ret (v := .tuple #[.agg #[.int .i64 l, .int .i64 c], .int .i64 70]) (by simp [results, Tryd.results25, go_sem, p0, p1]) rfl ⟨by rw [HC.out, HD.out], ?_⟩
                exact (HB1.out.setCell (p := ⟨w.heap.size, 0, none⟩) (Nat.le_refl _) _).setCell (p := ⟨w.heap.size, 1, none⟩) (Nat.le_refl _) _
            · rw [if_neg h2, if_neg h3, if_neg h4] at hd
              have h5' : decide ((s[k].toNat : Int) < 32) = false := by simp; omega
              have h6 : decide ((126 : Int) < (s[k].toNat : Int)) = false := by simp; omega
              have HD := hide hd
              have HN := hide hn
              clear h3 h4 hd hn
              go_wp2_with fail
              go_roundw
              case rel => exact ⟨k + 1, l, c + 1, by omega, by go_num, rfl, by omega, by omega, HB.out, HP.out, HN.out, HD.out⟩
              case measure => simp [intOf]; omega
      · have HF : Hid (chkL (T s) 1 1 = (0, 0, 0)) := by
          show _ = _
          rw [hg, List.drop_eq_nil_of_le (by rw [T_len]; omega)]; rfl
        clear hf hg
        go_wp2_with fail
        refine bodyPost_ret (v := .tuple #[.agg #[.int .i64 0, .int .i64 0], .int .i64 0]) (by simp [results, Tryd.results25, go_sem, p0, p1]) rfl ⟨by rw [HC.out, HF.out], ?_⟩
        exact (HB.out.setCell (p := ⟨w.heap.size, 0, none⟩) (Nat.le_refl _) _).setCell (p := ⟨w.heap.size, 1, none⟩) (Nat.le_refl _) _
end Go.Proofs.YtihmmmodimionaaDoor.Lx
