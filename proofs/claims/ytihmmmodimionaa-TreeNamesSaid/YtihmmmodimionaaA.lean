import Derived.Test.YtihmmmodimionaaA0
import Derived.Test.YtihmmmodimionaaP
namespace Go.Proofs.Ytihmmmodimionaa.Lx
open Go.RowKit

abbrev Pos (l c : Int) : Obj := Obj.cells #[.int .i64 l, .int .i64 c] 24
abbrev PosR (w : World) (g : Nat) (l c : Int) : Prop := w.heap[g]? = some (.cells #[.int .i64 l, .int .i64 c] 24 (0, 0))

set_option maxHeartbeats 1000000 in
theorem check_any (s : ByteArray) (w : World) (hs : s.size ≤ maxLen) :
    Calls Try.prog 28 #[.string s] w fun e w' => e = .returned (.tuple #[.agg #[.int .i64 (chk (T s)).1, .int .i64 (chk (T s)).2.1], .int .i64 (chk (T s)).2.2]) ∧ Below w.heap.size w w' := by
  unfold maxLen at hs
  by_cases h1 : 65536 < s.size
  · have HC : Hid (chk (T s) = (0, 0, 3)) := by show _ = _; unfold chk; rw [T_len, if_pos h1]
    go_enter Try.func28, Try.ntmps28
    go_wp2
    go_returns
    exact ⟨by rw [HC.out], by go_grown⟩
  · have HC : Hid (chk (T s) = chkL (T s) 1 1) := by show _ = _; unfold chk; rw [T_len, if_neg h1]
    go_enter Try.func28, Try.ntmps28
    go_wp2
    go_loopw [13] (fun j wr => ∃ (k : Nat) (l c : Int), k ≤ s.size ∧ j = .int .i64 k ∧ 1 ≤ l ∧ l ≤ k + 1 ∧ 1 ≤ c ∧ c ≤ k + 1 ∧ Below w.heap.size w wr ∧ PosR wr w.heap.size 0 0 ∧ PosR wr (w.heap.size + 1) l c ∧ chkL (T s) 1 1 = chkL ((T s).drop k) l c) (fun j _ => s.size - (intOf j).toNat)
    case atStart =>
      refine ⟨0, 1, 1, Nat.zero_le _, rfl, by omega, by omega, by omega, by omega, by go_grown, ?_, ?_, rfl⟩
      · exact heap_old (heap_new w _)
      · exact heap_new2 w _ _
    case round =>
      obtain ⟨k, l, c, hk, rfl, hl1, hl2, hc1, hc2, hb, hp, hq, hf⟩ := hrel
      have p0 := cell_heap (j := 0) hp rfl
      have p1 := cell_heap (j := 1) hp rfl
      have q0 := cell_heap (j := 0) hq rfl
      have q1 := cell_heap (j := 1) hq rfl
      have fp0 := frozen_heap (j := 0) hp
      have fp1 := frozen_heap (j := 1) hp
      have fq0 := frozen_heap (j := 0) hq
      have fq1 := frozen_heap (j := 1) hq
      have HP := hide hp
      have HQ := hide hq
      have HB := hide hb
      clear hp hq hb
      by_cases hlt : k < s.size
      · have hd : Hid (chkL (T s) 1 1 = if 4096 < l then (l, c, 3) else if s[k] = 10 then chkL ((T s).drop (k + 1)) (l + 1) 1 else if s[k].toNat < 32 ∨ 126 < s[k].toNat then (l, c, 70) else chkL ((T s).drop (k + 1)) l (c + 1)) := by
          show _ = _
          rw [hf, T_drop s k hlt, chkL]
        clear hf
        by_cases h2 : 4096 < l
        · go_wp2
          refine bodyPost_ret (v := .tuple #[.agg #[.int .i64 l, .int .i64 c], .int .i64 3]) (by simp [results, Try.results28, go_sem, p0, p1]) rfl ⟨by rw [HC.out, hd.out, if_pos h2], ?_⟩
          exact (HB.out.setCell (Nat.le_refl _) _).setCell (Nat.le_refl _) _
        · by_cases h3 : s[k] = 10
          · have h3' : ((s[k].toNat : Int) == 10) = true := beq_it (by have := (eq10 _).1 h3; omega)
            rw [if_neg h2, if_pos h3] at hd
            clear h3
            go_wp2
            go_roundw
            case rel =>
              refine ⟨k + 1, l + 1, 1, by omega, by go_num, by omega, by omega, by omega, by omega, ?_, ?_, ?_, hd.out⟩
              · exact (HB.out.setCell (p := ⟨w.heap.size + 1, 0, none⟩) (by simp) _).setCell (p := ⟨w.heap.size + 1, 1, none⟩) (by simp) _
              · exact heap_far (heap_far HP.out (by simp)) (by simp)
              · exact heap_set (heap_set HQ.out)
            case measure => simp [intOf]; omega
          · have h3' : ((s[k].toNat : Int) == 10) = false := beq_if (by intro e; exact h3 ((eq10 _).2 (by omega)))
            by_cases h4 : s[k].toNat < 32 ∨ 126 < s[k].toNat
            · rw [if_neg h2, if_neg h3, if_pos h4] at hd
              clear h3
              by_cases h5 : (s[k].toNat : Int) < 32
              · go_wp2
                refine bodyPost_ret (v := .tuple #[.agg #[.int .i64 l, .int .i64 c], .int .i64 70]) (by simp [results, Try.results28, go_sem, p0, p1]) rfl ⟨by rw [HC.out, hd.out], ?_⟩
                exact (HB.out.setCell (p := ⟨w.heap.size, 0, none⟩) (Nat.le_refl _) _).setCell (p := ⟨w.heap.size, 1, none⟩) (Nat.le_refl _) _
              · have h5' : decide ((s[k].toNat : Int) < 32) = false := by simp; omega
                have h6 : (126 : Int) < (s[k].toNat : Int) := by omega
                go_wp2
                refine bodyPost_ret (v := .tuple #[.agg #[.int .i64 l, .int .i64 c], .int .i64 70]) (by simp [results, Try.results28, go_sem, p0, p1]) rfl ⟨by rw [HC.out, hd.out], ?_⟩
                exact (HB.out.setCell (p := ⟨w.heap.size, 0, none⟩) (Nat.le_refl _) _).setCell (p := ⟨w.heap.size, 1, none⟩) (Nat.le_refl _) _
            · rw [if_neg h2, if_neg h3, if_neg h4] at hd
              have h5' : decide ((s[k].toNat : Int) < 32) = false := by simp; omega
              have h6 : decide ((126 : Int) < (s[k].toNat : Int)) = false := by simp; omega
              clear h3 h4
              go_wp2
              go_roundw
              case rel =>
                refine ⟨k + 1, l, c + 1, by omega, by go_num, by omega, by omega, by omega, by omega, ?_, ?_, ?_, hd.out⟩
                · exact HB.out.setCell (p := ⟨w.heap.size + 1, 1, none⟩) (by simp) _
                · exact heap_far HP.out (by simp)
                · exact heap_set HQ.out
              case measure => simp [intOf]; omega
      · have HF : Hid (chkL (T s) 1 1 = (0, 0, 0)) := by
          show _ = _
          rw [hf, List.drop_eq_nil_of_le (by rw [T_len]; omega)]; rfl
        clear hf
        go_wp2
        refine bodyPost_ret (v := .tuple #[.agg #[.int .i64 0, .int .i64 0], .int .i64 0]) (by simp [results, Try.results28, go_sem, p0, p1]) rfl ⟨by rw [HC.out, HF.out], ?_⟩
        exact (HB.out.setCell (p := ⟨w.heap.size, 0, none⟩) (Nat.le_refl _) _).setCell (p := ⟨w.heap.size, 1, none⟩) (Nat.le_refl _) _
end Go.Proofs.Ytihmmmodimionaa.Lx
