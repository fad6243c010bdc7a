import Derived.Test.YtopckpjhdbjmbaaA
namespace Go.Proofs.Ytopckpjhdbjmbaa.Ld
open Go.RowKit

set_option maxHeartbeats 400000 in
theorem rwithin_any (a b c d : Int) (w : World) (ha : 0 ≤ a) (ha2 : a ≤ 4294967295) (hc : 0 ≤ c) (hc2 : c ≤ 4294967295) :
    Calls Try.prog 25 #[.agg #[.int .u32 a, .int .i64 b], .agg #[.int .u32 c, .int .i64 d]] w fun e w' => e = .returned (.bool (withB a b c d)) ∧ Below w.heap.size w w' := by
  by_cases hk : chk a b = 0
  · have hB : (chk a b == 0) = true := by simp [hk]
    clear hk
    by_cases hk2 : chk c d = 0
    · have hB2 : (chk c d == 0) = true := by simp [hk2]
      clear hk2
      by_cases hd : d ≤ b
      · have HI : Hid (withB a b c d = inB a c d) := by show _ = _; simp [withB, hB, hd]
        go_enter Try.func25, Try.ntmps25
        go_wp2_with fail
        refine (rcheck_any _ _ _ ha ha2).mono ?_; rintro e w1 ⟨rfl, hb1⟩
        have c0 := cellB (a := ⟨w.heap.size, 0, none⟩) (v := .int .u32 a) hb1 (by simp); have c1 := cellB (a := ⟨w.heap.size, 1, none⟩) (v := .int .i64 b) hb1 (by simp); have d0 := cellB (a := ⟨w.heap.size + 1, 0, none⟩) (v := .int .u32 c) hb1 (by simp); have d1 := cellB (a := ⟨w.heap.size + 1, 1, none⟩) (v := .int .i64 d) hb1 (by simp)
        go_wp2_with fail
        refine (rcheck_any _ _ _ hc hc2).mono ?_; rintro e w2 ⟨rfl, hb2⟩
        have c0' := cellB hb2 c0; have c1' := cellB hb2 c1; have d0' := cellB hb2 d0; have d1' := cellB hb2 d1
        clear c0 c1 d0 d1
        go_wp2_with fail
        refine (rin_any _ _ _ _ ha ha2 hc hc2).mono ?_; rintro e w3 ⟨rfl, hb3⟩
        go_wp2_with fail
        go_ret
        exact ⟨ret_bool HI.out.symm, (bel_two w _ _).trans ((below_wide (below_wide hb1 hb2) hb3).mono (by simp; omega))⟩
      · have HI : Hid (withB a b c d = false) := by show _ = _; simp [withB, hd]
        have hd2 : decide (d ≤ b) = false := by simpa using hd
        go_enter Try.func25, Try.ntmps25
        go_wp2_with fail
        refine (rcheck_any _ _ _ ha ha2).mono ?_; rintro e w1 ⟨rfl, hb1⟩
        have c0 := cellB (a := ⟨w.heap.size, 0, none⟩) (v := .int .u32 a) hb1 (by simp); have c1 := cellB (a := ⟨w.heap.size, 1, none⟩) (v := .int .i64 b) hb1 (by simp); have d0 := cellB (a := ⟨w.heap.size + 1, 0, none⟩) (v := .int .u32 c) hb1 (by simp); have d1 := cellB (a := ⟨w.heap.size + 1, 1, none⟩) (v := .int .i64 d) hb1 (by simp)
        go_wp2_with fail
        refine (rcheck_any _ _ _ hc hc2).mono ?_; rintro e w2 ⟨rfl, hb2⟩
        have c0' := cellB hb2 c0; have c1' := cellB hb2 c1; have d0' := cellB hb2 d0; have d1' := cellB hb2 d1
        clear c0 c1 d0 d1
        go_wp2_with fail
        go_ret
        exact ⟨ret_bool HI.out.symm, (bel_two w _ _).trans ((below_wide hb1 hb2).mono (by simp; omega))⟩
    · have hB2 : (chk c d == 0) = false := by simp [hk2]
      have HI : Hid (withB a b c d = false) := by show _ = _; simp [withB, inB, hB2]
      clear hk2
      go_enter Try.func25, Try.ntmps25
      go_wp2_with fail
      refine (rcheck_any _ _ _ ha ha2).mono ?_; rintro e w1 ⟨rfl, hb1⟩
      have c0 := cellB (a := ⟨w.heap.size, 0, none⟩) (v := .int .u32 a) hb1 (by simp); have c1 := cellB (a := ⟨w.heap.size, 1, none⟩) (v := .int .i64 b) hb1 (by simp); have d0 := cellB (a := ⟨w.heap.size + 1, 0, none⟩) (v := .int .u32 c) hb1 (by simp); have d1 := cellB (a := ⟨w.heap.size + 1, 1, none⟩) (v := .int .i64 d) hb1 (by simp)
      go_wp2_with fail
      refine (rcheck_any _ _ _ hc hc2).mono ?_; rintro e w2 ⟨rfl, hb2⟩
      go_wp2_with fail
      go_ret
      exact ⟨ret_bool HI.out.symm, (bel_two w _ _).trans ((below_wide hb1 hb2).mono (by simp; omega))⟩
  · have hB : (chk a b == 0) = false := by simp [hk]
    have HI : Hid (withB a b c d = false) := by show _ = _; simp [withB, hB]
    clear hk
    go_enter Try.func25, Try.ntmps25
    go_wp2_with fail
    refine (rcheck_any _ _ _ ha ha2).mono ?_; rintro e w1 ⟨rfl, hb1⟩
    go_wp2_with fail
    go_ret
    exact ⟨ret_bool HI.out.symm, (bel_two w _ _).trans (hb1.mono (by simp; omega))⟩

def fitsB (c d ge le a b : Int) : Bool := withB a b c d && decide (ge ≤ b) && decide (b ≤ le)

set_option maxHeartbeats 400000 in
theorem fits_any (pm : Bool) (c d ge le a b : Int) (w : World) (ha : 0 ≤ a) (ha2 : a ≤ 4294967295) (hc : 0 ≤ c) (hc2 : c ≤ 4294967295) :
    Calls Try.prog 14 #[.agg #[.bool pm, .int .u32 c, .int .i64 d, .int .i64 ge, .int .i64 le], .agg #[.int .u32 a, .int .i64 b]] w fun e w' => e = .returned (.bool (fitsB c d ge le a b)) ∧ Below w.heap.size w w' := by
  cases hW : withB a b c d
  · have HI : Hid (fitsB c d ge le a b = false) := by show _ = _; simp [fitsB, hW]
    go_enter Try.func14, Try.ntmps14
    go_wp2_with fail
    refine (within_any _ _ _ _ _ ha ha2 hc hc2).mono ?_; rintro e w1 ⟨rfl, hb1⟩
    have e2 := cellB (a := ⟨w.heap.size, 2, none⟩) (v := .int .i64 d) hb1 (by simp); have e3 := cellB (a := ⟨w.heap.size, 3, none⟩) (v := .int .i64 ge) hb1 (by simp); have e4 := cellB (a := ⟨w.heap.size, 4, none⟩) (v := .int .i64 le) hb1 (by simp); have c1 := cellB (a := ⟨w.heap.size + 1, 1, none⟩) (v := .int .i64 b) hb1 (by simp)
    go_wp2_with fail
    go_ret
    exact ⟨ret_bool HI.out.symm, (bel_two w _ _).trans (hb1.mono (by simp; omega))⟩
  · by_cases h1 : ge ≤ b
    · have HI : Hid (fitsB c d ge le a b = decide (b ≤ le)) := by show _ = _; simp [fitsB, hW, h1]
      go_enter Try.func14, Try.ntmps14
      go_wp2_with fail
      refine (within_any _ _ _ _ _ ha ha2 hc hc2).mono ?_; rintro e w1 ⟨rfl, hb1⟩
      have e2 := cellB (a := ⟨w.heap.size, 2, none⟩) (v := .int .i64 d) hb1 (by simp); have e3 := cellB (a := ⟨w.heap.size, 3, none⟩) (v := .int .i64 ge) hb1 (by simp); have e4 := cellB (a := ⟨w.heap.size, 4, none⟩) (v := .int .i64 le) hb1 (by simp); have c1 := cellB (a := ⟨w.heap.size + 1, 1, none⟩) (v := .int .i64 b) hb1 (by simp)
      go_wp2_with fail
      go_ret
      exact ⟨ret_bool HI.out.symm, (bel_two w _ _).trans (hb1.mono (by simp; omega))⟩
    · have HI : Hid (fitsB c d ge le a b = false) := by show _ = _; simp [fitsB, h1]
      have h2 : decide (ge ≤ b) = false := by simpa using h1
      go_enter Try.func14, Try.ntmps14
      go_wp2_with fail
      refine (within_any _ _ _ _ _ ha ha2 hc hc2).mono ?_; rintro e w1 ⟨rfl, hb1⟩
      have e2 := cellB (a := ⟨w.heap.size, 2, none⟩) (v := .int .i64 d) hb1 (by simp); have e3 := cellB (a := ⟨w.heap.size, 3, none⟩) (v := .int .i64 ge) hb1 (by simp); have e4 := cellB (a := ⟨w.heap.size, 4, none⟩) (v := .int .i64 le) hb1 (by simp); have c1 := cellB (a := ⟨w.heap.size + 1, 1, none⟩) (v := .int .i64 b) hb1 (by simp)
      go_wp2_with fail
      go_ret
      exact ⟨ret_bool HI.out.symm, (bel_two w _ _).trans (hb1.mono (by simp; omega))⟩

set_option maxHeartbeats 400000 in
theorem rfits_any (pm : Bool) (c d ge le a b : Int) (w : World) (ha : 0 ≤ a) (ha2 : a ≤ 4294967295) (hc : 0 ≤ c) (hc2 : c ≤ 4294967295) :
    Calls Try.prog 15 #[.agg #[.bool pm, .int .u32 c, .int .i64 d, .int .i64 ge, .int .i64 le], .agg #[.int .u32 a, .int .i64 b]] w fun e w' => e = .returned (.bool (fitsB c d ge le a b)) ∧ Below w.heap.size w w' := by
  cases hW : withB a b c d
  · have HI : Hid (fitsB c d ge le a b = false) := by show _ = _; simp [fitsB, hW]
    go_enter Try.func15, Try.ntmps15
    go_wp2_with fail
    refine (rwithin_any _ _ _ _ _ ha ha2 hc hc2).mono ?_; rintro e w1 ⟨rfl, hb1⟩
    have e2 := cellB (a := ⟨w.heap.size, 2, none⟩) (v := .int .i64 d) hb1 (by simp); have e3 := cellB (a := ⟨w.heap.size, 3, none⟩) (v := .int .i64 ge) hb1 (by simp); have e4 := cellB (a := ⟨w.heap.size, 4, none⟩) (v := .int .i64 le) hb1 (by simp); have c1 := cellB (a := ⟨w.heap.size + 1, 1, none⟩) (v := .int .i64 b) hb1 (by simp)
    go_wp2_with fail
    go_ret
    exact ⟨ret_bool HI.out.symm, (bel_two w _ _).trans (hb1.mono (by simp; omega))⟩
  · by_cases h1 : ge ≤ b
    · have HI : Hid (fitsB c d ge le a b = decide (b ≤ le)) := by show _ = _; simp [fitsB, hW, h1]
      go_enter Try.func15, Try.ntmps15
      go_wp2_with fail
      refine (rwithin_any _ _ _ _ _ ha ha2 hc hc2).mono ?_; rintro e w1 ⟨rfl, hb1⟩
      have e2 := cellB (a := ⟨w.heap.size, 2, none⟩) (v := .int .i64 d) hb1 (by simp); have e3 := cellB (a := ⟨w.heap.size, 3, none⟩) (v := .int .i64 ge) hb1 (by simp); have e4 := cellB (a := ⟨w.heap.size, 4, none⟩) (v := .int .i64 le) hb1 (by simp); have c1 := cellB (a := ⟨w.heap.size + 1, 1, none⟩) (v := .int .i64 b) hb1 (by simp)
      go_wp2_with fail
      go_ret
      exact ⟨ret_bool HI.out.symm, (bel_two w _ _).trans (hb1.mono (by simp; omega))⟩
    · have HI : Hid (fitsB c d ge le a b = false) := by show _ = _; simp [fitsB, h1]
      have h2 : decide (ge ≤ b) = false := by simpa using h1
      go_enter Try.func15, Try.ntmps15
      go_wp2_with fail
      refine (rwithin_any _ _ _ _ _ ha ha2 hc hc2).mono ?_; rintro e w1 ⟨rfl, hb1⟩
      have e2 := cellB (a := ⟨w.heap.size, 2, none⟩) (v := .int .i64 d) hb1 (by simp); have e3 := cellB (a := ⟨w.heap.size, 3, none⟩) (v := .int .i64 ge) hb1 (by simp); have e4 := cellB (a := ⟨w.heap.size, 4, none⟩) (v := .int .i64 le) hb1 (by simp); have c1 := cellB (a := ⟨w.heap.size + 1, 1, none⟩) (v := .int .i64 b) hb1 (by simp)
      go_wp2_with fail
      go_ret
      exact ⟨ret_bool HI.out.symm, (bel_two w _ _).trans (hb1.mono (by simp; omega))⟩
end Go.Proofs.Ytopckpjhdbjmbaa.Ld
