import Derived.Test.YtopckpjhdbjmbaaDoorZA
namespace Go.Proofs.YtopckpjhdbjmbaaDoor.Ld
open Go.RowKit

def fitsB (c d ge le a b : Int) : Bool := withB a b c d && decide (ge ≤ b) && decide (b ≤ le)

set_option maxHeartbeats 400000 in
theorem fits_any (pm : Bool) (c d ge le a b : Int) (w : World) (ha : 0 ≤ a) (ha2 : a ≤ 4294967295) (hc : 0 ≤ c) (hc2 : c ≤ 4294967295) :
    Calls Tryd.prog 33 #[.agg #[.bool pm, .int .u32 c, .int .i64 d, .int .i64 ge, .int .i64 le], .agg #[.int .u32 a, .int .i64 b]] w fun e w' => e = .returned (.bool (fitsB c d ge le a b)) ∧ Below w.heap.size w w' := by
  cases hW : withB a b c d
  · have HI : Hid (fitsB c d ge le a b = false) := by show _ = _; simp [fitsB, hW]
    go_enter Tryd.func33, Tryd.ntmps33
    go_wp2_with fail
    refine (within_any _ _ _ _ _ ha ha2 hc hc2).mono ?_; rintro e w1 ⟨rfl, hb1⟩
    have e2 := cellB (a := ⟨w.heap.size, 2, none⟩) (v := .int .i64 d) hb1 (by simp); have e3 := cellB (a := ⟨w.heap.size, 3, none⟩) (v := .int .i64 ge) hb1 (by simp); have e4 := cellB (a := ⟨w.heap.size, 4, none⟩) (v := .int .i64 le) hb1 (by simp); have c1 := cellB (a := ⟨w.heap.size + 1, 1, none⟩) (v := .int .i64 b) hb1 (by simp)
    go_wp2_with fail
    go_ret
    exact ⟨ret_bool HI.out.symm, (bel_two w _ _).trans (hb1.mono (by simp; omega))⟩
  · by_cases h1 : ge ≤ b
    · have HI : Hid (fitsB c d ge le a b = decide (b ≤ le)) := by show _ = _; simp [fitsB, hW, h1]
      go_enter Tryd.func33, Tryd.ntmps33
      go_wp2_with fail
      refine (within_any _ _ _ _ _ ha ha2 hc hc2).mono ?_; rintro e w1 ⟨rfl, hb1⟩
      have e2 := cellB (a := ⟨w.heap.size, 2, none⟩) (v := .int .i64 d) hb1 (by simp); have e3 := cellB (a := ⟨w.heap.size, 3, none⟩) (v := .int .i64 ge) hb1 (by simp); have e4 := cellB (a := ⟨w.heap.size, 4, none⟩) (v := .int .i64 le) hb1 (by simp); have c1 := cellB (a := ⟨w.heap.size + 1, 1, none⟩) (v := .int .i64 b) hb1 (by simp)
      go_wp2_with fail
      go_ret
      exact ⟨ret_bool HI.out.symm, (bel_two w _ _).trans (hb1.mono (by simp; omega))⟩
    · have HI : Hid (fitsB c d ge le a b = false) := by show _ = _; simp [fitsB, h1]
      have h2 : decide (ge ≤ b) = false := by simpa using h1
      go_enter Tryd.func33, Tryd.ntmps33
      go_wp2_with fail
      refine (within_any _ _ _ _ _ ha ha2 hc hc2).mono ?_; rintro e w1 ⟨rfl, hb1⟩
      have e2 := cellB (a := ⟨w.heap.size, 2, none⟩) (v := .int .i64 d) hb1 (by simp); have e3 := cellB (a := ⟨w.heap.size, 3, none⟩) (v := .int .i64 ge) hb1 (by simp); have e4 := cellB (a := ⟨w.heap.size, 4, none⟩) (v := .int .i64 le) hb1 (by simp); have c1 := cellB (a := ⟨w.heap.size + 1, 1, none⟩) (v := .int .i64 b) hb1 (by simp)
      go_wp2_with fail
      go_ret
      exact ⟨ret_bool HI.out.symm, (bel_two w _ _).trans (hb1.mono (by simp; omega))⟩

end Go.Proofs.YtopckpjhdbjmbaaDoor.Ld
