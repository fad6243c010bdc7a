import Derived.Test.YtopckpjhdbjmbaaDoorZG
namespace Go.Proofs.YtopckpjhdbjmbaaDoor.Ld
open Go.RowKit

set_option maxHeartbeats 400000 in
theorem same_true (A : Option Addr) (n c : Nat) (A2 : Option Addr) (c2 : Nat) (z : Nat → Int) (w : World) (hn : n ≤ maxLen) (hz : Us w A n z) (hy : Us w A2 n z) :
    Calls Tryd.prog 10 #[.slice A n c, .slice A2 n c2] w fun e w' => e = .returned (.bool true) ∧ Below w.heap.size w w' := by
  unfold maxLen at hn
  have HE := hide hz
  have HY := hide hy
  clear hz hy
  go_enter Tryd.func10, Tryd.ntmps10
  go_wp2
  go_loopw [5] (fun j wr => ∃ k : Nat, k ≤ n ∧ j = .int .i64 k ∧ Below w.heap.size w wr) (fun j _ => n - (intOf j).toNat)
  case atStart => exact ⟨0, Nat.zero_le _, rfl, Below.refl _ _⟩
  case round =>
    obtain ⟨k, hk, rfl, hbr⟩ := hrel
    by_cases hlt : k < n
    · obtain ⟨bE, off, rfl, h0⟩ := (HE.out.below hbr) k hlt
      obtain ⟨bY, offY, rfl, g0⟩ := (HY.out.below hbr) k hlt
      have h0 := lat_cell h0
      have g0 := lat_cell g0
      go_wp2
      refine wp_region_lat (by kernel_rfl) (by kernel_rfl) ?_
      repeat (first | go_big_quiet_step ((fail)) | quiet_step ((fail)))
      refine wpQuiet_nil ?_
      intro _ hlat
      obtain ⟨wq, rfl⟩ := hlat
      go_wp2
      go_roundw
      case rel => exact ⟨k + 1, by omega, by go_num, below_wide hbr (lat_below _ _)⟩
      case measure => simp [intOf]; omega
    · go_wp2_with fail
      go_ret
      exact ⟨rfl, hbr⟩

/-- does the member that decides permit? -/
def pmtM (M : Nat → Mem) (r : Int) : Bool := decide (0 ≤ r) && (M r.toNat).pm

set_option maxHeartbeats 400000 in
theorem allows_any (nm : ByteArray) (A : Option Addr) (n c : Nat) (z : Nat → Int) (A2 : Option Addr) (n2 c2 : Nat) (M : Nat → Mem) (w : World) (hn : n ≤ maxLen) (hz : Us w A n z) (hn2 : n2 ≤ maxLen) (hM : Mems w A2 n2 M) :
    Calls Tryd.prog 18 #[.agg #[.string nm, .slice A2 n2 c2], .slice A n c] w fun e w' => e = .returned (.bool (pmtM M (firstI (memB z n M) 0 n2))) ∧ Below w.heap.size w w' := by
  unfold maxLen at hn2
  have hM2 := hM.below (bel_one w (OM nm A2 n2 c2))
  have hc := member_any nm A n c z A2 n2 c2 M (w.alloc (OM nm A2 n2 c2)) hn (hz.below (bel_one _ _)) (by unfold maxLen; omega) hM2
  have hlo := firstI_lo (memB z n M) n2 0
  generalize firstI (memB z n M) 0 n2 = r at *
  have HC := hide hc
  have HE := hide hM2
  clear hc hM hM2 hz
  by_cases hr : 0 ≤ r
  · obtain ⟨k, rfl⟩ := Int.eq_ofNat_of_zero_le hr
    have HP : Hid (pmtM M (k : Int) = (M k).pm) := by show _ = _; simp [pmtM]
    obtain ⟨bE, off, rfl, h0, h1, h2, h3⟩ := HE.out k (by omega)
    go_enter Tryd.func18, Tryd.ntmps18
    go_wp2_with fail
    refine HC.out.mono ?_; rintro e w1 ⟨rfl, hb1⟩
    have h0' := cellB hb1 h0
    have c1 := cellB (a := ⟨w.heap.size, 1, none⟩) (v := .slice (some ⟨bE, off, none⟩) n2 c2) hb1 (by simp [OM])
    clear h2
    rw [plc_eq]
    have hk2 : k < n2 := by omega
    go_wp2_with fail
    go_ret
    exact ⟨ret_bool HP.out.symm, (bel_one w _).trans (hb1.mono (by simp))⟩
  · have hr2 : decide (0 ≤ r) = false := by simpa using hr
    have HP : Hid (pmtM M r = false) := by show _ = _; simp [pmtM, hr2]
    go_enter Tryd.func18, Tryd.ntmps18
    go_wp2_with fail
    refine HC.out.mono ?_; rintro e w1 ⟨rfl, hb1⟩
    rw [plc_eq]
    go_wp2_with fail
    go_ret
    exact ⟨ret_bool HP.out.symm, (bel_one w _).trans (hb1.mono (by simp))⟩


end Go.Proofs.YtopckpjhdbjmbaaDoor.Ld
