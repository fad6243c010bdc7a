import Derived.Test.YtopckpjhdbjmbaaC
namespace Go.Proofs.Ytopckpjhdbjmbaa.Ld
open Go.RowKit

abbrev OL (nm : ByteArray) (A : Option Addr) (n c : Nat) : Obj := Obj.cells #[Value.string nm, Value.slice A n c] 30
set_option maxHeartbeats 400000 in
theorem rentry_any (nm : ByteArray) (A : Option Addr) (n c : Nat) (E : Nat → Ent) (a b : Int) (w : World) (hn : n ≤ maxLen) (hE : Ents w A n E) (ha : 0 ≤ a) (ha2 : a ≤ 4294967295) :
    Calls Try.prog 7 #[.agg #[.string nm, .slice A n c], .agg #[.int .u32 a, .int .i64 b]] w fun e w' => e = .returned (.int .i64 (firstI (fitE E a b) 0 n)) ∧ Below w.heap.size w w' := by
  unfold maxLen at hn
  have HE := hide (hE.below (bel_two w (OL nm A n c) (O2 a b)))
  clear hE
  go_enter Try.func7, Try.ntmps7
  go_wp2
  go_loopw [5] (fun j wr => ∃ k : Nat, k ≤ n ∧ j = .int .i64 k ∧ Below ((w.alloc (OL nm A n c)).alloc (O2 a b)).heap.size ((w.alloc (OL nm A n c)).alloc (O2 a b)) wr ∧ firstI (fitE E a b) 0 n = firstI (fitE E a b) k (n - k)) (fun j _ => n - (intOf j).toNat)
  case atStart => exact ⟨0, Nat.zero_le _, rfl, Below.refl _ _, rfl⟩
  case round =>
    obtain ⟨k, hk, rfl, hbr, hf⟩ := hrel
    have HF := hide hf
    clear hf
    have c1 := cellB (a := ⟨w.heap.size, 1, none⟩) (v := .slice A n c) hbr (by simp [OL, O2])
    by_cases hlt : k < n
    · have c2 := lat_cell c1
      have c3 := lat_cell (cellB (a := ⟨w.heap.size + 1, 0, none⟩) (v := .int .u32 a) hbr (by simp [OL, O2]))
      have c4 := lat_cell (cellB (a := ⟨w.heap.size + 1, 1, none⟩) (v := .int .i64 b) hbr (by simp [OL, O2]))
      obtain ⟨bE, off, rfl, h0, h1, h2, h3, h4, h5, h6⟩ := (HE.out.below hbr) k hlt
      have h0 := lat_cell h0
      have h1 := lat_cell h1
      have h2 := lat_cell h2
      have h3 := lat_cell h3
      have h4 := lat_cell h4
      have HS : Hid (firstI (fitE E a b) k (n - k) = if fitE E a b k then (k : Int) else firstI (fitE E a b) (k + 1) (n - (k + 1))) := by
        show _ = _
        rw [show n - k = (n - (k + 1)) + 1 by omega, firstI]
      have hcl := fun x => rfits_any (E k).pm (E k).c (E k).d (E k).ge (E k).le a b (lat wr x) ha ha2 h5 h6
      cases hfit : fitE E a b k
      · have hfit' : fitsB (E k).c (E k).d (E k).ge (E k).le a b = false := hfit
        rw [hfit'] at hcl
        have HC := hide hcl
        clear hcl hfit'
        go_wp2
        refine wp_region_lat (by kernel_rfl) (by kernel_rfl) ?_
        repeat (first | go_big_quiet_step ((go_at_call 15; exact calls_lat (HC.out _))) | quiet_step ((go_at_call 15; exact calls_lat (HC.out _))))
        refine wpQuiet_nil ?_
        intro _ hlat
        obtain ⟨wq, rfl⟩ := hlat
        go_wp2
        go_roundw
        case rel => exact ⟨k + 1, by omega, by go_num, below_wide hbr (lat_below _ _), by rw [HF.out, HS.out, hfit]; rfl⟩
        case measure => simp [intOf]; omega
      · have hfit' : fitsB (E k).c (E k).d (E k).ge (E k).le a b = true := hfit
        rw [hfit'] at hcl
        have HC := hide hcl
        clear hcl hfit'
        go_wp2
        refine wp_region_lat (by kernel_rfl) (by kernel_rfl) ?_
        repeat (first | go_big_quiet_step ((go_at_call 15; exact calls_lat (HC.out _))) | quiet_step ((go_at_call 15; exact calls_lat (HC.out _))))
        refine wpQuiet_nil ?_
        intro _ hlat
        obtain ⟨wq, rfl⟩ := hlat
        go_wp2
        go_ret
        exact ⟨ret_int (by rw [HF.out, HS.out, hfit]; rfl), (bel_two w _ _).trans ((below_wide hbr (lat_below _ _)).mono (by simp; omega))⟩
    · go_wp2_with fail
      go_ret
      exact ⟨ret_int (by rw [HF.out, show n - k = 0 by omega]; rfl), (bel_two w _ _).trans (hbr.mono (by simp; omega))⟩

/-- does the line that decides permit? -/
def pmt (E : Nat → Ent) (r : Int) : Bool := decide (0 ≤ r) && (E r.toNat).pm

set_option maxHeartbeats 400000 in
theorem permits_any (nm : ByteArray) (A : Option Addr) (n c : Nat) (E : Nat → Ent) (a b : Int) (w : World) (hn : n ≤ maxLen) (hE : Ents w A n E) (ha : 0 ≤ a) (ha2 : a ≤ 4294967295) :
    Calls Try.prog 9 #[.agg #[.string nm, .slice A n c], .agg #[.int .u32 a, .int .i64 b]] w fun e w' => e = .returned (.bool (pmt E (firstI (fitE E a b) 0 n))) ∧ Below w.heap.size w w' := by
  unfold maxLen at hn
  have hE2 := hE.below (bel_two w (OL nm A n c) (O2 a b))
  have hc := entry_any nm A n c E a b ((w.alloc (OL nm A n c)).alloc (O2 a b)) (by unfold maxLen; omega) hE2 ha ha2
  have hlo := firstI_lo (fitE E a b) n 0
  generalize firstI (fitE E a b) 0 n = r at *
  have HC := hide hc
  have HE := hide hE2
  clear hc hE hE2
  by_cases hr : 0 ≤ r
  · obtain ⟨k, rfl⟩ := Int.eq_ofNat_of_zero_le hr
    have HP : Hid (pmt E (k : Int) = (E k).pm) := by show _ = _; simp [pmt]
    obtain ⟨bE, off, rfl, h0, h1, h2, h3, h4, h5, h6⟩ := HE.out k (by omega)
    go_enter Try.func9, Try.ntmps9
    go_wp2_with fail
    refine HC.out.mono ?_; rintro e w1 ⟨rfl, hb1⟩
    have h0' := cellB hb1 h0
    have c1 := cellB (a := ⟨w.heap.size, 1, none⟩) (v := .slice (some ⟨bE, off, none⟩) n c) hb1 (by simp [OL, O2])
    rw [plc_eq]
    have hk2 : k < n := by omega
    go_wp2_with fail
    go_ret
    exact ⟨ret_bool HP.out.symm, (bel_two w _ _).trans (hb1.mono (by simp; omega))⟩
  · have hr2 : decide (0 ≤ r) = false := by simpa using hr
    have HP : Hid (pmt E r = false) := by show _ = _; simp [pmt, hr2]
    go_enter Try.func9, Try.ntmps9
    go_wp2_with fail
    refine HC.out.mono ?_; rintro e w1 ⟨rfl, hb1⟩
    rw [plc_eq]
    go_wp2_with fail
    go_ret
    exact ⟨ret_bool HP.out.symm, (bel_two w _ _).trans (hb1.mono (by simp; omega))⟩

set_option maxHeartbeats 400000 in
theorem rpermits_any (nm : ByteArray) (A : Option Addr) (n c : Nat) (E : Nat → Ent) (a b : Int) (w : World) (hn : n ≤ maxLen) (hE : Ents w A n E) (ha : 0 ≤ a) (ha2 : a ≤ 4294967295) :
    Calls Try.prog 10 #[.agg #[.string nm, .slice A n c], .agg #[.int .u32 a, .int .i64 b]] w fun e w' => e = .returned (.bool (pmt E (firstI (fitE E a b) 0 n))) ∧ Below w.heap.size w w' := by
  unfold maxLen at hn
  have hE2 := hE.below (bel_two w (OL nm A n c) (O2 a b))
  have hc := rentry_any nm A n c E a b ((w.alloc (OL nm A n c)).alloc (O2 a b)) (by unfold maxLen; omega) hE2 ha ha2
  have hlo := firstI_lo (fitE E a b) n 0
  generalize firstI (fitE E a b) 0 n = r at *
  have HC := hide hc
  have HE := hide hE2
  clear hc hE hE2
  by_cases hr : 0 ≤ r
  · obtain ⟨k, rfl⟩ := Int.eq_ofNat_of_zero_le hr
    have HP : Hid (pmt E (k : Int) = (E k).pm) := by show _ = _; simp [pmt]
    obtain ⟨bE, off, rfl, h0, h1, h2, h3, h4, h5, h6⟩ := HE.out k (by omega)
    go_enter Try.func10, Try.ntmps10
    go_wp2_with fail
    refine HC.out.mono ?_; rintro e w1 ⟨rfl, hb1⟩
    have h0' := cellB hb1 h0
    have c1 := cellB (a := ⟨w.heap.size, 1, none⟩) (v := .slice (some ⟨bE, off, none⟩) n c) hb1 (by simp [OL, O2])
    have hk2 : k < n := by omega
    go_wp2_with fail
    go_ret
    exact ⟨ret_bool HP.out.symm, (bel_two w _ _).trans (hb1.mono (by simp; omega))⟩
  · have hr2 : decide (0 ≤ r) = false := by simpa using hr
    have HP : Hid (pmt E r = false) := by show _ = _; simp [pmt, hr2]
    go_enter Try.func10, Try.ntmps10
    go_wp2_with fail
    refine HC.out.mono ?_; rintro e w1 ⟨rfl, hb1⟩
    go_wp2_with fail
    go_ret
    exact ⟨ret_bool HP.out.symm, (bel_two w _ _).trans (hb1.mono (by simp; omega))⟩
end Go.Proofs.Ytopckpjhdbjmbaa.Ld
