import Derived.Test.YtopckpjhdbjmbaaDoorZC
namespace Go.Proofs.YtopckpjhdbjmbaaDoor.Ld
open Go.RowKit

abbrev OL (nm : ByteArray) (A : Option Addr) (n c : Nat) : Obj := Obj.cells #[Value.string nm, Value.slice A n c] 39
/-- does the line that decides permit? -/
def pmt (E : Nat → Ent) (r : Int) : Bool := decide (0 ≤ r) && (E r.toNat).pm

set_option maxHeartbeats 400000 in
theorem permits_any (nm : ByteArray) (A : Option Addr) (n c : Nat) (E : Nat → Ent) (a b : Int) (w : World) (hn : n ≤ maxLen) (hE : Ents w A n E) (ha : 0 ≤ a) (ha2 : a ≤ 4294967295) :
    Calls Tryd.prog 17 #[.agg #[.string nm, .slice A n c], .agg #[.int .u32 a, .int .i64 b]] w fun e w' => e = .returned (.bool (pmt E (firstI (fitE E a b) 0 n))) ∧ Below w.heap.size w w' := by
  unfold maxLen at hn
  have hE2 := hE.below (bel_two w (OL nm A n c) (O2 a b))
  have hc := entry_any nm A n c E a b ((w.alloc (OL nm A n c)).alloc (O2 a b)) (by unfold maxLen; omega) hE2 ha ha2
  have hlo := firstI_lo (fitE E a b) n 0
  generalize firstI (fitE E a b) 0 n = r at *
  have HC := hide hc
  have HE := hide hE2
  clear hc hE hE2
  by_cases hr : 0 ≤ r
  · obtain ⟨k, rfl⟩ := Int.eq_ofNat_of_zero_le hr
    have HP : Hid (pmt E (k : Int) = (E k).pm) := by show _ = _; simp [pmt]
    obtain ⟨bE, off, rfl, h0, h1, h2, h3, h4, h5, h6⟩ := HE.out k (by omega)
    go_enter Tryd.func17, Tryd.ntmps17
    go_wp2_with fail
    refine HC.out.mono ?_; rintro e w1 ⟨rfl, hb1⟩
    have h0' := cellB hb1 h0
    have c1 := cellB (a := ⟨w.heap.size, 1, none⟩) (v := .slice (some ⟨bE, off, none⟩) n c) hb1 (by simp [OL, O2])
    rw [plc_eq]
    have hk2 : k < n := by omega
    go_wp2_with fail
    go_ret
    exact ⟨ret_bool HP.out.symm, (bel_two w _ _).trans (hb1.mono (by simp; omega))⟩
  · have hr2 : decide (0 ≤ r) = false := by simpa using hr
    have HP : Hid (pmt E r = false) := by show _ = _; simp [pmt, hr2]
    go_enter Tryd.func17, Tryd.ntmps17
    go_wp2_with fail
    refine HC.out.mono ?_; rintro e w1 ⟨rfl, hb1⟩
    rw [plc_eq]
    go_wp2_with fail
    go_ret
    exact ⟨ret_bool HP.out.symm, (bel_two w _ _).trans (hb1.mono (by simp; omega))⟩

end Go.Proofs.YtopckpjhdbjmbaaDoor.Ld
