import Derived.Test.YtopckpjhdbjmbaaDoorZE
namespace Go.Proofs.YtopckpjhdbjmbaaDoor.Ld
open Go.RowKit

/-- Member$1$1: is a number of a member not among the communities? (pb, po: where the captured communities lie) -/
theorem clos2_any (A : Option Addr) (n c : Nat) (z : Nat → Int) (pb po : Nat) (v : Int) (w : World) (hn : n ≤ maxLen) (hz : Us w A n z) (hp : w.cell? ⟨pb, po, none⟩ = some (.slice A n c)) :
    Calls Tryd.prog 37 #[.int .u32 v, .pointer (some ⟨pb, po, none⟩)] w fun e w' => e = .returned (.bool (!hasB z n v)) ∧ w = w' := by
  have HC := hide (contains_any A n c z v w hn hz)
  clear hz
  go_enter Tryd.func37, Tryd.ntmps37
  go_wp2_with fail
  refine HC.out.mono ?_; rintro e w1 ⟨rfl, rfl⟩
  go_wp2_with fail
  go_ret
  exact ⟨rfl, rfl⟩

def notI (z : Nat → Int) (n : Nat) (y : Nat → Int) (i : Nat) : Bool := !hasB z n (y i)

set_option maxHeartbeats 400000 in
theorem idxU_any (A : Option Addr) (n c : Nat) (z : Nat → Int) (pb po : Nat) (A2 : Option Addr) (n2 c2 : Nat) (y : Nat → Int) (w : World) (hn : n ≤ maxLen) (hz : Us w A n z) (hp : w.cell? ⟨pb, po, none⟩ = some (.slice A n c))
    (hn2 : n2 ≤ maxLen) (hy : Us w A2 n2 y) :
    Calls Tryd.prog 50 #[.slice A2 n2 c2, .func (.func 37) #[] #[.pointer (some ⟨pb, po, none⟩)]] w fun e w' => e = .returned (.int .i64 (firstI (notI z n y) 0 n2)) ∧ w = w' := by
  have HC := hide (fun k => clos2_any A n c z pb po (y k) w hn hz hp)
  unfold maxLen at hn2
  have HE := hide hy
  clear hy hz
  go_enter Tryd.func50, Tryd.ntmps50
  go_wp2
  go_loop [8] (fun j => ∃ k : Nat, k ≤ n2 ∧ j = .int .i64 k ∧ firstI (notI z n y) 0 n2 = firstI (notI z n y) k (n2 - k)) (fun j => n2 - (intOf j).toNat)
  case atStart => exact ⟨0, Nat.zero_le _, rfl, rfl⟩
  case round =>
    obtain ⟨k, hk, rfl, hf⟩ := hrel
    have HF := hide hf
    clear hf
    by_cases hlt : k < n2
    · obtain ⟨bE, off, rfl, h0⟩ := HE.out k hlt
      have HS := hide (firstI_succ (notI z n y) k n2 hlt)
      have hcl := HC.out k
      cases hfit : notI z n y k
      · have hfit' : (!hasB z n (y k)) = false := hfit
        rw [hfit'] at hcl
        have HQ := hide hfit
        have HCl := hide hcl
        clear hcl hfit' hfit
        go_wp2_with fail
        refine HCl.out.mono ?_; rintro e w1 ⟨rfl, rfl⟩
        go_wp2_with fail
        go_round
        case rel => exact ⟨k + 1, by omega, by go_num, by rw [HF.out, HS.out, HQ.out]; rfl⟩
        case measure => simp [intOf]; omega
      · have hfit' : (!hasB z n (y k)) = true := hfit
        rw [hfit'] at hcl
        have HQ := hide hfit
        have HCl := hide hcl
        clear hcl hfit' hfit
        go_wp2_with fail
        refine HCl.out.mono ?_; rintro e w1 ⟨rfl, rfl⟩
        go_wp2_with fail
        go_ret
        exact ⟨ret_int (by rw [HF.out, HS.out, HQ.out]; rfl), rfl⟩
    · go_wp2_with fail
      go_ret
      exact ⟨ret_int (by rw [HF.out, show n2 - k = 0 by omega]; rfl), rfl⟩

theorem cfunc_any (A : Option Addr) (n c : Nat) (z : Nat → Int) (pb po : Nat) (A2 : Option Addr) (n2 c2 : Nat) (y : Nat → Int) (w : World) (hn : n ≤ maxLen) (hz : Us w A n z) (hp : w.cell? ⟨pb, po, none⟩ = some (.slice A n c))
    (hn2 : n2 ≤ maxLen) (hy : Us w A2 n2 y) :
    Calls Tryd.prog 36 #[.slice A2 n2 c2, .func (.func 37) #[] #[.pointer (some ⟨pb, po, none⟩)]] w fun e w' => e = .returned (.bool (decide (0 ≤ firstI (notI z n y) 0 n2))) ∧ w = w' := by
  have HC := hide (idxU_any A n c z pb po A2 n2 c2 y w hn hz hp hn2 hy)
  clear hy hz
  go_enter Tryd.func36, Tryd.ntmps36
  go_wp2_with fail
  refine HC.out.mono ?_; rintro e w1 ⟨rfl, rfl⟩
  go_wp2_with fail
  go_ret
  exact ⟨rfl, rfl⟩

structure Mem where
  pm : Bool
  A : Option Addr
  n : Nat
  c : Nat
  z : Nat → Int

def Mems (w : World) (A : Option Addr) (n : Nat) (M : Nat → Mem) : Prop := ∀ i, i < n → ∃ b off, A = some ⟨b, off, none⟩ ∧
  w.cell? ⟨b, off + i * 2, none⟩ = some (.bool (M i).pm) ∧ w.cell? ⟨b, off + i * 2 + 1, none⟩ = some (.slice (M i).A (M i).n (M i).c) ∧ Us w (M i).A (M i).n (M i).z ∧ (M i).n ≤ maxLen
theorem Mems.below {w w' : World} {A : Option Addr} {n : Nat} {M : Nat → Mem} (h : Mems w A n M) (hb : Below w.heap.size w w') : Mems w' A n M := fun i hi => by
  obtain ⟨b, off, hA, h0, h1, h2, h3⟩ := h i hi
  exact ⟨b, off, hA, cellB hb h0, cellB hb h1, h2.below hb, h3⟩
/-- does member i fit the communities z? -/
def memB (z : Nat → Int) (n : Nat) (M : Nat → Mem) (i : Nat) : Bool := !decide (0 ≤ firstI (notI z n (M i).z) 0 (M i).n)

set_option maxHeartbeats 400000 in
theorem closM_any (A : Option Addr) (n c : Nat) (z : Nat → Int) (pb po : Nat) (pm : Bool) (A2 : Option Addr) (n2 c2 : Nat) (y : Nat → Int) (w : World) (hn : n ≤ maxLen) (hz : Us w A n z) (hp : w.cell? ⟨pb, po, none⟩ = some (.slice A n c))
    (hn2 : n2 ≤ maxLen) (hy : Us w A2 n2 y) :
    Calls Tryd.prog 35 #[.agg #[.bool pm, .slice A2 n2 c2], .pointer (some ⟨pb, po, none⟩)] w fun e w' => e = .returned (.bool (!decide (0 ≤ firstI (notI z n y) 0 n2))) ∧ Below w.heap.size w w' := by
  have hb := fun o => (Below.refl w.heap.size w).alloc (Nat.le_refl _) o
  have HC := hide (fun o => cfunc_any A n c z pb po A2 n2 c2 y (w.alloc o) hn (hz.below (hb o)) (cellB (hb o) hp) hn2 (hy.below (hb o)))
  clear hy hz hb
  go_enter Tryd.func35, Tryd.ntmps35
  go_wp2_with fail
  refine (HC.out _).mono ?_; rintro e w1 ⟨rfl, rfl⟩
  go_wp2_with fail
  go_ret
  exact ⟨rfl, by go_grown⟩

set_option maxHeartbeats 400000 in
theorem idxM_any (A : Option Addr) (n c : Nat) (z : Nat → Int) (pb po : Nat) (A2 : Option Addr) (n2 c2 : Nat) (M : Nat → Mem) (w : World) (hn : n ≤ maxLen) (hz : Us w A n z) (hp : w.cell? ⟨pb, po, none⟩ = some (.slice A n c))
    (hn2 : n2 ≤ maxLen) (hM : Mems w A2 n2 M) :
    Calls Tryd.prog 49 #[.slice A2 n2 c2, .func (.func 35) #[] #[.pointer (some ⟨pb, po, none⟩)]] w fun e w' => e = .returned (.int .i64 (firstI (memB z n M) 0 n2)) ∧ Below w.heap.size w w' := by
  unfold maxLen at hn2
  have HE := hide hM
  have HZ := hide hz
  clear hM hz
  go_enter Tryd.func49, Tryd.ntmps49
  go_wp2
  go_loopw [8] (fun j wr => ∃ k : Nat, k ≤ n2 ∧ j = .int .i64 k ∧ Below w.heap.size w wr ∧ firstI (memB z n M) 0 n2 = firstI (memB z n M) k (n2 - k)) (fun j _ => n2 - (intOf j).toNat)
  case atStart => exact ⟨0, Nat.zero_le _, rfl, Below.refl _ _, rfl⟩
  case round =>
    obtain ⟨k, hk, rfl, hbr, hf⟩ := hrel
    have HF := hide hf
    clear hf
    by_cases hlt : k < n2
    · obtain ⟨bE, off, rfl, h0, h1, h2, h3⟩ := (HE.out.below hbr) k hlt
      have hcl := closM_any A n c z pb po (M k).pm (M k).A (M k).n (M k).c (M k).z wr hn (HZ.out.below hbr) (cellB hbr hp) h3 h2
      have HS := hide (firstI_succ (memB z n M) k n2 hlt)
      clear h2
      cases hfit : memB z n M k
      · have hfit' : (!decide (0 ≤ firstI (notI z n (M k).z) 0 (M k).n)) = false := hfit
        rw [hfit'] at hcl
        have HC := hide hcl
        have HQ := hide hfit
        clear hcl hfit' hfit
        go_wp2_with fail
        refine HC.out.mono ?_; rintro e w1 ⟨rfl, hb1⟩
        go_wp2_with fail
        go_roundw
        case rel => exact ⟨k + 1, by omega, by go_num, below_wide hbr hb1, by rw [HF.out, HS.out, HQ.out]; rfl⟩
        case measure => simp [intOf]; omega
      · have hfit' : (!decide (0 ≤ firstI (notI z n (M k).z) 0 (M k).n)) = true := hfit
        rw [hfit'] at hcl
        have HC := hide hcl
        have HQ := hide hfit
        clear hcl hfit' hfit
        go_wp2_with fail
        refine HC.out.mono ?_; rintro e w1 ⟨rfl, hb1⟩
        go_wp2_with fail
        go_ret
        exact ⟨ret_int (by rw [HF.out, HS.out, HQ.out]; rfl), below_wide hbr hb1⟩
    · go_wp2_with fail
      go_ret
      exact ⟨ret_int (by rw [HF.out, show n2 - k = 0 by omega]; rfl), hbr⟩

set_option maxHeartbeats 400000 in
theorem firstM_any (A : Option Addr) (n c : Nat) (z : Nat → Int) (pb po : Nat) (A2 : Option Addr) (n2 c2 : Nat) (M : Nat → Mem) (w : World) (hn : n ≤ maxLen) (hz : Us w A n z) (hp : w.cell? ⟨pb, po, none⟩ = some (.slice A n c))
    (hn2 : n2 ≤ maxLen) (hM : Mems w A2 n2 M) :
    Calls Tryd.prog 34 #[.slice A2 n2 c2, .func (.func 35) #[] #[.pointer (some ⟨pb, po, none⟩)]] w fun e w' => e = .returned (plc (firstI (memB z n M) 0 n2)) ∧ Below w.heap.size w w' := by
  have hc := idxM_any A n c z pb po A2 n2 c2 M w hn hz hp hn2 hM
  generalize firstI (memB z n M) 0 n2 = r at *
  have HC := hide hc
  clear hc hM hz
  go_enter Tryd.func34, Tryd.ntmps34
  go_wp2_with fail
  refine HC.out.mono ?_; rintro e w1 ⟨rfl, hb1⟩
  go_wp2_with fail
  · go_ret2
    exact ⟨by rw [plc_eq, show max r 0 = 0 by omega, decide_eq_false (show ¬ 0 ≤ r by omega)]; rfl, hb1⟩
  · go_ret2
    exact ⟨by rw [plc_eq, show max r 0 = r by omega, decide_eq_true (show 0 ≤ r by omega)]; rfl, hb1⟩

set_option maxHeartbeats 400000 in
theorem member_any (nm : ByteArray) (A : Option Addr) (n c : Nat) (z : Nat → Int) (A2 : Option Addr) (n2 c2 : Nat) (M : Nat → Mem) (w : World) (hn : n ≤ maxLen) (hz : Us w A n z) (hn2 : n2 ≤ maxLen) (hM : Mems w A2 n2 M) :
    Calls Tryd.prog 19 #[.agg #[.string nm, .slice A2 n2 c2], .slice A n c] w fun e w' => e = .returned (plc (firstI (memB z n M) 0 n2)) ∧ Below w.heap.size w w' := by
  have HC := fun (o : Obj) (t : TypeId) => firstM_any A n c z (w.heap.size + 1) 0 A2 n2 c2 M ((w.alloc o).alloc (.cells #[.slice A n c] t)) hn (hz.below (bel_two w o _)) (by simp) hn2 (hM.below (bel_two w o _))
  have H := hide HC
  clear HC hz hM
  go_enter Tryd.func19, Tryd.ntmps19
  go_wp2_with fail
  refine (H.out _ _).mono ?_; rintro e w1 ⟨rfl, hb1⟩
  unfold plc
  go_wp2_with fail
  go_ret2
  exact ⟨rfl, (bel_two w _ _).trans (hb1.mono (by simp; omega))⟩
end Go.Proofs.YtopckpjhdbjmbaaDoor.Ld
