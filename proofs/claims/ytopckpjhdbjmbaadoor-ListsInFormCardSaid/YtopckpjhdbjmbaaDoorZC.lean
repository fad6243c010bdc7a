import Derived.Test.YtopckpjhdbjmbaaDoorZB
namespace Go.Proofs.YtopckpjhdbjmbaaDoor.Ld
open Go.RowKit

structure Ent where
  pm : Bool
  c : Int
  d : Int
  ge : Int
  le : Int

def Ents (w : World) (A : Option Addr) (n : Nat) (E : Nat → Ent) : Prop := ∀ i, i < n → ∃ b off, A = some ⟨b, off, none⟩ ∧
  w.cell? ⟨b, off + i * 5, none⟩ = some (.bool (E i).pm) ∧ w.cell? ⟨b, off + i * 5 + 1, none⟩ = some (.int .u32 (E i).c) ∧ w.cell? ⟨b, off + i * 5 + 2, none⟩ = some (.int .i64 (E i).d) ∧
  w.cell? ⟨b, off + i * 5 + 3, none⟩ = some (.int .i64 (E i).ge) ∧ w.cell? ⟨b, off + i * 5 + 4, none⟩ = some (.int .i64 (E i).le) ∧ 0 ≤ (E i).c ∧ (E i).c ≤ 4294967295
theorem Ents.below {w w' : World} {A : Option Addr} {n : Nat} {E : Nat → Ent} (h : Ents w A n E) (hb : Below w.heap.size w w') : Ents w' A n E := fun i hi => by
  obtain ⟨b, off, hA, h0, h1, h2, h3, h4, h5⟩ := h i hi
  exact ⟨b, off, hA, cellB hb h0, cellB hb h1, cellB hb h2, cellB hb h3, cellB hb h4, h5⟩

/-- the first place that fits, from i on, of k; -1: none -/
def firstI (p : Nat → Bool) : Nat → Nat → Int
  | _, 0 => -1
  | i, k + 1 => if p i then i else firstI p (i + 1) k
theorem firstI_lo (p : Nat → Bool) : ∀ k i, -1 ≤ firstI p i k ∧ firstI p i k < i + k := by
  intro k
  induction k with
  | zero => intro i; simp [firstI]; omega
  | succ k ih =>
    intro i
    unfold firstI
    split
    · omega
    · have := ih (i + 1); omega
def fitE (E : Nat → Ent) (a b : Int) (i : Nat) : Bool := fitsB (E i).c (E i).d (E i).ge (E i).le a b


set_option maxHeartbeats 400000 in
theorem closE_any (x : Ent) (pb po : Nat) (a b : Int) (w : World) (hx : 0 ≤ x.c) (hx2 : x.c ≤ 4294967295) (ha : 0 ≤ a) (ha2 : a ≤ 4294967295)
    (hp0 : w.cell? ⟨pb, po, none⟩ = some (.int .u32 a)) (hp1 : w.cell? ⟨pb, po + 1, none⟩ = some (.int .i64 b)) :
    Calls Tryd.prog 32 #[.agg #[.bool x.pm, .int .u32 x.c, .int .i64 x.d, .int .i64 x.ge, .int .i64 x.le], .pointer (some ⟨pb, po, none⟩)] w fun e w' => e = .returned (.bool (fitsB x.c x.d x.ge x.le a b)) ∧ Below w.heap.size w w' := by
  have q0 : ∀ o, (w.alloc o).cell? ⟨pb, po, none⟩ = some (.int .u32 a) := fun o => cellB ((Below.refl _ _).alloc (Nat.le_refl _) _) hp0
  have q1 : ∀ o, (w.alloc o).cell? ⟨pb, po + 1, none⟩ = some (.int .i64 b) := fun o => cellB ((Below.refl _ _).alloc (Nat.le_refl _) _) hp1
  go_enter Tryd.func32, Tryd.ntmps32
  go_wp2_with fail
  refine (fits_any _ _ _ _ _ _ _ _ ha ha2 hx hx2).mono ?_; rintro e w1 ⟨rfl, hb1⟩
  go_wp2_with fail
  go_ret
  exact ⟨rfl, ((Below.refl _ _).alloc (Nat.le_refl _) _).trans (hb1.mono (by simp))⟩

set_option maxHeartbeats 400000 in
theorem idxE_any (A : Option Addr) (n c : Nat) (E : Nat → Ent) (pb po : Nat) (a b : Int) (w : World) (hn : n ≤ maxLen) (hE : Ents w A n E) (ha : 0 ≤ a) (ha2 : a ≤ 4294967295)
    (hp0 : w.cell? ⟨pb, po, none⟩ = some (.int .u32 a)) (hp1 : w.cell? ⟨pb, po + 1, none⟩ = some (.int .i64 b)) :
    Calls Tryd.prog 47 #[.slice A n c, .func (.func 32) #[] #[.pointer (some ⟨pb, po, none⟩)]] w fun e w' => e = .returned (.int .i64 (firstI (fitE E a b) 0 n)) ∧ Below w.heap.size w w' := by
  unfold maxLen at hn
  have HE := hide hE
  clear hE
  go_enter Tryd.func47, Tryd.ntmps47
  go_wp2
  go_loopw [8] (fun j wr => ∃ k : Nat, k ≤ n ∧ j = .int .i64 k ∧ Below w.heap.size w wr ∧ firstI (fitE E a b) 0 n = firstI (fitE E a b) k (n - k)) (fun j _ => n - (intOf j).toNat)
  case atStart => exact ⟨0, Nat.zero_le _, rfl, Below.refl _ _, rfl⟩
  case round =>
    obtain ⟨k, hk, rfl, hbr, hf⟩ := hrel
    have HF := hide hf
    clear hf
    by_cases hlt : k < n
    · obtain ⟨bE, off, rfl, h0, h1, h2, h3, h4, h5, h6⟩ := (HE.out.below hbr) k hlt
      have hcl := closE_any (E k) pb po a b wr h5 h6 ha ha2 (cellB hbr hp0) (cellB hbr hp1)
      have HS : Hid (firstI (fitE E a b) k (n - k) = if fitE E a b k then (k : Int) else firstI (fitE E a b) (k + 1) (n - (k + 1))) := by
        show _ = _
        rw [show n - k = (n - (k + 1)) + 1 by omega, firstI]
      cases hfit : fitE E a b k
      · have hfit' : fitsB (E k).c (E k).d (E k).ge (E k).le a b = false := hfit
        rw [hfit'] at hcl
        have HC := hide hcl
        clear hcl hfit'
        go_wp2_with fail
        refine HC.out.mono ?_; rintro e w1 ⟨rfl, hb1⟩
        go_wp2_with fail
        go_roundw
        case rel => exact ⟨k + 1, by omega, by go_num, below_wide hbr hb1, by rw [HF.out, HS.out, hfit]; rfl⟩
        case measure => simp [intOf]; omega
      · have hfit' : fitsB (E k).c (E k).d (E k).ge (E k).le a b = true := hfit
        rw [hfit'] at hcl
        have HC := hide hcl
        clear hcl hfit'
        go_wp2_with fail
        refine HC.out.mono ?_; rintro e w1 ⟨rfl, hb1⟩
        go_wp2_with fail
        go_ret
        exact ⟨ret_int (by rw [HF.out, HS.out, hfit]; rfl), below_wide hbr hb1⟩
    · go_wp2_with fail
      go_ret
      exact ⟨ret_int (by rw [HF.out, show n - k = 0 by omega]; rfl), hbr⟩

set_option maxHeartbeats 400000 in
theorem firstE_any (A : Option Addr) (n c : Nat) (E : Nat → Ent) (pb po : Nat) (a b : Int) (w : World) (hn : n ≤ maxLen) (hE : Ents w A n E) (ha : 0 ≤ a) (ha2 : a ≤ 4294967295)
    (hp0 : w.cell? ⟨pb, po, none⟩ = some (.int .u32 a)) (hp1 : w.cell? ⟨pb, po + 1, none⟩ = some (.int .i64 b)) :
    Calls Tryd.prog 31 #[.slice A n c, .func (.func 32) #[] #[.pointer (some ⟨pb, po, none⟩)]] w fun e w' => e = .returned (.tuple #[.int .i64 (max (firstI (fitE E a b) 0 n) 0), .bool (decide (0 ≤ firstI (fitE E a b) 0 n))]) ∧ Below w.heap.size w w' := by
  have hc := idxE_any A n c E pb po a b w hn hE ha ha2 hp0 hp1
  generalize firstI (fitE E a b) 0 n = r at *
  have HC := hide hc
  clear hc hE
  go_enter Tryd.func31, Tryd.ntmps31
  go_wp2_with fail
  refine HC.out.mono ?_; rintro e w1 ⟨rfl, hb1⟩
  go_wp2_with fail
  · go_ret2
    exact ⟨by rw [show max r 0 = 0 by omega]; rfl, hb1⟩
  · go_ret2
    exact ⟨by rw [show max r 0 = r by omega]; rfl, hb1⟩

/-- what lists.Entry and lists.Member hand back of a place -/
def plI (r : Int) : Int := max r 0
def plB (r : Int) : Bool := decide (0 ≤ r)
def plc (r : Int) : Value := .tuple #[.int .i64 (plI r), .bool (plB r)]
theorem plc_eq (r : Int) : plc r = .tuple #[.int .i64 (max r 0), .bool (decide (0 ≤ r))] := rfl

set_option maxHeartbeats 400000 in
theorem entry_any (nm : ByteArray) (A : Option Addr) (n c : Nat) (E : Nat → Ent) (a b : Int) (w : World) (hn : n ≤ maxLen) (hE : Ents w A n E) (ha : 0 ≤ a) (ha2 : a ≤ 4294967295) :
    Calls Tryd.prog 16 #[.agg #[.string nm, .slice A n c], .agg #[.int .u32 a, .int .i64 b]] w fun e w' => e = .returned (plc (firstI (fitE E a b) 0 n)) ∧ Below w.heap.size w w' := by
  have HC := fun (o : Obj) => firstE_any A n c E (w.heap.size + 1) 0 a b ((w.alloc o).alloc (O2 a b)) hn (hE.below (bel_two w o _)) ha ha2 (by simp [O2]) (by simp [O2])
  have H := hide HC
  clear HC hE
  go_enter Tryd.func16, Tryd.ntmps16
  go_wp2_with fail
  refine (H.out _).mono ?_; rintro e w1 ⟨rfl, hb1⟩
  go_wp2_with fail
  go_ret2
  exact ⟨rfl, (bel_two w _ _).trans (hb1.mono (by simp; omega))⟩
end Go.Proofs.YtopckpjhdbjmbaaDoor.Ld
