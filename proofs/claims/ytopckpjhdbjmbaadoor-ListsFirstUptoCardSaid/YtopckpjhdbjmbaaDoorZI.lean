/- The law ListsFirst walked: true. -/
import Derived.Test.YtopckpjhdbjmbaaDoorZK
import Derived.Test.YtopckpjhdbjmbaaDoorZW
namespace Go.Proofs.YtopckpjhdbjmbaaDoor.Ld
open Go.RowKit Go.Proofs.YtopckpjhdbjmbaaDoor.Lx

/-! ### the first that fits of two rows, one behind the other -/
theorem firstI_congr {p q : Nat → Bool} : ∀ k i, (∀ j, i ≤ j → j < i + k → p j = q j) → firstI p i k = firstI q i k := by
  intro k
  induction k with
  | zero => intro i _; rfl
  | succ k ih =>
    intro i h
    rw [firstI, firstI, h i (Nat.le_refl _) (by omega), ih (i + 1) (fun j h1 h2 => h j (by omega) (by omega))]
theorem firstI_add (p : Nat → Bool) : ∀ k m i, firstI p i (k + m) = if 0 ≤ firstI p i k then firstI p i k else firstI p (i + k) m := by
  intro k
  induction k with
  | zero => intro m i; rw [firstI, if_neg (by omega), Nat.zero_add, Nat.add_zero]
  | succ k ih =>
    intro m i
    rw [show k + 1 + m = (k + m) + 1 by omega, firstI, firstI]
    cases h : p i
    · simp only [Bool.false_eq_true, if_false]
      rw [ih m (i + 1), show i + 1 + k = i + (k + 1) by omega]
    · simp only [if_true]
      rw [if_pos (by omega)]
theorem firstI_shift (p : Nat → Bool) (n : Nat) : ∀ k i, firstI p (n + i) k = if firstI (fun j => p (n + j)) i k < 0 then -1 else (n : Int) + firstI (fun j => p (n + j)) i k := by
  intro k
  induction k with
  | zero => intro i; simp [firstI]
  | succ k ih =>
    intro i
    rw [firstI, firstI]
    cases h : p (n + i)
    · simp only [Bool.false_eq_true, if_false]
      exact ih (i + 1)
    · simp only [if_true]
      rw [if_neg (by omega)]
      omega
/-- three ways: in the first row; in the second; in none -/
theorem first_two (p q p2 : Nat → Bool) (n m : Nat) (h1 : ∀ j, j < n → q j = p j) (h2 : ∀ j, q (n + j) = p2 j) :
    (∃ j, j < n ∧ firstI p 0 n = (j : Int) ∧ firstI q 0 (n + m) = (j : Int)) ∨ (firstI p 0 n = -1 ∧ ∃ j, j < m ∧ firstI p2 0 m = (j : Int) ∧ firstI q 0 (n + m) = (n : Int) + (j : Int)) ∨ (firstI p 0 n = -1 ∧ firstI p2 0 m = -1 ∧ firstI q 0 (n + m) = -1) := by
  have e1 : firstI q 0 n = firstI p 0 n := firstI_congr n 0 (fun j _ h => h1 j (by omega))
  have e2 : (fun j => q (n + j)) = p2 := funext h2
  have hs := firstI_shift q n m 0
  rw [e2, Nat.add_zero] at hs
  have ha := firstI_add q n m 0
  rw [e1, Nat.zero_add, hs] at ha
  have l1 := firstI_lo p n 0
  have l2 := firstI_lo p2 m 0
  by_cases h : 0 ≤ firstI p 0 n
  · rw [if_pos h] at ha
    exact .inl ⟨(firstI p 0 n).toNat, by omega, by omega, by omega⟩
  · rw [if_neg h] at ha
    by_cases h' : firstI p2 0 m < 0
    · rw [if_pos h'] at ha
      exact .inr (.inr ⟨by omega, by omega, ha⟩)
    · rw [if_neg h'] at ha
      exact .inr (.inl ⟨by omega, (firstI p2 0 m).toNat, by omega, by omega, by omega⟩)

/-! ### rows of the call's own -/
def RowF (w : World) (base : Nat) (t : TypeId) (A : Option Addr) (n size : Nat) (f : Nat → Value) : Prop :=
  0 < n → ∃ g cur, A = some ⟨g, 0, none⟩ ∧ base ≤ g ∧ w.heap[g]? = some (.cells cur t (0, 0)) ∧ ∀ j, j < n * size → cur[j]? = some (f j)
section
variable {w w' : World} {base : Nat} {t : TypeId} {A : Option Addr} {n size : Nat} {f : Nat → Value}
theorem RowF.below (h : RowF w base t A n size f) (hb : Below w.heap.size w w') : RowF w' base t A n size f := fun hn => by
  obtain ⟨g, cur, hA, hg, hh, hc⟩ := h hn
  exact ⟨g, cur, hA, hg, heapB hb hh, hc⟩
theorem RowF.of_own {A : Option Addr} {c : Nat} {xs : List Value} (h : w.ownsRow base t size (.slice A n c) n xs) (hx : ∀ j, j < n * size → xs[j]? = some (f j)) : RowF w base t A n size f := fun hn => by
  obtain ⟨hl, h2 | ⟨g, cap, cur, hv, hg, hh, hnc, hcm, hsz, htk⟩⟩ := h
  · omega
  · have hA : A = some ⟨g, 0, none⟩ := by injection hv
    refine ⟨g, cur, hA, hg, hh, fun j hj => ?_⟩
    have := hx j hj
    rw [← htk, List.getElem?_take_of_lt hj] at this
    simpa using this
theorem RowF.cell (h : RowF w base t A n size f) (hn : 0 < n) : ∃ g, A = some ⟨g, 0, none⟩ ∧ base ≤ g ∧ g < w.heap.size ∧ ∀ j, j < n * size → w.cell? ⟨g, j, none⟩ = some (f j) := by
  obtain ⟨g, cur, hA, hg, hh, hc⟩ := h hn
  exact ⟨g, hA, hg, lt_heap hh, fun j hj => cell_heap hh (hc j hj)⟩
end
theorem EntF.ents {w : World} {base : Nat} {t : TypeId} {A : Option Addr} {n : Nat} {f : Nat → Value} {E : Nat → Ent} (hf : EntF f n E) (h : RowF w base t A n 5 f) : Ents w A n E := fun i hi => by
  obtain ⟨g, hA, _, _, hc⟩ := h.cell (by omega)
  obtain ⟨e0, e1, e2, e3, e4, e5⟩ := hf i hi
  refine ⟨g, 0, hA, ?_, ?_, ?_, ?_, ?_, e5⟩
  · rw [← e0, Nat.zero_add]; exact hc _ (by omega)
  · rw [← e1, Nat.zero_add]; exact hc _ (by omega)
  · rw [← e2, Nat.zero_add]; exact hc _ (by omega)
  · rw [← e3, Nat.zero_add]; exact hc _ (by omega)
  · rw [← e4, Nat.zero_add]; exact hc _ (by omega)
theorem MemF.mems {w : World} {base : Nat} {t : TypeId} {A : Option Addr} {n : Nat} {f : Nat → Value} {M : Nat → Mem} (hf : MemF w f n M) (h : RowF w base t A n 2 f) : Mems w A n M := fun i hi => by
  obtain ⟨g, hA, _, _, hc⟩ := h.cell (by omega)
  obtain ⟨e0, e1, e2⟩ := hf i hi
  refine ⟨g, 0, hA, ?_, ?_, e2⟩
  · rw [← e0, Nat.zero_add]; exact hc _ (by omega)
  · rw [← e1, Nat.zero_add]; exact hc _ (by omega)
theorem MemF.below {w w' : World} {f : Nat → Value} {n : Nat} {M : Nat → Mem} (hf : MemF w f n M) (hb : Below w.heap.size w w') : MemF w' f n M := fun i hi => by
  obtain ⟨e0, e1, e2, e3⟩ := hf i hi
  exact ⟨e0, e1, e2.below hb, e3⟩

def appE {α : Type} (f g : Nat → α) (n i : Nat) : α := if i < n then f i else g (i - n)
theorem appE_lo {α : Type} (f g : Nat → α) {n i : Nat} (h : i < n) : appE f g n i = f i := if_pos h
theorem appE_hi {α : Type} (f g : Nat → α) (n i : Nat) : appE f g n (n + i) = g i := by unfold appE; rw [if_neg (by omega)]; congr 1; omega
theorem appE_hi' {α : Type} (f g : Nat → α) {n i : Nat} (h : ¬ i < n) : appE f g n i = g (i - n) := if_neg h
theorem ents_two {n m : Nat} {f1 f2 : Nat → Value} {E1 E2 : Nat → Ent} (h1 : EntF f1 n E1) (h2 : EntF f2 m E2) : EntF (appE f1 f2 (n * 5)) (n + m) (appE E1 E2 n) := fun i hi => by
  by_cases h : i < n
  · rw [appE_lo _ _ h, appE_lo _ _ (by omega), appE_lo _ _ (by omega), appE_lo _ _ (by omega), appE_lo _ _ (by omega), appE_lo _ _ (by omega)]
    exact h1 i h
  · rw [appE_hi' _ _ h, appE_hi' _ _ (by omega), appE_hi' _ _ (by omega), appE_hi' _ _ (by omega), appE_hi' _ _ (by omega), appE_hi' _ _ (by omega)]
    have := h2 (i - n) (by omega)
    rw [show i * 5 - n * 5 = (i - n) * 5 by omega, show i * 5 + 1 - n * 5 = (i - n) * 5 + 1 by omega, show i * 5 + 2 - n * 5 = (i - n) * 5 + 2 by omega, show i * 5 + 3 - n * 5 = (i - n) * 5 + 3 by omega, show i * 5 + 4 - n * 5 = (i - n) * 5 + 4 by omega]
    exact this
theorem mems_two {w : World} {n m : Nat} {f1 f2 : Nat → Value} {M1 M2 : Nat → Mem} (h1 : MemF w f1 n M1) (h2 : MemF w f2 m M2) : MemF w (appE f1 f2 (n * 2)) (n + m) (appE M1 M2 n) := fun i hi => by
  by_cases h : i < n
  · rw [appE_lo _ _ h, appE_lo _ _ (by omega), appE_lo _ _ (by omega)]
    exact h1 i h
  · rw [appE_hi' _ _ h, appE_hi' _ _ (by omega), appE_hi' _ _ (by omega)]
    have := h2 (i - n) (by omega)
    rw [show i * 2 - n * 2 = (i - n) * 2 by omega, show i * 2 + 1 - n * 2 = (i - n) * 2 + 1 by omega]
    exact this
theorem row_two {w : World} {base : Nat} {t : TypeId} {A : Option Addr} {n m c size : Nat} {f1 f2 : Nat → Value} (h : w.ownsRow base t size (.slice A (n + m) c) (n + m) ((List.range (n * size)).map f1 ++ (List.range (m * size)).map f2)) : RowF w base t A (n + m) size (appE f1 f2 (n * size)) := by
  refine RowF.of_own h (fun j hj => ?_)
  by_cases hl : j < n * size
  · rw [List.getElem?_append_left (by simpa using hl), appE_lo _ _ hl, List.getElem?_map, List.getElem?_range hl]; rfl
  · rw [Nat.add_mul] at hj
    rw [List.getElem?_append_right (by simpa using hl), appE_hi' _ _ hl, List.length_map, List.length_range, List.getElem?_map, List.getElem?_range (by omega)]; rfl
theorem infoE : (Tryd.prog.info? 44).map (fun i => (i.zero, i.size, i.bytes)) = some (some (.agg #[.bool false, .int .u32 0, .int .i64 0, .int .i64 0, .int .i64 0]), 5, 40) := by kernel_rfl
theorem infoM : (Tryd.prog.info? 50).map (fun i => (i.zero, i.size, i.bytes)) = some (some (.agg #[.bool false, .slice none 0 0]), 2, 32) := by kernel_rfl
theorem info_of {t : TypeId} {z : Value} {a b : Nat} (hi : (Tryd.prog.info? t).map (fun i => (i.zero, i.size, i.bytes)) = some (some z, a, b)) : ∃ i, Tryd.prog.info? t = some i ∧ i.zero = some z ∧ i.size = a ∧ i.bytes = b := by
  cases h : Tryd.prog.info? t with
  | none => rw [h] at hi; cases hi
  | some i =>
    rw [h] at hi
    simp only [Option.map_some, Option.some.injEq, Prod.mk.injEq] at hi
    exact ⟨i, rfl, hi⟩
theorem plc_pos (j : Nat) : plc (j : Int) = .tuple #[.int .i64 (j : Int), .bool true] := by
  rw [plc_eq, show max (j : Int) 0 = (j : Int) by omega, show decide ((0 : Int) ≤ (j : Int)) = true by simp]
theorem plc_pos2 (n j : Nat) : plc ((n : Int) + (j : Int)) = .tuple #[.int .i64 ((n : Int) + (j : Int)), .bool true] := by
  rw [plc_eq, show max ((n : Int) + (j : Int)) 0 = (n : Int) + (j : Int) by omega, show decide ((0 : Int) ≤ (n : Int) + (j : Int)) = true by simp; omega]
theorem plc_neg : plc (-1) = .tuple #[.int .i64 0, .bool false] := rfl
theorem pmt_pos (E : Nat → Ent) (j : Nat) : pmt E (j : Int) = (E j).pm := by simp [pmt]
theorem pmt_neg (E : Nat → Ent) : pmt E (-1) = false := rfl
theorem pmtM_pos (E : Nat → Mem) (j : Nat) : pmtM E (j : Int) = (E j).pm := by simp [pmtM]
theorem pmtM_neg (E : Nat → Mem) : pmtM E (-1) = false := rfl
theorem pmt_two (E1 E2 : Nat → Ent) (n j : Nat) : pmt (appE E1 E2 n) ((n : Int) + (j : Int)) = (E2 j).pm := by
  rw [show (n : Int) + (j : Int) = ((n + j : Nat) : Int) by omega, pmt_pos, appE_hi]
theorem pmtM_two (E1 E2 : Nat → Mem) (n j : Nat) : pmtM (appE E1 E2 n) ((n : Int) + (j : Int)) = (E2 j).pm := by
  rw [show (n : Int) + (j : Int) = ((n + j : Nat) : Int) by omega, pmtM_pos, appE_hi]
theorem fit_two (E1 E2 : Nat → Ent) (a b : Int) (n m : Nat) : (∃ j, j < n ∧ firstI (fitE E1 a b) 0 n = (j : Int) ∧ firstI (fitE (appE E1 E2 n) a b) 0 (n + m) = (j : Int)) ∨ (firstI (fitE E1 a b) 0 n = -1 ∧ ∃ j, j < m ∧ firstI (fitE E2 a b) 0 m = (j : Int) ∧ firstI (fitE (appE E1 E2 n) a b) 0 (n + m) = (n : Int) + (j : Int)) ∨ (firstI (fitE E1 a b) 0 n = -1 ∧ firstI (fitE E2 a b) 0 m = -1 ∧ firstI (fitE (appE E1 E2 n) a b) 0 (n + m) = -1) := first_two (fitE E1 a b) (fitE (appE E1 E2 n) a b) (fitE E2 a b) n m
  (fun j h => by unfold fitE; rw [appE_lo _ _ h]) (fun j => by unfold fitE; rw [appE_hi])
theorem mem_two (z : Nat → Int) (k : Nat) (M1 M2 : Nat → Mem) (n m : Nat) : (∃ j, j < n ∧ firstI (memB z k M1) 0 n = (j : Int) ∧ firstI (memB z k (appE M1 M2 n)) 0 (n + m) = (j : Int)) ∨ (firstI (memB z k M1) 0 n = -1 ∧ ∃ j, j < m ∧ firstI (memB z k M2) 0 m = (j : Int) ∧ firstI (memB z k (appE M1 M2 n)) 0 (n + m) = (n : Int) + (j : Int)) ∨ (firstI (memB z k M1) 0 n = -1 ∧ firstI (memB z k M2) 0 m = -1 ∧ firstI (memB z k (appE M1 M2 n)) 0 (n + m) = -1) := first_two (memB z k M1) (memB z k (appE M1 M2 n)) (memB z k M2) n m
  (fun j h => by unfold memB; rw [appE_lo _ _ h]) (fun j => by unfold memB; rw [appE_hi])
theorem permits_none (a b : Int) (w : World) (ha : 0 ≤ a) (ha2 : a ≤ 4294967295) :
    Calls Tryd.prog 17 #[.agg #[.string ⟨#[]⟩, .slice none 0 0], .agg #[.int .u32 a, .int .i64 b]] w fun e w' => e = .returned (.bool false) ∧ Below w.heap.size w w' :=
  permits_any ⟨#[]⟩ none 0 0 E0 a b w (by decide) (fun i hi => by omega) ha ha2
theorem allows_none (A : Option Addr) (n c : Nat) (z : Nat → Int) (w : World) (hn : n ≤ maxLen) (hz : Us w A n z) :
    Calls Tryd.prog 18 #[.agg #[.string ⟨#[]⟩, .slice none 0 0], .slice A n c] w fun e w' => e = .returned (.bool false) ∧ Below w.heap.size w w' :=
  allows_any ⟨#[]⟩ A n c z none 0 0 (M0 0) w hn hz (by decide) (fun i hi => by omega)

set_option maxHeartbeats 16000000 in
set_option maxRecDepth 100000 in
theorem first_any (A1 : Option Addr) (n1 c1 : Nat) (f1 : Nat → Value) (E1 : Nat → Ent) (A2 : Option Addr) (n2 c2 : Nat) (f2 : Nat → Value) (E2 : Nat → Ent) (a b : Int)
    (A3 : Option Addr) (n3 c3 : Nat) (f3 : Nat → Value) (M3 : Nat → Mem) (A4 : Option Addr) (n4 c4 : Nat) (f4 : Nat → Value) (M4 : Nat → Mem) (A5 : Option Addr) (n5 c5 : Nat) (zs : List Int) (w : World)
    (ha : 0 ≤ a) (ha2 : a ≤ 4294967295) (hn1 : n1 ≤ 2000000) (hn2 : n2 ≤ 2000000) (hn3 : n3 ≤ 2000000) (hn4 : n4 ≤ 2000000) (hn5 : n5 ≤ 2000000)
    (s1 : Src w A1 n1 c1 5 ((List.range (n1 * 5)).map f1)) (o1 : ∀ j, j < n1 * 5 → (f1 j).oneCell' = true) (h1 : EntF f1 n1 E1)
    (s2 : Src w A2 n2 c2 5 ((List.range (n2 * 5)).map f2)) (o2 : ∀ j, j < n2 * 5 → (f2 j).oneCell' = true) (h2 : EntF f2 n2 E2)
    (s3 : Src w A3 n3 c3 2 ((List.range (n3 * 2)).map f3)) (o3 : ∀ j, j < n3 * 2 → (f3 j).oneCell' = true) (h3 : MemF w f3 n3 M3)
    (s4 : Src w A4 n4 c4 2 ((List.range (n4 * 2)).map f4)) (o4 : ∀ j, j < n4 * 2 → (f4 j).oneCell' = true) (h4 : MemF w f4 n4 M4)
    (hz : Row w A5 n5 c5 zs) (hsv : SV w) :
    Calls Tryd.prog 4 #[.slice A1 n1 c1, .slice A2 n2 c2, .agg #[.int .u32 a, .int .i64 b], .slice A3 n3 c3, .slice A4 n4 c4, .slice A5 n5 c5] w fun e w' => e = .returned (.bool true) ∧ Below w.heap.size w w' := by
  obtain ⟨i1, hi1, iz1, is1, ib1⟩ := info_of infoE
  obtain ⟨i2, hi2, iz2, is2, ib2⟩ := info_of infoM
  have ones : ∀ (k : Nat) (f : Nat → Value), (∀ j, j < k → (f j).oneCell' = true) → ∀ u ∈ (List.range k).map f, u.oneCell' = true := by
    intro k f h u hu
    obtain ⟨j, hj, rfl⟩ := List.mem_map.1 hu
    exact h j (List.mem_range.1 hj)
  have K1 := hide (ones _ _ o1)
  have K2 := hide (ones _ _ o2)
  have K3 := hide (ones _ _ o3)
  have K4 := hide (ones _ _ o4)
  have S1 := hide s1
  have S2 := hide s2
  have S3 := hide s3
  have S4 := hide s4
  have F1 := hide h1
  have F2 := hide h2
  have F3 := hide h3
  have F4 := hide h4
  have X1 := hide (ents_src s1 h1)
  have X2 := hide (ents_src s2 h2)
  have X3 := hide (mems_src s3 h3)
  have X4 := hide (mems_src s4 h4)
  have hl5 := hz.1
  have Z5 := hide hz.us
  have b0 := bel_one w (O2 a b)
  have HB0 := hide b0
  have p0 : (w.alloc (O2 a b)).cell? ⟨w.heap.size, 0, none⟩ = some (.int .u32 a) := cell_heap (heap_new _ _) rfl
  have p1 : (w.alloc (O2 a b)).cell? ⟨w.heap.size, 1, none⟩ = some (.int .i64 b) := cell_heap (heap_new _ _) rfl
  have P0 := hide p0
  have P1 := hide p1
  have HW := hide (works_any (w.alloc (O2 a b)) (hsv.below b0))
  have HFE := hide (fit_two E1 E2 a b n1 n2)
  have HFM := hide (mem_two (fun i => zs.getD i 0) n5 M3 M4 n3 n4)
  clear ones o1 o2 o3 o4 s1 s2 s3 s4 h1 h2 h3 h4 hz hsv b0 p0 p1
  go_enter Tryd.func4, Tryd.ntmps4
  go_wp2_with fail
  generalize (w.alloc (O2 a b)) = w0 at *
  refine HW.out.mono ?_; rintro e w1 ⟨rfl, b1⟩
  have HB1 := hide (below_wide HB0.out b1)
  have HX0 := hide b1
  clear b1 HW
  have be := bel_one w1 (.cells #[] 44)
  have HBe := hide be
  have SRC1 := hide (S1.out.below (below_wide HB1.out be))
  have oo : (w1.alloc (.cells #[] 44)).ownsRow w1.heap.size 44 5 (.slice (some ⟨w1.heap.size, 0, none⟩) 0 0) 0 [] := World.ownsRow_made w1 #[] 0 (Nat.le_refl _) (Nat.zero_le _) (by simp)
  have OO := hide oo
  clear be oo
  go_wp2_with (at_builtin; refine app_src rfl (.tmp 25) (.tmp 26) 32 rfl w1.heap.size 44 i1 _ 5 40 Tryd.underlying32 hi1 iz1 is1 ib1 rfl (by decide) _ 0 _ rfl OO.out A1 n1 c1 _ rfl SRC1.out K1.out ?c63 ?cby ?cbase ?_)
  case c63 => unfold maxLen; omega
  case cby => omega
  case cbase => exact HBe.out.size
  intro v2 w2 hown2 hgrow2
  have HY2 := hide (HBe.out.grown hgrow2 HBe.out.size (fun k hk => (OO.out.lt _ hk).1))
  try simp only [Nat.zero_add, List.nil_append] at hown2
  have OO2 := hide hown2
  have SRC2 := hide (S2.out.below (below_wide HB1.out HY2.out))
  obtain ⟨Aq, cq, rfl⟩ := own_slice hown2
  clear hown2 hgrow2 OO SRC1 HBe
  go_wp2_with (at_builtin; refine app_src rfl (.tmp 27) (.tmp 28) 32 rfl w1.heap.size 44 i1 _ 5 40 Tryd.underlying32 hi1 iz1 is1 ib1 rfl (by decide) _ n1 _ rfl OO2.out A2 n2 c2 _ rfl SRC2.out K2.out ?c63 ?cby ?cbase ?_)
  case c63 => unfold maxLen; omega
  case cby => omega
  case cbase => exact HY2.out.size
  intro v3 w3 hown3 hgrow3
  have HY3 := hide (HY2.out.grown hgrow3 HY2.out.size (fun k hk => (OO2.out.lt _ hk).1))
  obtain ⟨Ab, cb, rfl⟩ := own_slice hown3
  have XA0 := hide ((ents_two F1.out F2.out).ents (row_two hown3))
  have bn := bel_one w3 (OL ⟨#[]⟩ Ab (n1 + n2) cb)
  have q0 : (w3.alloc (OL ⟨#[]⟩ Ab (n1 + n2) cb)).cell? ⟨w3.heap.size, 0, none⟩ = some (.string ⟨#[]⟩) := cell_heap (heap_new _ _) rfl
  have q1 : (w3.alloc (OL ⟨#[]⟩ Ab (n1 + n2) cb)).cell? ⟨w3.heap.size, 1, none⟩ = some (.slice Ab (n1 + n2) cb) := cell_heap (heap_new _ _) rfl
  have Q0 := hide q0
  have Q1 := hide q1
  have XA := hide (XA0.out.below bn)
  have HB4 := hide (below_wide HB1.out (below_wide HY3.out bn))
  have HX4 := hide (below_wide HX0.out (below_wide HY3.out bn))
  have x0 := cellB HX4.out P0.out
  have x1 := cellB HX4.out P1.out
  clear hown3 hgrow3 XA0 bn HY2 HY3 OO2 SRC2 HX0 HB0 HB1 F1 F2 K1 K2 S1 S2
  go_wp2_with fail
  generalize w3.heap.size = bl at *
  generalize (w3.alloc (OL ⟨#[]⟩ Ab (n1 + n2) cb)) = w4 at *
  have L1 : n1 ≤ maxLen := by unfold maxLen; omega
  have L2 : n2 ≤ maxLen := by unfold maxLen; omega
  have L3 : n3 ≤ maxLen := by unfold maxLen; omega
  have L4 : n4 ≤ maxLen := by unfold maxLen; omega
  have L5 : n5 ≤ maxLen := by unfold maxLen; omega
  have L12 : n1 + n2 ≤ maxLen := by unfold maxLen; omega
  have L34 : n3 + n4 ≤ maxLen := by unfold maxLen; omega
  rcases HFE.out with ⟨j, hj, ea, er⟩ | ⟨ea, j, hj, eb, er⟩ | ⟨ea, eb, er⟩
  · have d1 := entry_any ⟨#[]⟩ A1 n1 c1 E1 a b w4 L1 (X1.out.below HB4.out) ha ha2
    rw [ea, plc_pos] at d1
    have D1 := hide d1
    clear d1 x0 x1
    refine D1.out.mono ?_; rintro e w5 ⟨rfl, b5⟩
    have HB5 := hide (below_wide HB4.out b5)
    have HX5 := hide (below_wide HX4.out b5)
    have HZ5 := hide b5
    have q0 := cellB b5 Q0.out
    have q1 := cellB b5 Q1.out
    have x0 := cellB HX5.out P0.out
    have x1 := cellB HX5.out P1.out
    have d2 := entry_any ⟨#[]⟩ Ab (n1 + n2) cb (appE E1 E2 n1) a b w5 L12 (XA.out.below b5) ha ha2
    rw [er, plc_pos] at d2
    have D2 := hide d2
    clear d2 b5 D1
    go_wp2_with fail
    refine D2.out.mono ?_; rintro e w6 ⟨rfl, b6⟩
    have HB6 := hide (below_wide HB5.out b6)
    have HX6 := hide (below_wide HX5.out b6)
    have HZ6 := hide (below_wide HZ5.out b6)
    clear b6 D2 q0 q1 x0 x1 HB5 HX5 HZ5
    have q0 := lat_cell (cellB HZ6.out Q0.out)
    have q1 := lat_cell (cellB HZ6.out Q1.out)
    have x0 := lat_cell (cellB HX6.out P0.out)
    have x1 := lat_cell (cellB HX6.out P1.out)
    have PN := hide (fun x => permits_none a b (lat w6 x) ha ha2)
    have AN := hide (fun x => allows_none A5 n5 c5 _ (lat w6 x) L5 ((Z5.out.below HB6.out).below (lat_below w6 x)))
    obtain ⟨bE, offE, rfl, m0, _⟩ := (X1.out.below HB6.out) j hj
    have m0 := lat_cell m0
    have pa := fun x => permits_any ⟨#[]⟩ Ab (n1 + n2) cb (appE E1 E2 n1) a b (lat w6 x) L12 ((XA.out.below HZ6.out).below (lat_below w6 x)) ha ha2
    rw [er, pmt_pos, appE_lo _ _ hj] at pa
    generalize (E1 j).pm = pm at *
    have PA := hide pa
    clear pa
    go_wp2_with fail
    refine wp_region_lat (by kernel_rfl) (by kernel_rfl) ?_
    repeat (first | go_big_quiet_step ((first | (go_at_call 17; first | with_reducible exact calls_lat (PA.out _) | with_reducible exact calls_lat (PN.out _)) | (go_at_call 18; with_reducible exact calls_lat (AN.out _)))) | quiet_step ((first | (go_at_call 17; first | with_reducible exact calls_lat (PA.out _) | with_reducible exact calls_lat (PN.out _)) | (go_at_call 18; with_reducible exact calls_lat (AN.out _)))))
    refine wpQuiet_nil ?_
    intro _ hlat
    obtain ⟨wq, rfl⟩ := hlat
    have hb7 := lat_below w6 wq
    generalize lat w6 wq = w7 at *
    have HBz := hide (below_wide HB6.out hb7)
    clear hb7 PA PN AN m0 q0 q1 x0 x1 HB6 HX6 HZ6
    have be := bel_one w7 (.cells #[] 50)
    have HBe := hide be
    have SRC3 := hide (S3.out.below (below_wide HBz.out be))
    have oo : (w7.alloc (.cells #[] 50)).ownsRow w7.heap.size 50 2 (.slice (some ⟨w7.heap.size, 0, none⟩) 0 0) 0 [] := World.ownsRow_made w7 #[] 0 (Nat.le_refl _) (Nat.zero_le _) (by simp)
    have OO := hide oo
    clear be oo
    go_wp2_with (at_builtin; refine app_src rfl (.tmp 108) (.tmp 109) 36 rfl w7.heap.size 50 i2 _ 2 32 Tryd.underlying36 hi2 iz2 is2 ib2 rfl (by decide) _ 0 _ rfl OO.out A3 n3 c3 _ rfl SRC3.out K3.out ?c63 ?cby ?cbase ?_)
    case c63 => unfold maxLen; omega
    case cby => omega
    case cbase => exact HBe.out.size
    intro u2 wa hown2 hgrow2
    have HY2 := hide (HBe.out.grown hgrow2 HBe.out.size (fun k hk => (OO.out.lt _ hk).1))
    try simp only [Nat.zero_add, List.nil_append] at hown2
    have OO2 := hide hown2
    have SRC4 := hide (S4.out.below (below_wide HBz.out HY2.out))
    obtain ⟨Aq2, cq2, rfl⟩ := own_slice hown2
    clear hown2 hgrow2 OO SRC3 HBe
    go_wp2_with (at_builtin; refine app_src rfl (.tmp 110) (.tmp 111) 36 rfl w7.heap.size 50 i2 _ 2 32 Tryd.underlying36 hi2 iz2 is2 ib2 rfl (by decide) _ n3 _ rfl OO2.out A4 n4 c4 _ rfl SRC4.out K4.out ?c63 ?cby ?cbase ?_)
    case c63 => unfold maxLen; omega
    case cby => omega
    case cbase => exact HY2.out.size
    intro u3 wb hown3 hgrow3
    have HY3 := hide (HY2.out.grown hgrow3 HY2.out.size (fun k hk => (OO2.out.lt _ hk).1))
    obtain ⟨Am, cm, rfl⟩ := own_slice hown3
    have HBb := hide (below_wide HBz.out HY3.out)
    have XM0 := hide ((mems_two (F3.out.below HBb.out) (F4.out.below HBb.out)).mems (row_two hown3))
    have bn := bel_one wb (OM ⟨#[]⟩ Am (n3 + n4) cm)
    have q2 : (wb.alloc (OM ⟨#[]⟩ Am (n3 + n4) cm)).cell? ⟨wb.heap.size, 0, none⟩ = some (.string ⟨#[]⟩) := cell_heap (heap_new _ _) rfl
    have q3 : (wb.alloc (OM ⟨#[]⟩ Am (n3 + n4) cm)).cell? ⟨wb.heap.size, 1, none⟩ = some (.slice Am (n3 + n4) cm) := cell_heap (heap_new _ _) rfl
    have Q2 := hide q2
    have Q3 := hide q3
    have XM := hide (XM0.out.below bn)
    have HBc := hide (below_wide HBb.out bn)
    clear hown3 hgrow3 XM0 bn HY2 HY3 OO2 SRC4 HBb HBz F3 F4 K3 K4 S3 S4
    go_wp2_with fail
    generalize wb.heap.size = bl2 at *
    generalize (wb.alloc (OM ⟨#[]⟩ Am (n3 + n4) cm)) = wc at *
    rcases HFM.out with ⟨i, hi, fa, fr⟩ | ⟨fa, i, hi, fb, fr⟩ | ⟨fa, fb, fr⟩
    · have d1 := member_any ⟨#[]⟩ A5 n5 c5 (fun i => zs.getD i 0) A3 n3 c3 M3 wc L5 (Z5.out.below HBc.out) L3 (X3.out.below HBc.out)
      rw [fa, plc_pos] at d1
      have D1 := hide d1
      clear d1
      refine D1.out.mono ?_; rintro e wd ⟨rfl, bd⟩
      have HBd := hide (below_wide HBc.out bd)
      have HXd := hide bd
      have q2 := cellB bd Q2.out
      have q3 := cellB bd Q3.out
      have d2 := member_any ⟨#[]⟩ A5 n5 c5 (fun i => zs.getD i 0) Am (n3 + n4) cm (appE M3 M4 n3) wd L5 (Z5.out.below HBd.out) L34 (XM.out.below bd)
      rw [fr, plc_pos] at d2
      have D2 := hide d2
      clear d2 bd D1
      go_wp2_with fail
      refine D2.out.mono ?_; rintro e we ⟨rfl, be⟩
      have HBe := hide (below_wide HBd.out be)
      have HXe := hide (below_wide HXd.out be)
      clear be D2 q2 q3
      obtain ⟨bM, offM, rfl, m0, _⟩ := (X3.out.below HBe.out) i hi
      have m0 := lat_cell m0
      have q2 := lat_cell (cellB HXe.out Q2.out)
      have q3 := lat_cell (cellB HXe.out Q3.out)
      have ab := fun x => allows_any ⟨#[]⟩ A5 n5 c5 (fun i => zs.getD i 0) Am (n3 + n4) cm (appE M3 M4 n3) (lat we x) L5 ((Z5.out.below HBe.out).below (lat_below we x)) L34 ((XM.out.below HXe.out).below (lat_below we x))
      rw [fr, pmtM_pos, appE_lo _ _ hi] at ab
      generalize (M3 i).pm = pm at *
      have AB := hide ab
      clear ab
      go_wp2_with fail
      refine wp_region_lat (by kernel_rfl) (by kernel_rfl) ?_
      repeat (first | go_big_quiet_step ((go_at_call 18; with_reducible exact calls_lat (AB.out _))) | quiet_step ((go_at_call 18; with_reducible exact calls_lat (AB.out _))))
      refine wpQuiet_nil ?_
      intro _ hlat
      obtain ⟨wq, rfl⟩ := hlat
      have HBf := hide (below_wide HBe.out (lat_below we wq))
      go_wp2_with fail
      go_ret
      exact ⟨rfl, HBf.out⟩
    · have d1 := member_any ⟨#[]⟩ A5 n5 c5 (fun i => zs.getD i 0) A3 n3 c3 M3 wc L5 (Z5.out.below HBc.out) L3 (X3.out.below HBc.out)
      rw [fa, plc_neg] at d1
      have D1 := hide d1
      clear d1
      refine D1.out.mono ?_; rintro e wd ⟨rfl, bd⟩
      have HBd := hide (below_wide HBc.out bd)
      have HXd := hide bd
      have q2 := cellB bd Q2.out
      have q3 := cellB bd Q3.out
      have d2 := member_any ⟨#[]⟩ A5 n5 c5 (fun i => zs.getD i 0) Am (n3 + n4) cm (appE M3 M4 n3) wd L5 (Z5.out.below HBd.out) L34 (XM.out.below bd)
      rw [fr, plc_pos2] at d2
      have D2 := hide d2
      clear d2 bd D1
      go_wp2_with fail
      refine D2.out.mono ?_; rintro e we ⟨rfl, be⟩
      have HBe := hide (below_wide HBd.out be)
      have HXe := hide (below_wide HXd.out be)
      clear be D2 q2 q3
      have d3 := member_any ⟨#[]⟩ A5 n5 c5 (fun i => zs.getD i 0) A4 n4 c4 M4 we L5 (Z5.out.below HBe.out) L4 (X4.out.below HBe.out)
      rw [fb, plc_pos] at d3
      have D3 := hide d3
      clear d3
      go_wp2_with fail
      refine D3.out.mono ?_; rintro e wf ⟨rfl, bf⟩
      have HBf := hide (below_wide HBe.out bf)
      clear bf D3
      go_wp2_with fail
      go_ret
      exact ⟨rfl, HBf.out⟩
    · have d1 := member_any ⟨#[]⟩ A5 n5 c5 (fun i => zs.getD i 0) A3 n3 c3 M3 wc L5 (Z5.out.below HBc.out) L3 (X3.out.below HBc.out)
      rw [fa, plc_neg] at d1
      have D1 := hide d1
      clear d1
      refine D1.out.mono ?_; rintro e wd ⟨rfl, bd⟩
      have HBd := hide (below_wide HBc.out bd)
      have HXd := hide bd
      have q2 := cellB bd Q2.out
      have q3 := cellB bd Q3.out
      have d2 := member_any ⟨#[]⟩ A5 n5 c5 (fun i => zs.getD i 0) Am (n3 + n4) cm (appE M3 M4 n3) wd L5 (Z5.out.below HBd.out) L34 (XM.out.below bd)
      rw [fr, plc_neg] at d2
      have D2 := hide d2
      clear d2 bd D1
      go_wp2_with fail
      refine D2.out.mono ?_; rintro e we ⟨rfl, be⟩
      have HBe := hide (below_wide HBd.out be)
      have HXe := hide (below_wide HXd.out be)
      clear be D2 q2 q3
      have d3 := member_any ⟨#[]⟩ A5 n5 c5 (fun i => zs.getD i 0) A4 n4 c4 M4 we L5 (Z5.out.below HBe.out) L4 (X4.out.below HBe.out)
      rw [fb, plc_neg] at d3
      have D3 := hide d3
      clear d3
      go_wp2_with fail
      refine D3.out.mono ?_; rintro e wf ⟨rfl, bf⟩
      have HBf := hide (below_wide HBe.out bf)
      clear bf D3
      go_wp2_with fail
      go_ret
      exact ⟨rfl, HBf.out⟩
  · have d1 := entry_any ⟨#[]⟩ A1 n1 c1 E1 a b w4 L1 (X1.out.below HB4.out) ha ha2
    rw [ea, plc_neg] at d1
    have D1 := hide d1
    clear d1 x0 x1
    refine D1.out.mono ?_; rintro e w5 ⟨rfl, b5⟩
    have HB5 := hide (below_wide HB4.out b5)
    have HX5 := hide (below_wide HX4.out b5)
    have HZ5 := hide b5
    have q0 := cellB b5 Q0.out
    have q1 := cellB b5 Q1.out
    have x0 := cellB HX5.out P0.out
    have x1 := cellB HX5.out P1.out
    have d2 := entry_any ⟨#[]⟩ Ab (n1 + n2) cb (appE E1 E2 n1) a b w5 L12 (XA.out.below b5) ha ha2
    rw [er, plc_pos2] at d2
    have D2 := hide d2
    clear d2 b5 D1
    go_wp2_with fail
    refine D2.out.mono ?_; rintro e w6 ⟨rfl, b6⟩
    have HB6 := hide (below_wide HB5.out b6)
    have HX6 := hide (below_wide HX5.out b6)
    have HZ6 := hide (below_wide HZ5.out b6)
    clear b6 D2 q0 q1 x0 x1 HB5 HX5 HZ5
    have q0 := lat_cell (cellB HZ6.out Q0.out)
    have q1 := lat_cell (cellB HZ6.out Q1.out)
    have x0 := lat_cell (cellB HX6.out P0.out)
    have x1 := lat_cell (cellB HX6.out P1.out)
    have PN := hide (fun x => permits_none a b (lat w6 x) ha ha2)
    have AN := hide (fun x => allows_none A5 n5 c5 _ (lat w6 x) L5 ((Z5.out.below HB6.out).below (lat_below w6 x)))
    go_wp2_with fail
    refine wp_region_lat (by kernel_rfl) (by kernel_rfl) ?_
    repeat (first | go_big_quiet_step ((first | (go_at_call 17; with_reducible exact calls_lat (PN.out _)) | (go_at_call 18; with_reducible exact calls_lat (AN.out _)))) | quiet_step ((first | (go_at_call 17; with_reducible exact calls_lat (PN.out _)) | (go_at_call 18; with_reducible exact calls_lat (AN.out _)))))
    refine wpQuiet_nil ?_
    intro _ hlat
    obtain ⟨wq, rfl⟩ := hlat
    have hb7 := lat_below w6 wq
    generalize lat w6 wq = w7 at *
    have HB7 := hide (below_wide HB6.out hb7)
    have HX7 := hide (below_wide HX6.out hb7)
    have HZ7 := hide (below_wide HZ6.out hb7)
    clear hb7 PN AN q0 q1 x0 x1 HB6 HX6 HZ6
    have x0 := cellB HX7.out P0.out
    have x1 := cellB HX7.out P1.out
    have d3 := entry_any ⟨#[]⟩ A2 n2 c2 E2 a b w7 L2 (X2.out.below HB7.out) ha ha2
    rw [eb, plc_pos] at d3
    have D3 := hide d3
    clear d3
    go_wp2_with fail
    refine D3.out.mono ?_; rintro e w8 ⟨rfl, b8⟩
    have HB8 := hide (below_wide HB7.out b8)
    have HX8 := hide (below_wide HX7.out b8)
    have HZ8 := hide (below_wide HZ7.out b8)
    clear b8 D3 x0 x1 HB7 HX7 HZ7
    have q0 := lat_cell (cellB HZ8.out Q0.out)
    have q1 := lat_cell (cellB HZ8.out Q1.out)
    have x0 := lat_cell (cellB HX8.out P0.out)
    have x1 := lat_cell (cellB HX8.out P1.out)
    have pa := fun x => permits_any ⟨#[]⟩ Ab (n1 + n2) cb (appE E1 E2 n1) a b (lat w8 x) L12 ((XA.out.below HZ8.out).below (lat_below w8 x)) ha ha2
    have pm := fun x => permits_any ⟨#[]⟩ A2 n2 c2 E2 a b (lat w8 x) L2 ((X2.out.below HB8.out).below (lat_below w8 x)) ha ha2
    rw [er, pmt_two] at pa
    rw [eb, pmt_pos] at pm
    generalize (E2 j).pm = bm at *
    have PA := hide pa
    have PM := hide pm
    clear pa pm
    go_wp2_with fail
    refine wp_region_lat (by kernel_rfl) (by kernel_rfl) ?_
    repeat (first | go_big_quiet_step ((go_at_call 17; first | with_reducible exact calls_lat (PA.out _) | with_reducible exact calls_lat (PM.out _))) | quiet_step ((go_at_call 17; first | with_reducible exact calls_lat (PA.out _) | with_reducible exact calls_lat (PM.out _))))
    refine wpQuiet_nil ?_
    intro _ hlat
    obtain ⟨wq, rfl⟩ := hlat
    have hb9 := lat_below w8 wq
    generalize lat w8 wq = w9 at *
    have HBz := hide (below_wide HB8.out hb9)
    clear hb9 PA PM q0 q1 x0 x1 HB8 HX8 HZ8
    have be := bel_one w9 (.cells #[] 50)
    have HBe := hide be
    have SRC3 := hide (S3.out.below (below_wide HBz.out be))
    have oo : (w9.alloc (.cells #[] 50)).ownsRow w9.heap.size 50 2 (.slice (some ⟨w9.heap.size, 0, none⟩) 0 0) 0 [] := World.ownsRow_made w9 #[] 0 (Nat.le_refl _) (Nat.zero_le _) (by simp)
    have OO := hide oo
    clear be oo
    go_wp2_with (at_builtin; refine app_src rfl (.tmp 108) (.tmp 109) 36 rfl w9.heap.size 50 i2 _ 2 32 Tryd.underlying36 hi2 iz2 is2 ib2 rfl (by decide) _ 0 _ rfl OO.out A3 n3 c3 _ rfl SRC3.out K3.out ?c63 ?cby ?cbase ?_)
    case c63 => unfold maxLen; omega
    case cby => omega
    case cbase => exact HBe.out.size
    intro u2 wa hown2 hgrow2
    have HY2 := hide (HBe.out.grown hgrow2 HBe.out.size (fun k hk => (OO.out.lt _ hk).1))
    try simp only [Nat.zero_add, List.nil_append] at hown2
    have OO2 := hide hown2
    have SRC4 := hide (S4.out.below (below_wide HBz.out HY2.out))
    obtain ⟨Aq2, cq2, rfl⟩ := own_slice hown2
    clear hown2 hgrow2 OO SRC3 HBe
    go_wp2_with (at_builtin; refine app_src rfl (.tmp 110) (.tmp 111) 36 rfl w9.heap.size 50 i2 _ 2 32 Tryd.underlying36 hi2 iz2 is2 ib2 rfl (by decide) _ n3 _ rfl OO2.out A4 n4 c4 _ rfl SRC4.out K4.out ?c63 ?cby ?cbase ?_)
    case c63 => unfold maxLen; omega
    case cby => omega
    case cbase => exact HY2.out.size
    intro u3 wb hown3 hgrow3
    have HY3 := hide (HY2.out.grown hgrow3 HY2.out.size (fun k hk => (OO2.out.lt _ hk).1))
    obtain ⟨Am, cm, rfl⟩ := own_slice hown3
    have HBb := hide (below_wide HBz.out HY3.out)
    have XM0 := hide ((mems_two (F3.out.below HBb.out) (F4.out.below HBb.out)).mems (row_two hown3))
    have bn := bel_one wb (OM ⟨#[]⟩ Am (n3 + n4) cm)
    have q2 : (wb.alloc (OM ⟨#[]⟩ Am (n3 + n4) cm)).cell? ⟨wb.heap.size, 0, none⟩ = some (.string ⟨#[]⟩) := cell_heap (heap_new _ _) rfl
    have q3 : (wb.alloc (OM ⟨#[]⟩ Am (n3 + n4) cm)).cell? ⟨wb.heap.size, 1, none⟩ = some (.slice Am (n3 + n4) cm) := cell_heap (heap_new _ _) rfl
    have Q2 := hide q2
    have Q3 := hide q3
    have XM := hide (XM0.out.below bn)
    have HBc := hide (below_wide HBb.out bn)
    clear hown3 hgrow3 XM0 bn HY2 HY3 OO2 SRC4 HBb HBz F3 F4 K3 K4 S3 S4
    go_wp2_with fail
    generalize wb.heap.size = bl2 at *
    generalize (wb.alloc (OM ⟨#[]⟩ Am (n3 + n4) cm)) = wc at *
    rcases HFM.out with ⟨i, hi, fa, fr⟩ | ⟨fa, i, hi, fb, fr⟩ | ⟨fa, fb, fr⟩
    · have d1 := member_any ⟨#[]⟩ A5 n5 c5 (fun i => zs.getD i 0) A3 n3 c3 M3 wc L5 (Z5.out.below HBc.out) L3 (X3.out.below HBc.out)
      rw [fa, plc_pos] at d1
      have D1 := hide d1
      clear d1
      refine D1.out.mono ?_; rintro e wd ⟨rfl, bd⟩
      have HBd := hide (below_wide HBc.out bd)
      have HXd := hide bd
      have q2 := cellB bd Q2.out
      have q3 := cellB bd Q3.out
      have d2 := member_any ⟨#[]⟩ A5 n5 c5 (fun i => zs.getD i 0) Am (n3 + n4) cm (appE M3 M4 n3) wd L5 (Z5.out.below HBd.out) L34 (XM.out.below bd)
      rw [fr, plc_pos] at d2
      have D2 := hide d2
      clear d2 bd D1
      go_wp2_with fail
      refine D2.out.mono ?_; rintro e we ⟨rfl, be⟩
      have HBe := hide (below_wide HBd.out be)
      have HXe := hide (below_wide HXd.out be)
      clear be D2 q2 q3
      obtain ⟨bM, offM, rfl, m0, _⟩ := (X3.out.below HBe.out) i hi
      have m0 := lat_cell m0
      have q2 := lat_cell (cellB HXe.out Q2.out)
      have q3 := lat_cell (cellB HXe.out Q3.out)
      have ab := fun x => allows_any ⟨#[]⟩ A5 n5 c5 (fun i => zs.getD i 0) Am (n3 + n4) cm (appE M3 M4 n3) (lat we x) L5 ((Z5.out.below HBe.out).below (lat_below we x)) L34 ((XM.out.below HXe.out).below (lat_below we x))
      rw [fr, pmtM_pos, appE_lo _ _ hi] at ab
      generalize (M3 i).pm = pm at *
      have AB := hide ab
      clear ab
      go_wp2_with fail
      refine wp_region_lat (by kernel_rfl) (by kernel_rfl) ?_
      repeat (first | go_big_quiet_step ((go_at_call 18; with_reducible exact calls_lat (AB.out _))) | quiet_step ((go_at_call 18; with_reducible exact calls_lat (AB.out _))))
      refine wpQuiet_nil ?_
      intro _ hlat
      obtain ⟨wq, rfl⟩ := hlat
      have HBf := hide (below_wide HBe.out (lat_below we wq))
      go_wp2_with fail
      go_ret
      exact ⟨rfl, HBf.out⟩
    · have d1 := member_any ⟨#[]⟩ A5 n5 c5 (fun i => zs.getD i 0) A3 n3 c3 M3 wc L5 (Z5.out.below HBc.out) L3 (X3.out.below HBc.out)
      rw [fa, plc_neg] at d1
      have D1 := hide d1
      clear d1
      refine D1.out.mono ?_; rintro e wd ⟨rfl, bd⟩
      have HBd := hide (below_wide HBc.out bd)
      have HXd := hide bd
      have q2 := cellB bd Q2.out
      have q3 := cellB bd Q3.out
      have d2 := member_any ⟨#[]⟩ A5 n5 c5 (fun i => zs.getD i 0) Am (n3 + n4) cm (appE M3 M4 n3) wd L5 (Z5.out.below HBd.out) L34 (XM.out.below bd)
      rw [fr, plc_pos2] at d2
      have D2 := hide d2
      clear d2 bd D1
      go_wp2_with fail
      refine D2.out.mono ?_; rintro e we ⟨rfl, be⟩
      have HBe := hide (below_wide HBd.out be)
      have HXe := hide (below_wide HXd.out be)
      clear be D2 q2 q3
      have d3 := member_any ⟨#[]⟩ A5 n5 c5 (fun i => zs.getD i 0) A4 n4 c4 M4 we L5 (Z5.out.below HBe.out) L4 (X4.out.below HBe.out)
      rw [fb, plc_pos] at d3
      have D3 := hide d3
      clear d3
      go_wp2_with fail
      refine D3.out.mono ?_; rintro e wf ⟨rfl, bf⟩
      have HBf := hide (below_wide HBe.out bf)
      clear bf D3
      go_wp2_with fail
      go_ret
      exact ⟨rfl, HBf.out⟩
    · have d1 := member_any ⟨#[]⟩ A5 n5 c5 (fun i => zs.getD i 0) A3 n3 c3 M3 wc L5 (Z5.out.below HBc.out) L3 (X3.out.below HBc.out)
      rw [fa, plc_neg] at d1
      have D1 := hide d1
      clear d1
      refine D1.out.mono ?_; rintro e wd ⟨rfl, bd⟩
      have HBd := hide (below_wide HBc.out bd)
      have HXd := hide bd
      have q2 := cellB bd Q2.out
      have q3 := cellB bd Q3.out
      have d2 := member_any ⟨#[]⟩ A5 n5 c5 (fun i => zs.getD i 0) Am (n3 + n4) cm (appE M3 M4 n3) wd L5 (Z5.out.below HBd.out) L34 (XM.out.below bd)
      rw [fr, plc_neg] at d2
      have D2 := hide d2
      clear d2 bd D1
      go_wp2_with fail
      refine D2.out.mono ?_; rintro e we ⟨rfl, be⟩
      have HBe := hide (below_wide HBd.out be)
      have HXe := hide (below_wide HXd.out be)
      clear be D2 q2 q3
      have d3 := member_any ⟨#[]⟩ A5 n5 c5 (fun i => zs.getD i 0) A4 n4 c4 M4 we L5 (Z5.out.below HBe.out) L4 (X4.out.below HBe.out)
      rw [fb, plc_neg] at d3
      have D3 := hide d3
      clear d3
      go_wp2_with fail
      refine D3.out.mono ?_; rintro e wf ⟨rfl, bf⟩
      have HBf := hide (below_wide HBe.out bf)
      clear bf D3
      go_wp2_with fail
      go_ret
      exact ⟨rfl, HBf.out⟩
  · have d1 := entry_any ⟨#[]⟩ A1 n1 c1 E1 a b w4 L1 (X1.out.below HB4.out) ha ha2
    rw [ea, plc_neg] at d1
    have D1 := hide d1
    clear d1 x0 x1
    refine D1.out.mono ?_; rintro e w5 ⟨rfl, b5⟩
    have HB5 := hide (below_wide HB4.out b5)
    have HX5 := hide (below_wide HX4.out b5)
    have HZ5 := hide b5
    have q0 := cellB b5 Q0.out
    have q1 := cellB b5 Q1.out
    have x0 := cellB HX5.out P0.out
    have x1 := cellB HX5.out P1.out
    have d2 := entry_any ⟨#[]⟩ Ab (n1 + n2) cb (appE E1 E2 n1) a b w5 L12 (XA.out.below b5) ha ha2
    rw [er, plc_neg] at d2
    have D2 := hide d2
    clear d2 b5 D1
    go_wp2_with fail
    refine D2.out.mono ?_; rintro e w6 ⟨rfl, b6⟩
    have HB6 := hide (below_wide HB5.out b6)
    have HX6 := hide (below_wide HX5.out b6)
    have HZ6 := hide (below_wide HZ5.out b6)
    clear b6 D2 q0 q1 x0 x1 HB5 HX5 HZ5
    have q0 := lat_cell (cellB HZ6.out Q0.out)
    have q1 := lat_cell (cellB HZ6.out Q1.out)
    have x0 := lat_cell (cellB HX6.out P0.out)
    have x1 := lat_cell (cellB HX6.out P1.out)
    have PN := hide (fun x => permits_none a b (lat w6 x) ha ha2)
    have AN := hide (fun x => allows_none A5 n5 c5 _ (lat w6 x) L5 ((Z5.out.below HB6.out).below (lat_below w6 x)))
    go_wp2_with fail
    refine wp_region_lat (by kernel_rfl) (by kernel_rfl) ?_
    repeat (first | go_big_quiet_step ((first | (go_at_call 17; with_reducible exact calls_lat (PN.out _)) | (go_at_call 18; with_reducible exact calls_lat (AN.out _)))) | quiet_step ((first | (go_at_call 17; with_reducible exact calls_lat (PN.out _)) | (go_at_call 18; with_reducible exact calls_lat (AN.out _)))))
    refine wpQuiet_nil ?_
    intro _ hlat
    obtain ⟨wq, rfl⟩ := hlat
    have hb7 := lat_below w6 wq
    generalize lat w6 wq = w7 at *
    have HB7 := hide (below_wide HB6.out hb7)
    have HX7 := hide (below_wide HX6.out hb7)
    have HZ7 := hide (below_wide HZ6.out hb7)
    clear hb7 PN AN q0 q1 x0 x1 HB6 HX6 HZ6
    have x0 := cellB HX7.out P0.out
    have x1 := cellB HX7.out P1.out
    have d3 := entry_any ⟨#[]⟩ A2 n2 c2 E2 a b w7 L2 (X2.out.below HB7.out) ha ha2
    rw [eb, plc_neg] at d3
    have D3 := hide d3
    clear d3
    go_wp2_with fail
    refine D3.out.mono ?_; rintro e w8 ⟨rfl, b8⟩
    have HB8 := hide (below_wide HB7.out b8)
    have HX8 := hide (below_wide HX7.out b8)
    have HZ8 := hide (below_wide HZ7.out b8)
    clear b8 D3 x0 x1 HB7 HX7 HZ7
    have q0 := lat_cell (cellB HZ8.out Q0.out)
    have q1 := lat_cell (cellB HZ8.out Q1.out)
    have x0 := lat_cell (cellB HX8.out P0.out)
    have x1 := lat_cell (cellB HX8.out P1.out)
    have pa := fun x => permits_any ⟨#[]⟩ Ab (n1 + n2) cb (appE E1 E2 n1) a b (lat w8 x) L12 ((XA.out.below HZ8.out).below (lat_below w8 x)) ha ha2
    have pm := fun x => permits_any ⟨#[]⟩ A2 n2 c2 E2 a b (lat w8 x) L2 ((X2.out.below HB8.out).below (lat_below w8 x)) ha ha2
    rw [er, pmt_neg] at pa
    rw [eb, pmt_neg] at pm
    have PA := hide pa
    have PM := hide pm
    clear pa pm
    go_wp2_with fail
    refine wp_region_lat (by kernel_rfl) (by kernel_rfl) ?_
    repeat (first | go_big_quiet_step ((go_at_call 17; first | with_reducible exact calls_lat (PA.out _) | with_reducible exact calls_lat (PM.out _))) | quiet_step ((go_at_call 17; first | with_reducible exact calls_lat (PA.out _) | with_reducible exact calls_lat (PM.out _))))
    refine wpQuiet_nil ?_
    intro _ hlat
    obtain ⟨wq, rfl⟩ := hlat
    have hb9 := lat_below w8 wq
    generalize lat w8 wq = w9 at *
    have HBz := hide (below_wide HB8.out hb9)
    clear hb9 PA PM q0 q1 x0 x1 HB8 HX8 HZ8
    have be := bel_one w9 (.cells #[] 50)
    have HBe := hide be
    have SRC3 := hide (S3.out.below (below_wide HBz.out be))
    have oo : (w9.alloc (.cells #[] 50)).ownsRow w9.heap.size 50 2 (.slice (some ⟨w9.heap.size, 0, none⟩) 0 0) 0 [] := World.ownsRow_made w9 #[] 0 (Nat.le_refl _) (Nat.zero_le _) (by simp)
    have OO := hide oo
    clear be oo
    go_wp2_with (at_builtin; refine app_src rfl (.tmp 108) (.tmp 109) 36 rfl w9.heap.size 50 i2 _ 2 32 Tryd.underlying36 hi2 iz2 is2 ib2 rfl (by decide) _ 0 _ rfl OO.out A3 n3 c3 _ rfl SRC3.out K3.out ?c63 ?cby ?cbase ?_)
    case c63 => unfold maxLen; omega
    case cby => omega
    case cbase => exact HBe.out.size
    intro u2 wa hown2 hgrow2
    have HY2 := hide (HBe.out.grown hgrow2 HBe.out.size (fun k hk => (OO.out.lt _ hk).1))
    try simp only [Nat.zero_add, List.nil_append] at hown2
    have OO2 := hide hown2
    have SRC4 := hide (S4.out.below (below_wide HBz.out HY2.out))
    obtain ⟨Aq2, cq2, rfl⟩ := own_slice hown2
    clear hown2 hgrow2 OO SRC3 HBe
    go_wp2_with (at_builtin; refine app_src rfl (.tmp 110) (.tmp 111) 36 rfl w9.heap.size 50 i2 _ 2 32 Tryd.underlying36 hi2 iz2 is2 ib2 rfl (by decide) _ n3 _ rfl OO2.out A4 n4 c4 _ rfl SRC4.out K4.out ?c63 ?cby ?cbase ?_)
    case c63 => unfold maxLen; omega
    case cby => omega
    case cbase => exact HY2.out.size
    intro u3 wb hown3 hgrow3
    have HY3 := hide (HY2.out.grown hgrow3 HY2.out.size (fun k hk => (OO2.out.lt _ hk).1))
    obtain ⟨Am, cm, rfl⟩ := own_slice hown3
    have HBb := hide (below_wide HBz.out HY3.out)
    have XM0 := hide ((mems_two (F3.out.below HBb.out) (F4.out.below HBb.out)).mems (row_two hown3))
    have bn := bel_one wb (OM ⟨#[]⟩ Am (n3 + n4) cm)
    have q2 : (wb.alloc (OM ⟨#[]⟩ Am (n3 + n4) cm)).cell? ⟨wb.heap.size, 0, none⟩ = some (.string ⟨#[]⟩) := cell_heap (heap_new _ _) rfl
    have q3 : (wb.alloc (OM ⟨#[]⟩ Am (n3 + n4) cm)).cell? ⟨wb.heap.size, 1, none⟩ = some (.slice Am (n3 + n4) cm) := cell_heap (heap_new _ _) rfl
    have Q2 := hide q2
    have Q3 := hide q3
    have XM := hide (XM0.out.below bn)
    have HBc := hide (below_wide HBb.out bn)
    clear hown3 hgrow3 XM0 bn HY2 HY3 OO2 SRC4 HBb HBz F3 F4 K3 K4 S3 S4
    go_wp2_with fail
    generalize wb.heap.size = bl2 at *
    generalize (wb.alloc (OM ⟨#[]⟩ Am (n3 + n4) cm)) = wc at *
    rcases HFM.out with ⟨i, hi, fa, fr⟩ | ⟨fa, i, hi, fb, fr⟩ | ⟨fa, fb, fr⟩
    · have d1 := member_any ⟨#[]⟩ A5 n5 c5 (fun i => zs.getD i 0) A3 n3 c3 M3 wc L5 (Z5.out.below HBc.out) L3 (X3.out.below HBc.out)
      rw [fa, plc_pos] at d1
      have D1 := hide d1
      clear d1
      refine D1.out.mono ?_; rintro e wd ⟨rfl, bd⟩
      have HBd := hide (below_wide HBc.out bd)
      have HXd := hide bd
      have q2 := cellB bd Q2.out
      have q3 := cellB bd Q3.out
      have d2 := member_any ⟨#[]⟩ A5 n5 c5 (fun i => zs.getD i 0) Am (n3 + n4) cm (appE M3 M4 n3) wd L5 (Z5.out.below HBd.out) L34 (XM.out.below bd)
      rw [fr, plc_pos] at d2
      have D2 := hide d2
      clear d2 bd D1
      go_wp2_with fail
      refine D2.out.mono ?_; rintro e we ⟨rfl, be⟩
      have HBe := hide (below_wide HBd.out be)
      have HXe := hide (below_wide HXd.out be)
      clear be D2 q2 q3
      obtain ⟨bM, offM, rfl, m0, _⟩ := (X3.out.below HBe.out) i hi
      have m0 := lat_cell m0
      have q2 := lat_cell (cellB HXe.out Q2.out)
      have q3 := lat_cell (cellB HXe.out Q3.out)
      have ab := fun x => allows_any ⟨#[]⟩ A5 n5 c5 (fun i => zs.getD i 0) Am (n3 + n4) cm (appE M3 M4 n3) (lat we x) L5 ((Z5.out.below HBe.out).below (lat_below we x)) L34 ((XM.out.below HXe.out).below (lat_below we x))
      rw [fr, pmtM_pos, appE_lo _ _ hi] at ab
      generalize (M3 i).pm = pm at *
      have AB := hide ab
      clear ab
      go_wp2_with fail
      refine wp_region_lat (by kernel_rfl) (by kernel_rfl) ?_
      repeat (first | go_big_quiet_step ((go_at_call 18; with_reducible exact calls_lat (AB.out _))) | quiet_step ((go_at_call 18; with_reducible exact calls_lat (AB.out _))))
      refine wpQuiet_nil ?_
      intro _ hlat
      obtain ⟨wq, rfl⟩ := hlat
      have HBf := hide (below_wide HBe.out (lat_below we wq))
      go_wp2_with fail
      go_ret
      exact ⟨rfl, HBf.out⟩
    · have d1 := member_any ⟨#[]⟩ A5 n5 c5 (fun i => zs.getD i 0) A3 n3 c3 M3 wc L5 (Z5.out.below HBc.out) L3 (X3.out.below HBc.out)
      rw [fa, plc_neg] at d1
      have D1 := hide d1
      clear d1
      refine D1.out.mono ?_; rintro e wd ⟨rfl, bd⟩
      have HBd := hide (below_wide HBc.out bd)
      have HXd := hide bd
      have q2 := cellB bd Q2.out
      have q3 := cellB bd Q3.out
      have d2 := member_any ⟨#[]⟩ A5 n5 c5 (fun i => zs.getD i 0) Am (n3 + n4) cm (appE M3 M4 n3) wd L5 (Z5.out.below HBd.out) L34 (XM.out.below bd)
      rw [fr, plc_pos2] at d2
      have D2 := hide d2
      clear d2 bd D1
      go_wp2_with fail
      refine D2.out.mono ?_; rintro e we ⟨rfl, be⟩
      have HBe := hide (below_wide HBd.out be)
      have HXe := hide (below_wide HXd.out be)
      clear be D2 q2 q3
      have d3 := member_any ⟨#[]⟩ A5 n5 c5 (fun i => zs.getD i 0) A4 n4 c4 M4 we L5 (Z5.out.below HBe.out) L4 (X4.out.below HBe.out)
      rw [fb, plc_pos] at d3
      have D3 := hide d3
      clear d3
      go_wp2_with fail
      refine D3.out.mono ?_; rintro e wf ⟨rfl, bf⟩
      have HBf := hide (below_wide HBe.out bf)
      clear bf D3
      go_wp2_with fail
      go_ret
      exact ⟨rfl, HBf.out⟩
    · have d1 := member_any ⟨#[]⟩ A5 n5 c5 (fun i => zs.getD i 0) A3 n3 c3 M3 wc L5 (Z5.out.below HBc.out) L3 (X3.out.below HBc.out)
      rw [fa, plc_neg] at d1
      have D1 := hide d1
      clear d1
      refine D1.out.mono ?_; rintro e wd ⟨rfl, bd⟩
      have HBd := hide (below_wide HBc.out bd)
      have HXd := hide bd
      have q2 := cellB bd Q2.out
      have q3 := cellB bd Q3.out
      have d2 := member_any ⟨#[]⟩ A5 n5 c5 (fun i => zs.getD i 0) Am (n3 + n4) cm (appE M3 M4 n3) wd L5 (Z5.out.below HBd.out) L34 (XM.out.below bd)
      rw [fr, plc_neg] at d2
      have D2 := hide d2
      clear d2 bd D1
      go_wp2_with fail
      refine D2.out.mono ?_; rintro e we ⟨rfl, be⟩
      have HBe := hide (below_wide HBd.out be)
      have HXe := hide (below_wide HXd.out be)
      clear be D2 q2 q3
      have d3 := member_any ⟨#[]⟩ A5 n5 c5 (fun i => zs.getD i 0) A4 n4 c4 M4 we L5 (Z5.out.below HBe.out) L4 (X4.out.below HBe.out)
      rw [fb, plc_neg] at d3
      have D3 := hide d3
      clear d3
      go_wp2_with fail
      refine D3.out.mono ?_; rintro e wf ⟨rfl, bf⟩
      have HBf := hide (below_wide HBe.out bf)
      clear bf D3
      go_wp2_with fail
      go_ret
      exact ⟨rfl, HBf.out⟩
end Go.Proofs.YtopckpjhdbjmbaaDoor.Ld
