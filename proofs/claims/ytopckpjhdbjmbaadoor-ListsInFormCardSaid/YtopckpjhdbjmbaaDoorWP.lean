/- Plain words on numbers as they are written. No program is in sight. -/
import Derived.Lib.AtoiAllCases
import Derived.Lib.ItoaNum
import Derived.Lib.ItoaMem
namespace Go.Proofs.YtopckpjhdbjmbaaDoor.Lx
open Go

def digB (c : UInt8) : Bool := decide ((48 : Int) ≤ (c.toNat : Int)) && decide ((c.toNat : Int) ≤ 57)
theorem digB_iff (c : UInt8) : digB c = true ↔ 48 ≤ c.toNat ∧ c.toNat ≤ 57 := by unfold digB; simp; omega
/-- what digits spell -/
def digV (c : UInt8) : Nat := c.toNat - 48
def valF (a : Nat) (l : List UInt8) : Nat := l.foldl (fun a c => 10 * a + digV c) a
def val (l : List UInt8) : Nat := valF 0 l
theorem valF_nil (a : Nat) : valF a [] = a := rfl
theorem valF_cons (a : Nat) (c : UInt8) (r : List UInt8) : valF a (c :: r) = valF (10 * a + (c.toNat - 48)) r := by
  unfold valF
  rw [List.foldl_cons, digV]
theorem valF_append : ∀ (l r : List UInt8) (a : Nat), valF a (l ++ r) = valF (valF a l) r := by
  intro l
  induction l with
  | nil => intro r a; rfl
  | cons c l ih => intro r a; rw [List.cons_append, valF_cons, valF_cons, ih]
theorem valF_eq : ∀ (l : List UInt8) (a : Nat), valF a l = a * 10 ^ l.length + valF 0 l := by
  intro l
  induction l with
  | nil => intro a; simp [valF_nil]
  | cons c l ih =>
    intro a
    rw [valF_cons, valF_cons, ih (10 * a + (c.toNat - 48)), ih (10 * 0 + (c.toNat - 48)), List.length_cons, Nat.pow_succ]
    generalize 10 ^ l.length = P
    generalize c.toNat - 48 = d
    generalize valF 0 l = v
    rw [Nat.add_mul, Nat.mul_zero, Nat.zero_add, show 10 * a * P = a * (P * 10) by rw [Nat.mul_comm 10 a, Nat.mul_assoc, Nat.mul_comm 10 P]]
    omega
theorem valF_lt : ∀ (l : List UInt8), (∀ c ∈ l, digB c = true) → valF 0 l < 10 ^ l.length := by
  intro l
  induction l with
  | nil => intro _; simp [valF_nil]
  | cons c l ih =>
    intro h
    rw [valF_cons, valF_eq, List.length_cons, Nat.pow_succ]
    have h1 := ih (fun d hd => h d (by simp [hd]))
    have h2 := (digB_iff c).1 (h c (by simp))
    have h3 : c.toNat - 48 ≤ 9 := by omega
    have h4 := Nat.mul_le_mul_right (10 ^ l.length) h3
    rw [Nat.mul_zero, Nat.zero_add]
    omega
/-- is a text a number as it is written? -/
def canon (l : List UInt8) : Bool := !l.isEmpty && l.all digB && (decide (l.length ≤ 1) || !(l.headD 0 == 48))
def maxI : Nat := 9223372036854775807
/-- what Number answers -/
def numRes (l : List UInt8) (most : Int) : Int × Bool := if canon l = true ∧ val l ≤ maxI ∧ (val l : Int) ≤ most then ((val l : Int), true) else (0, false)
theorem numRes_no {l : List UInt8} {most : Int} (h : canon l = false) : numRes l most = (0, false) := by unfold numRes; rw [if_neg (by rw [h]; simp)]
theorem numRes_big {l : List UInt8} {most : Int} (h : maxI < val l) : numRes l most = (0, false) := by unfold numRes; rw [if_neg (by omega)]
theorem numRes_most {l : List UInt8} {most : Int} (h : most < (val l : Int)) : numRes l most = (0, false) := by unfold numRes; rw [if_neg (by omega)]
theorem numRes_yes {l : List UInt8} {most : Int} (h : canon l = true) (h1 : val l ≤ maxI) (h2 : (val l : Int) ≤ most) : numRes l most = ((val l : Int), true) := by unfold numRes; rw [if_pos ⟨h, h1, h2⟩]

theorem canon_snoc (l : List UInt8) (c : UInt8) (hl : canon l = true) (hh : ¬ l = [48]) (hc : digB c = true) : canon (l ++ [c]) = true := by
  unfold canon at hl ⊢
  simp only [Bool.and_eq_true, Bool.or_eq_true, decide_eq_true_eq, Bool.not_eq_true', List.isEmpty_eq_false_iff, List.all_eq_true, beq_eq_false_iff_ne] at hl ⊢
  obtain ⟨⟨h1, h2⟩, h3⟩ := hl
  obtain ⟨x, xs, rfl⟩ := List.exists_cons_of_ne_nil h1
  refine ⟨⟨by simp, fun y hy => ?_⟩, .inr ?_⟩
  · rcases List.mem_append.1 hy with hy | hy
    · exact h2 y hy
    · have : y = c := by simpa using hy
      rw [this]; exact hc
  · rcases h3 with h3 | h3
    · have : xs = [] := List.eq_nil_of_length_eq_zero (by rw [List.length_cons] at h3; omega)
      subst this
      show ¬ x = 48
      intro e
      exact hh (by rw [e])
    · exact h3
theorem canon_one {x : UInt8} (h : digB x = true) : canon [x] = true := by
  unfold canon
  rw [List.all_cons, h]
  rfl
theorem dig_of (u : Nat) (h : u < 10) : digB (UInt8.ofNat (48 + u)) = true ∧ (UInt8.ofNat (48 + u)).toNat = 48 + u := by
  have e : (UInt8.ofNat (48 + u)).toNat = 48 + u := by simp; omega
  exact ⟨(digB_iff _).2 (by omega), e⟩
theorem decDigits_canon (u : Nat) : canon (Lib.decDigits u) = true ∧ val (Lib.decDigits u) = u ∧ (Lib.decDigits u = [48] → u = 0) := by
  induction u using Nat.strongRecOn with
  | _ u ih =>
    by_cases h : u < 10
    · rw [Lib.decDigits, dif_pos h]
      obtain ⟨h1, h2⟩ := dig_of u h
      refine ⟨canon_one h1, ?_, fun e => ?_⟩
      · unfold val
        rw [valF_cons, valF_nil, h2]; omega
      · injection e with e
        have := congrArg UInt8.toNat e
        rw [h2] at this
        have e48 : (48 : UInt8).toNat = 48 := rfl
        omega
    · rw [Lib.decDigits, dif_neg h]
      obtain ⟨h1, h2, h3⟩ := ih (u / 10) (by omega)
      obtain ⟨h4, h5⟩ := dig_of (u % 10) (by omega)
      refine ⟨canon_snoc _ _ h1 (fun e => by have := h3 e; omega) h4, ?_, fun e => ?_⟩
      · unfold val at h2 ⊢
        rw [valF_append, h2, valF_cons, valF_nil, h5]
        omega
      · have := congrArg List.length e
        have h6 : (Lib.decDigits (u / 10)) ≠ [] := by
          intro e0
          rw [e0] at h1
          cases h1
        have h7 := List.length_pos_iff.2 h6
        rw [List.length_append, List.length_singleton, List.length_singleton] at this
        omega
theorem canon_dec : ∀ (n : Nat) (l : List UInt8), l.length ≤ n → canon l = true → Lib.decDigits (val l) = l := by
  intro n
  induction n with
  | zero =>
    intro l hl h
    have : l = [] := List.eq_nil_of_length_eq_zero (by omega)
    rw [this] at h; cases h
  | succ n ih =>
    intro l hl h
    have h0 := h
    unfold canon at h
    simp only [Bool.and_eq_true, Bool.or_eq_true, decide_eq_true_eq, Bool.not_eq_true', List.isEmpty_eq_false_iff, List.all_eq_true, beq_eq_false_iff_ne] at h
    obtain ⟨⟨h1, h2⟩, h3⟩ := h
    obtain ⟨r, c, rfl⟩ : ∃ r c, l = r ++ [c] := ⟨l.dropLast, l.getLast h1, (List.dropLast_concat_getLast h1).symm⟩
    have hc := (digB_iff c).1 (h2 c (by simp))
    by_cases hr : r = []
    · subst hr
      have hv : val ([] ++ [c]) = c.toNat - 48 := by unfold val; rw [List.nil_append, valF_cons, valF_nil]; omega
      rw [hv, Lib.decDigits, dif_pos (by omega), show 48 + (c.toNat - 48) = c.toNat by omega]
      simp
    · obtain ⟨x, xs, rfl⟩ := List.exists_cons_of_ne_nil hr
      have hx : x ≠ 48 := by
        rcases h3 with h3 | h3
        · simp at h3
        · exact h3
      have hcr : canon (x :: xs) = true := by
        unfold canon
        simp only [Bool.and_eq_true, Bool.or_eq_true, decide_eq_true_eq, Bool.not_eq_true', List.isEmpty_eq_false_iff, List.all_eq_true, beq_eq_false_iff_ne]
        exact ⟨⟨List.cons_ne_nil _ _, fun y hy => h2 y (by rcases List.mem_cons.1 hy with rfl | hy; simp; simp [hy])⟩, .inr hx⟩
      have hih := ih (x :: xs) (by simp at hl ⊢; omega) hcr
      have hv : val (x :: xs ++ [c]) = 10 * val (x :: xs) + (c.toNat - 48) := by unfold val; rw [valF_append, valF_cons, valF_nil]
      have hpos : 1 ≤ val (x :: xs) := by
        unfold val
        rw [valF_cons, valF_eq]
        have hxd := (digB_iff x).1 (h2 x (by simp))
        have : x.toNat ≠ 48 := fun e => hx (by rw [← UInt8.toNat_inj]; exact e)
        have hp : 1 ≤ 10 ^ xs.length := Nat.one_le_pow _ _ (by decide)
        have := Nat.mul_le_mul (show 1 ≤ 10 * 0 + (x.toNat - 48) by omega) hp
        omega
      rw [hv, Lib.decDigits, dif_neg (by omega), show (10 * val (x :: xs) + (c.toNat - 48)) / 10 = val (x :: xs) by omega, show 48 + (10 * val (x :: xs) + (c.toNat - 48)) % 10 = c.toNat by omega, hih]
      simp
theorem valF_mono (l : List UInt8) (a b : Nat) (h : a ≤ b) : valF a l ≤ valF b l := by
  rw [valF_eq l a, valF_eq l b]
  have := Nat.mul_le_mul_right (10 ^ l.length) h
  omega
theorem valF_ge (l : List UInt8) (a : Nat) : a ≤ valF a l := by
  rw [valF_eq]
  have hp : 1 ≤ 10 ^ l.length := Nat.one_le_pow _ _ (by decide)
  have := Nat.mul_le_mul_left a hp
  omega
theorem parse_dig : ∀ (l : List UInt8) (a : Nat), a < 18446744073709551616 → (∀ c ∈ l, digB c = true) → Lib.parseUint10 a l = if valF a l < 18446744073709551616 then .ok (valF a l) else .range := by
  intro l
  induction l with
  | nil => intro a ha _; rw [Lib.parseUint10, valF_nil, if_pos ha]
  | cons c l ih =>
    intro a ha h
    have hc := (digB_iff c).1 (h c (by simp))
    have hge := valF_ge l (10 * a + (c.toNat - 48))
    rw [Lib.parseUint10, if_pos hc, valF_cons]
    by_cases h1 : 1844674407370955162 ≤ a
    · rw [if_pos h1, if_neg (by omega)]
    · rw [if_neg h1]
      by_cases h2 : 18446744073709551616 ≤ a * 10 + (c.toNat - 48)
      · rw [if_pos h2, if_neg (by omega)]
      · rw [if_neg h2, Nat.mul_comm a 10]
        exact ih _ (by omega) (fun d hd => h d (by simp [hd]))
theorem atoi_canon (l : List UInt8) (h : canon l = true) : Lib.atoiAll l = if val l ≤ maxI then .ok ((val l : Nat) : Int) else .range := by
  unfold canon at h
  simp only [Bool.and_eq_true, Bool.or_eq_true, decide_eq_true_eq, Bool.not_eq_true', List.isEmpty_eq_false_iff, List.all_eq_true, beq_eq_false_iff_ne] at h
  obtain ⟨⟨h1, h2⟩, h3⟩ := h
  obtain ⟨c, r, rfl⟩ := List.exists_cons_of_ne_nil h1
  have hc := (digB_iff c).1 (h2 c (by simp))
  rw [Lib.atoiAll_plain c r (by omega) (by omega), Lib.parseMag, if_neg (List.cons_ne_nil _ _), parse_dig _ 0 (by omega) h2]
  have hv : val (c :: r) = valF 0 (c :: r) := rfl
  rw [← hv]
  unfold maxI
  by_cases hlt : val (c :: r) < 18446744073709551616
  · rw [if_pos hlt, Lib.signless]
    by_cases h9 : 9223372036854775808 ≤ val (c :: r)
    · rw [if_pos h9, if_neg (by omega)]
    · rw [if_neg h9, if_pos (by omega)]
  · rw [if_neg hlt, Lib.signless, if_neg (by omega)]
/-- what the program's Number answers, out of what Atoi and Itoa give -/
def numAt (l : List UInt8) (most : Int) : Int × Bool :=
  match Lib.atoiAll l with
  | .ok v => if 0 ≤ v ∧ v ≤ most ∧ Lib.itoa v = l then (v, true) else (0, false)
  | _ => (0, false)
theorem numAt_eq (l : List UInt8) (most : Int) : numAt l most = numRes l most := by
  unfold numAt
  cases hc : canon l
  · rw [numRes_no hc]
    split
    · rename_i v hv
      rw [if_neg]
      rintro ⟨h0, _, h2⟩
      rw [show v = ((v.toNat : Nat) : Int) by omega, Lib.itoa_nonneg] at h2
      have := (decDigits_canon v.toNat).1
      rw [h2, hc] at this
      cases this
    · rfl
  · rw [atoi_canon l hc]
    by_cases h : val l ≤ maxI
    · rw [if_pos h]
      simp only
      rw [Lib.itoa_nonneg, canon_dec _ l (Nat.le_refl _) hc]
      by_cases hm : (val l : Int) ≤ most
      · rw [if_pos ⟨by omega, hm, rfl⟩, numRes_yes hc h hm]
      · rw [if_neg (fun h => hm h.2.1), numRes_most (by omega)]
    · rw [if_neg h]
      simp only
      rw [numRes_big (by omega)]
/-- the greatest int, as it is written -/
def maxS : List UInt8 := [57, 50, 50, 51, 51, 55, 50, 48, 51, 54, 56, 53, 52, 55, 55, 53, 56, 48, 55]
theorem maxS_dec : Lib.decDigits 9223372036854775807 = maxS := by
  have : val maxS = 9223372036854775807 := by decide
  rw [← this]
  exact canon_dec _ maxS (Nat.le_refl _) (by decide)
/-- digits in the order of texts are in the order of numbers -/
def leT : List UInt8 → List UInt8 → Bool
  | [], _ => true
  | _ :: _, [] => false
  | x :: xs, y :: ys => decide (x.toNat < y.toNat) || (x == y && leT xs ys)
theorem leT_val : ∀ (a b : List UInt8), a.length = b.length → (∀ c ∈ a, digB c = true) → (∀ c ∈ b, digB c = true) → (leT a b = true ↔ valF 0 a ≤ valF 0 b) := by
  intro a
  induction a with
  | nil => intro b hl _ _; simp [leT, valF_nil]
  | cons x xs ih =>
    intro b hl ha hb
    cases b with
    | nil => simp at hl
    | cons y ys =>
      simp at hl
      have hx := (digB_iff x).1 (ha x (by simp))
      have hy := (digB_iff y).1 (hb y (by simp))
      have h1 := valF_lt xs (fun d hd => ha d (by simp [hd]))
      have h2 := valF_lt ys (fun d hd => hb d (by simp [hd]))
      have hi := ih ys hl (fun d hd => ha d (by simp [hd])) (fun d hd => hb d (by simp [hd]))
      rw [leT, valF_cons, valF_cons, valF_eq xs, valF_eq ys, hl] at *
      simp only [Nat.mul_zero, Nat.zero_add, Bool.or_eq_true, decide_eq_true_eq, Bool.and_eq_true, beq_iff_eq]
      generalize 10 ^ ys.length = P at *
      by_cases hxy : x = y
      · subst hxy
        simp only [Nat.lt_irrefl, false_or, true_and]
        rw [hi]
        omega
      · have hne : x.toNat ≠ y.toNat := fun e => hxy (UInt8.toNat_inj.1 e)
        by_cases hlt : x.toNat < y.toNat
        · have h3 := Nat.mul_le_mul_right P (show x.toNat - 48 + 1 ≤ y.toNat - 48 by omega)
          rw [Nat.add_mul] at h3
          simp only [hlt, true_or, true_iff]
          omega
        · have h3 := Nat.mul_le_mul_right P (show y.toNat - 48 + 1 ≤ x.toNat - 48 by omega)
          rw [Nat.add_mul] at h3
          simp only [hlt, hxy, false_and, or_false, false_iff]
          omega
theorem canon_long {l : List UInt8} (h : canon l = true) (hl : 20 ≤ l.length) : maxI < val l := by
  unfold canon at h
  simp only [Bool.and_eq_true, Bool.or_eq_true, decide_eq_true_eq, Bool.not_eq_true', List.isEmpty_eq_false_iff, List.all_eq_true, beq_eq_false_iff_ne] at h
  obtain ⟨⟨h1, h2⟩, h3⟩ := h
  obtain ⟨c, r, rfl⟩ := List.exists_cons_of_ne_nil h1
  have hc := (digB_iff c).1 (h2 c (by simp))
  have hne : c.toNat ≠ 48 := fun e => by
    rcases h3 with h3 | h3
    · omega
    · exact h3 (UInt8.toNat_inj.1 (show c.toNat = (48 : UInt8).toNat from e))
  unfold val
  rw [valF_cons, valF_eq]
  have hp : 10 ^ 19 ≤ 10 ^ r.length := Nat.pow_le_pow_right (by decide) (by simp at hl; omega)
  have := Nat.mul_le_mul (show 1 ≤ 10 * 0 + (c.toNat - 48) by omega) hp
  unfold maxI
  have e : 1 * 10 ^ 19 = 10000000000000000000 := by decide
  omega
end Go.Proofs.YtopckpjhdbjmbaaDoor.Lx
