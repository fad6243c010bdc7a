/- Plain words on places: the row of a number, whether a word stands there; what was cut stands where it is told. No program is in sight. -/
import Derived.Test.YtihmmmodimionaaDoorLN
import Derived.Test.YtihmmmodimionaaDoorQ
namespace Go.Proofs.YtihmmmodimionaaDoor.Lx
open Go

def notNl (x : UInt8) : Bool := !(x == 10)
/-- the row of a number, from 1 on -/
def rowAt (s : List UInt8) (n : Int) : List UInt8 := (rowsOf s [])[(n - 1).toNat]?.getD []
def standsIn (row w : List UInt8) (c : Int) : Bool := decide (1 ≤ c) && (decide (c - 1 + w.length ≤ row.length) && ((row.drop (c - 1).toNat).take w.length == w))
def standsB (s w : List UInt8) (l c : Int) : Bool := standsIn (rowAt s l) w c

theorem rowsOf_head : ∀ (b cur : List UInt8), (rowsOf b cur)[0]? = some (cur ++ b.takeWhile notNl) := by
  intro b
  induction b with
  | nil => intro cur; simp [rowsOf]
  | cons x xs ih =>
    intro cur
    rw [rowsOf]
    by_cases h : x = 10
    · rw [if_pos h]; simp [notNl, h]
    · rw [if_neg h, ih]
      have : notNl x = true := by simp [notNl, h]
      rw [List.takeWhile_cons, if_pos this]; simp
theorem rows_place : ∀ (a b cur : List UInt8) (l : Int), ∃ p : List UInt8, (p.length : Int) = (adv a l (cur.length + 1)).2 - 1 ∧ l ≤ (adv a l (cur.length + 1)).1 ∧ (rowsOf (a ++ b) cur)[((adv a l (cur.length + 1)).1 - l).toNat]? = some (p ++ b.takeWhile notNl) := by
  intro a
  induction a with
  | nil =>
    intro b cur l
    refine ⟨cur, by simp only [adv]; omega, by simp only [adv]; omega, ?_⟩
    simp only [adv, List.nil_append, Int.sub_self, Int.toNat_zero]
    exact rowsOf_head b cur
  | cons x xs ih =>
    intro b cur l
    simp only [adv, List.cons_append, rowsOf]
    by_cases h : x = 10
    · simp only [if_pos h]
      obtain ⟨p, h1, h2, h3⟩ := ih b [] (l + 1)
      simp only [List.length_nil, Int.natCast_zero, Int.zero_add] at h1 h2 h3
      refine ⟨p, h1, by omega, ?_⟩
      rw [show ((adv xs (l + 1) 1).1 - l).toNat = ((adv xs (l + 1) 1).1 - (l + 1)).toNat + 1 by omega, List.getElem?_cons_succ]
      exact h3
    · simp only [if_neg h]
      obtain ⟨p, h1, h2, h3⟩ := ih b (cur ++ [x]) l
      have e : ((cur ++ [x]).length : Int) + 1 = cur.length + 1 + 1 := by simp
      rw [e] at h1 h2 h3
      exact ⟨p, h1, h2, h3⟩
/-- the row of a byte's place -/
theorem row_place (a b : List UInt8) : ∃ p : List UInt8, (p.length : Int) = (adv a 1 1).2 - 1 ∧ rowAt (a ++ b) (adv a 1 1).1 = p ++ b.takeWhile notNl := by
  obtain ⟨p, h1, h2, h3⟩ := rows_place a b [] 1
  simp only [List.length_nil, Int.natCast_zero, Int.zero_add] at h1 h2 h3
  exact ⟨p, h1, by unfold rowAt; rw [h3]; rfl⟩
theorem stands_place (a b w : List UInt8) : standsB (a ++ b) w (adv a 1 1).1 (adv a 1 1).2 = decide (w <+: b.takeWhile notNl) := by
  obtain ⟨p, h1, h2⟩ := row_place a b
  unfold standsB standsIn
  rw [h2]
  generalize (adv a 1 1).2 = c at *
  obtain rfl : c = p.length + 1 := by omega
  rw [show ((p.length : Int) + 1 - 1).toNat = p.length by omega, List.drop_left' rfl, Bool.eq_iff_iff]
  simp only [Bool.and_eq_true, decide_eq_true_eq, beq_iff_eq, List.length_append]
  rw [List.prefix_iff_eq_take]
  constructor
  · rintro ⟨_, _, h⟩; exact h.symm
  · intro h
    refine ⟨by omega, ?_, h.symm⟩
    have := congrArg List.length h
    rw [List.length_take] at this
    omega
theorem adv_lex : ∀ (a : List UInt8) (l c : Int), l < (adv a l c).1 ∨ ((adv a l c).1 = l ∧ (adv a l c).2 = c + a.length) := by
  intro a
  induction a with
  | nil => intro l c; right; simp [adv]
  | cons x xs ih =>
    intro l c
    simp only [adv]
    split
    · left
      rcases ih (l + 1) 1 with h | h <;> omega
    · rcases ih l (c + 1) with h | h
      · exact .inl h
      · right; refine ⟨h.1, ?_⟩; rw [h.2, List.length_cons]; push_cast; omega
theorem takeWhile_pre {a r : List UInt8} (h : a <+: r) (hn : ∀ x ∈ a, x ≠ 10) : a <+: r.takeWhile notNl := by
  obtain ⟨b, rfl⟩ := h
  rw [List.takeWhile_append_of_pos (fun x hx => by simp [notNl, hn x hx])]
  exact List.prefix_append _ _

/-- what the words of a row meet, one by one: each behind the last one, each where it is told -/
def wOk (row : List UInt8) : Int → List Wd → Prop
  | _, [] => True
  | col, w :: ws => w.t ≠ [] ∧ col < w.c ∧ standsIn row w.t w.c = true ∧ wOk row (w.c + w.t.length) ws
theorem stands_mid (p t r : List UInt8) : standsIn (p ++ t ++ r) t (p.length + 1) = true := by
  unfold standsIn
  rw [show ((p.length : Int) + 1 - 1).toNat = p.length by omega, List.append_assoc, List.drop_left' rfl, List.take_left' rfl]
  simp only [List.length_append, beq_self_eq_true, Bool.and_true, Bool.and_eq_true, decide_eq_true_eq]
  omega
theorem wOk_end (pre cur rest : List UInt8) (col : Int) (ws : List Wd) (hc : col ≤ pre.length) (h : wOk (pre ++ cur ++ rest) (if cur = [] then col else pre.length + 1 + cur.length) ws) :
    wOk (pre ++ cur ++ rest) col (endW (pre.length + cur.length : Nat) cur ++ ws) := by
  unfold endW
  by_cases hn : cur = []
  · rw [if_pos hn] at h ⊢
    exact h
  · rw [if_neg hn] at h ⊢
    have e : ((pre.length + cur.length : Nat) : Int) - cur.length + 1 = pre.length + 1 := by omega
    rw [e]
    exact ⟨hn, by show col < _; simp only; omega, stands_mid pre cur rest, h⟩
theorem wds_ok : ∀ (rest pre cur : List UInt8) (col : Int), col ≤ pre.length → wOk (pre ++ cur ++ rest) col (wds rest (pre.length + cur.length : Nat) cur) := by
  intro rest
  induction rest with
  | nil =>
    intro pre cur col hc
    rw [wds]
    have := wOk_end pre cur [] col [] hc trivial
    rw [List.append_nil (endW _ _)] at this
    exact this
  | cons x xs ih =>
    intro pre cur col hc
    rw [wds]
    by_cases h : x = 32
    · rw [if_pos h]
      refine wOk_end pre cur (x :: xs) col _ hc ?_
      have e : pre ++ cur ++ x :: xs = (pre ++ cur ++ [x]) ++ [] ++ xs := by simp
      have e2 : ((pre.length + cur.length : Nat) : Int) + 1 = (((pre ++ cur ++ [x]).length + ([] : List UInt8).length : Nat) : Int) := by simp; omega
      rw [e, e2]
      refine ih _ _ _ ?_
      split <;> simp <;> omega
    · rw [if_neg h]
      have e : pre ++ cur ++ x :: xs = pre ++ (cur ++ [x]) ++ xs := by simp
      have e2 : ((pre.length + cur.length : Nat) : Int) + 1 = ((pre.length + (cur ++ [x]).length : Nat) : Int) := by simp; omega
      rw [e, e2]
      exact ih _ _ _ hc
/-- what the lines of a text meet, one by one -/
def lOk (s : List UInt8) : Int → List Ln → Prop
  | _, [] => True
  | line, x :: xs => line < x.l ∧ (1 ≤ x.l ∧ x.l ≤ s.length + 1) ∧ (∃ w ws, x.ws = w :: ws ∧ w.c = x.ind + 1) ∧ wOk (rowAt s x.l) 0 x.ws ∧ lOk s x.l xs
theorem rowsOf_len : ∀ (b cur : List UInt8), (rowsOf b cur).length ≤ b.length + 1 ∧ ∀ r ∈ rowsOf b cur, r.length ≤ cur.length + b.length := by
  intro b
  induction b with
  | nil => intro cur; simp [rowsOf]
  | cons x xs ih =>
    intro cur
    rw [rowsOf]
    split
    · obtain ⟨h1, h2⟩ := ih []
      refine ⟨by simp; omega, fun r hr => ?_⟩
      rcases List.mem_cons.1 hr with rfl | hr
      · omega
      · have := h2 r hr
        simp at this ⊢
        omega
    · obtain ⟨h1, h2⟩ := ih (cur ++ [x])
      refine ⟨by simp; omega, fun r hr => ?_⟩
      have := h2 r hr
      simp at this ⊢
      omega
theorem rowAt_len (s : List UInt8) (n : Int) : (rowAt s n).length ≤ s.length := by
  unfold rowAt
  cases h : (rowsOf s [])[(n - 1).toNat]? with
  | none => simp
  | some r =>
    have := (rowsOf_len s []).2 r (List.mem_of_getElem? h)
    simpa using this
theorem standsIn_bd {row w : List UInt8} {c : Int} (h : standsIn row w c = true) : 1 ≤ c ∧ c - 1 + w.length ≤ row.length := by
  unfold standsIn at h
  simp only [Bool.and_eq_true, decide_eq_true_eq] at h
  exact ⟨h.1, h.2.1⟩
theorem linesOf_ok (s : List UInt8) : ∀ (rows : List (List UInt8)) (n : Nat) (line : Int), rows = (rowsOf s []).drop n → line ≤ n → lOk s line (linesOf rows (n + 1)) := by
  intro rows
  induction rows with
  | nil => intro n line _ _; exact trivial
  | cons r rs ih =>
    intro n line hr hl
    have hget : (rowsOf s [])[n]? = some r := by
      have := congrArg (fun l => l[0]?) hr
      simp only [List.getElem?_cons_zero, List.getElem?_drop, Nat.add_zero] at this
      exact this.symm
    have hnl : n < (rowsOf s []).length := (List.getElem?_eq_some_iff.1 hget).1
    have hnl2 := (rowsOf_len s []).1
    have hrs : rs = (rowsOf s []).drop (n + 1) := by
      have := congrArg List.tail hr
      rw [List.tail_drop] at this
      exact this
    have hrow : rowAt s ((n : Int) + 1) = r := by
      unfold rowAt
      rw [show ((n : Int) + 1 - 1).toNat = n by omega, hget]; rfl
    have hih := ih (n + 1) (n + 1) hrs (by omega)
    have hih2 := ih (n + 1) line hrs (by omega)
    push_cast at hih hih2
    rw [linesOf]
    unfold lineOf
    have hw := wds_ok r [] [] 0 (by simp)
    simp only [List.nil_append, List.length_nil, Nat.add_zero, Int.natCast_zero] at hw
    cases hwd : wds r 0 [] with
    | nil => exact hih2
    | cons w ws =>
      simp only
      by_cases hb : w.t.headD 0 = 33
      · rw [if_pos hb]; exact hih2
      · rw [if_neg hb]
        rw [hwd] at hw
        exact ⟨by show line < (n : Int) + 1; omega, ⟨by show 1 ≤ (n : Int) + 1; omega, by show (n : Int) + 1 ≤ _; omega⟩, ⟨w, ws, rfl, by show w.c = w.c - 1 + 1; omega⟩, by rw [show rowAt s ((n : Int) + 1) = r from hrow]; exact hw, hih⟩
theorem linRes_lok (s : List UInt8) : lOk s 0 (linRes s).1 := by
  unfold linRes
  split
  · exact linesOf_ok s (rowsOf s []) 0 0 rfl (by omega)
  · exact trivial

/-- what the tokens of a text meet, one by one -/
def tOk (s : List UInt8) : Int → Int → List Tok → Prop
  | _, _, [] => True
  | pl, pc, t :: ts => (pl < t.l ∨ (t.l = pl ∧ pc < t.c)) ∧ (1 ≤ t.l ∧ t.l ≤ s.length + 1) ∧ (1 ≤ t.c ∧ t.c ≤ s.length + 1) ∧
      ((standsB s [34] t.l t.c = true ∧ standsB s t.t t.l (t.c + 1) = true) ∨ (standsB s [34] t.l t.c = false ∧ standsB s t.t t.l t.c = true ∧ t.t ≠ [])) ∧ tOk s t.l t.c ts
theorem firstN_before (p : List UInt8 → Bool) : ∀ (s : List UInt8) (k : Nat), k < firstN p s → p (s.drop k) = false := by
  intro s
  induction s with
  | nil => intro k h; simp [firstN] at h
  | cons x xs ih =>
    intro k h
    unfold firstN at h
    split at h
    · omega
    · cases k with
      | zero => rename_i hp; exact Bool.eq_false_iff.2 hp
      | succ k => simpa using ih k (by omega)
theorem indexAny_before : ∀ (s cs : List UInt8), 0 ≤ Lib.indexAny s cs → ∀ x ∈ s.take (Lib.indexAny s cs).toNat, cs.contains x = false := by
  intro s
  induction s with
  | nil => intro cs h; simp [Lib.indexAny] at h
  | cons y ys ih =>
    intro cs h
    unfold Lib.indexAny at h ⊢
    split
    · simp
    · rename_i hc
      rw [if_neg hc] at h
      split at h
      · omega
      · rename_i h1
        rw [if_neg h1]
        have hge := Lib.indexAny_ge cs ys
        have h1' : ¬ Lib.indexAny ys cs = -1 := by simpa using h1
        rw [show (Lib.indexAny ys cs + 1).toNat = (Lib.indexAny ys cs).toNat + 1 by omega, List.take_succ_cons]
        intro x hx
        rcases List.mem_cons.1 hx with rfl | hx
        · simpa using hc
        · exact ih cs (by omega) x hx
theorem pre_tw {w r : List UInt8} (h : w <+: r.takeWhile notNl) : standsB = standsB ∧ w <+: r := ⟨rfl, h.trans (List.takeWhile_prefix _)⟩
/-- what a token of a step is: it stands there -/
theorem step_place (a r : List UInt8) (hr : r ≠ []) (he : (step r).err = false) (hi : (step r).is = true) :
    ((standsB (a ++ r) [34] (adv a 1 1).1 (adv a 1 1).2 = true ∧ standsB (a ++ r) (step r).t (adv a 1 1).1 ((adv a 1 1).2 + 1) = true) ∨ (standsB (a ++ r) [34] (adv a 1 1).1 (adv a 1 1).2 = false ∧ standsB (a ++ r) (step r).t (adv a 1 1).1 (adv a 1 1).2 = true ∧ (step r).t ≠ [])) ∧ 1 ≤ (step r).n := by
  obtain ⟨x, xs, rfl⟩ := List.exists_cons_of_ne_nil hr
  have hs : step (x :: xs) = step (x :: xs) := rfl
  conv at hs => rhs; unfold step; rw [show (x :: xs).headD 0 = x from rfl]
  have hq : ∀ (h34 : x ≠ 34), standsB (a ++ x :: xs) [34] (adv a 1 1).1 (adv a 1 1).2 = false := by
    intro h34
    rw [stands_place, decide_eq_false_iff_not]
    intro hp
    have := (pre_tw hp).2
    rw [List.cons_prefix_cons] at this
    exact h34 this.1.symm
  by_cases h1 : x = 32 ∨ x = 10
  · rw [if_pos h1] at hs; rw [hs] at hi; cases hi
  rw [if_neg h1] at hs
  by_cases h2 : x = 35
  · rw [if_pos h2] at hs; rw [hs] at hi; cases hi
  rw [if_neg h2] at hs
  by_cases h3 : Lib.hasPrefix (x :: xs) [47, 42] = true
  · rw [if_pos h3] at hs
    split at hs <;> (rw [hs] at hi; cases hi)
  rw [if_neg h3] at hs
  have n10 : x ≠ 10 := fun h => h1 (.inr h)
  by_cases h4 : x = 34
  · rw [if_pos h4] at hs
    by_cases h5 : Lib.indexAny ((x :: xs).drop 1) [34, 10] < 0 ∨ (x :: xs).getD ((Lib.indexAny ((x :: xs).drop 1) [34, 10]).toNat + 1) 0 = 10
    · rw [if_pos h5] at hs; rw [hs] at he; cases he
    · rw [if_neg h5] at hs
      rw [hs]
      refine ⟨.inl ⟨?_, ?_⟩, by show 1 ≤ (Lib.indexAny ((x :: xs).drop 1) [34, 10]).toNat + 2; omega⟩
      · rw [stands_place, decide_eq_true_iff, h4]
        exact takeWhile_pre ⟨xs, rfl⟩ (by simp)
      · have h6 : 0 ≤ Lib.indexAny xs [34, 10] := by
          have : ¬ Lib.indexAny xs [34, 10] < 0 := fun h => h5 (.inl h)
          omega
        have e : a ++ x :: xs = (a ++ [x]) ++ xs := by simp
        have e2 : ((adv a 1 1).1, (adv a 1 1).2 + 1) = adv (a ++ [x]) 1 1 := by rw [adv_snoc, if_neg n10]
        have e3 : (adv (a ++ [x]) 1 1).1 = (adv a 1 1).1 := by rw [← e2]
        have e4 : (adv (a ++ [x]) 1 1).2 = (adv a 1 1).2 + 1 := by rw [← e2]
        rw [e, ← e3, ← e4, stands_place, decide_eq_true_iff]
        refine takeWhile_pre (List.take_prefix _ _) (fun y hy => ?_)
        have := indexAny_before xs [34, 10] h6 y hy
        rintro rfl
        simp at this
  rw [if_neg h4] at hs
  by_cases h5 : (0 : Int) ≤ Lib.indexByte signs x
  · rw [if_pos h5] at hs
    rw [hs]
    refine ⟨.inr ⟨hq h4, ?_, by simp⟩, Nat.le_refl _⟩
    rw [stands_place, decide_eq_true_iff]
    exact takeWhile_pre (List.take_prefix _ _) (by simpa using n10)
  · rw [if_neg h5] at hs
    have hnE : isEnd (x :: xs) = false := by
      have h3' : Lib.hasPrefix (x :: xs) [47, 42] = false := by simpa using h3
      rw [isEnd, h3', Bool.or_false, decide_eq_false_iff_not]
      intro hend
      have n32 : (32 == x) = false := beq_eq_false_iff_ne.2 (fun h => h1 (.inl h.symm))
      have n10 : (10 == x) = false := beq_eq_false_iff_ne.2 (fun h => h1 (.inr h.symm))
      have n35 : (35 == x) = false := beq_eq_false_iff_ne.2 (fun h => h2 h.symm)
      have n34 : (34 == x) = false := beq_eq_false_iff_ne.2 (fun h => h4 h.symm)
      simp only [Lib.indexByte, signs] at h5
      simp only [Lib.indexByte, endB, n32, n10, n34, n35] at hend
      cases c1 : ((123 : UInt8) == x) <;> cases c2 : ((125 : UInt8) == x) <;> cases c3 : ((59 : UInt8) == x) <;> cases c4 : ((91 : UInt8) == x) <;> cases c5 : ((93 : UInt8) == x) <;> simp [c1, c2, c3, c4, c5] at h5 hend
    have hn1 : firstN isEnd (x :: xs) = firstN isEnd xs + 1 := by rw [firstN, if_neg (by rw [hnE]; decide)]
    rw [hs]
    refine ⟨.inr ⟨hq h4, ?_, ?_⟩, by show 1 ≤ firstN isEnd (x :: xs); omega⟩
    · rw [stands_place, decide_eq_true_iff]
      refine takeWhile_pre (List.take_prefix _ _) (fun y hy => ?_)
      obtain ⟨k, hk, hky⟩ := List.getElem_of_mem hy
      rw [List.length_take] at hk
      have hk1 : k < firstN isEnd (x :: xs) := by omega
      have hb := firstN_before isEnd (x :: xs) k hk1
      rw [List.getElem_take] at hky
      rw [List.drop_eq_getElem_cons (by omega), hky] at hb
      rintro rfl
      simp [isEnd, endB, Lib.indexByte] at hb
    · show (x :: xs).take (firstN isEnd (x :: xs)) ≠ []
      rw [hn1, List.take_succ_cons]
      exact List.cons_ne_nil _ _
theorem toks_place (s : List UInt8) : ∀ (f : Nat) (a r : List UInt8) (pl pc : Int) (ts : List Tok), s = a ++ r → (pl < (adv a 1 1).1 ∨ ((adv a 1 1).1 = pl ∧ pc < (adv a 1 1).2)) → toks f r (adv a 1 1).1 (adv a 1 1).2 = .ok ts → tOk s pl pc ts := by
  intro f
  induction f with
  | zero => intro a r pl pc ts _ _ h; rw [toks] at h; injection h with h; rw [← h]; exact trivial
  | succ f ih =>
    intro a r pl pc ts hs hp h
    by_cases hr : r = []
    · rw [hr, toks_nil] at h; injection h with h; rw [← h]; exact trivial
    rw [toks_step _ _ _ _ hr] at h
    cases he : (step r).err
    case true => rw [he] at h; simp at h
    rw [he] at h
    simp only [Bool.false_eq_true, if_false] at h
    have hb := adv_bd a 1 1 (by omega) (by omega)
    have e : s = (a ++ r.take (step r).n) ++ r.drop (step r).n := by rw [List.append_assoc, List.take_append_drop]; exact hs
    have e2 := adv_append a (r.take (step r).n) 1 1
    rw [← e2] at h
    cases hrest : toks f (r.drop (step r).n) (adv (a ++ r.take (step r).n) 1 1).1 (adv (a ++ r.take (step r).n) 1 1).2 with
    | error z => rw [hrest] at h; simp [appT] at h
    | ok ts' =>
      rw [hrest] at h
      simp only [appT, Except.ok.injEq] at h
      have hlex := adv_lex (r.take (step r).n) (adv a 1 1).1 (adv a 1 1).2
      rw [← e2] at hlex
      cases hi : (step r).is
      · rw [hi] at h
        simp only [Bool.false_eq_true, if_false, List.nil_append] at h
        subst h
        refine ih _ _ pl pc _ e ?_ hrest
        omega
      · rw [hi] at h
        simp only [if_true, List.singleton_append] at h
        subst h
        obtain ⟨h1, h2⟩ := step_place a r hr he hi
        rw [← hs] at h1
        have hl : 1 ≤ (r.take (step r).n).length := by
          have : 1 ≤ r.length := List.length_pos_iff.2 hr
          rw [List.length_take]; omega
        have hal : a.length ≤ s.length := by rw [hs]; simp
        exact ⟨hp, ⟨hb.1, by show (adv a 1 1).1 ≤ _; omega⟩, ⟨hb.2.2.1, by show (adv a 1 1).2 ≤ _; omega⟩, h1, ih _ _ _ _ _ e (by simp only; omega) hrest⟩
theorem tokRes_tok (s : List UInt8) : tOk s 0 0 (tokRes s).1 := by
  unfold tokRes
  split
  · cases h : toks s.length s 1 1 with
    | error e => exact trivial
    | ok ts => exact toks_place s s.length [] s 0 0 ts rfl (by simp [adv]) h
  · exact trivial
end Go.Proofs.YtihmmmodimionaaDoor.Lx
