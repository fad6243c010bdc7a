/- Plain words on tokens that are put together again: cut once more they are the same. No program is in sight. -/
import Derived.Test.YtihmmmodimionaaDoorPG
namespace Go.Proofs.YtihmmmodimionaaDoor.Lx
open Go

/-- kinds and texts of the tokens of what is left of a text; none: it is refused -/
def kts : Nat → List UInt8 → Option (List (Int × List UInt8))
  | 0, _ => some []
  | _ + 1, [] => some []
  | f + 1, x :: xs =>
    if (step (x :: xs)).err then none
    else (kts f ((x :: xs).drop (step (x :: xs)).n)).map (fun r => (if (step (x :: xs)).is then [((step (x :: xs)).k, (step (x :: xs)).t)] else []) ++ r)
def kt (t : Tok) : Int × List UInt8 := (t.k, t.t)
theorem kts_toks : ∀ (f : Nat) (s : List UInt8) (l c : Int), (match toks f s l c with | .error _ => none | .ok ts => some (ts.map kt)) = kts f s := by
  intro f
  induction f with
  | zero => intro s l c; rfl
  | succ f ih =>
    intro s l c
    cases s with
    | nil => rfl
    | cons x xs =>
      rw [kts, toks]
      cases he : (step (x :: xs)).err
      · simp only [Bool.false_eq_true, if_false]
        rw [← ih _ (adv ((x :: xs).take (step (x :: xs)).n) l c).1 (adv ((x :: xs).take (step (x :: xs)).n) l c).2]
        cases toks f ((x :: xs).drop (step (x :: xs)).n) (adv ((x :: xs).take (step (x :: xs)).n) l c).1 (adv ((x :: xs).take (step (x :: xs)).n) l c).2 with
        | error e => rfl
        | ok ts =>
          simp only [appT, Option.map_some, List.map_append]
          cases (step (x :: xs)).is <;> rfl
      · rfl
theorem step_pos (s : List UInt8) (h : s ≠ []) (he : (step s).err = false) : 1 ≤ (step s).n := by
  cases hi : (step s).is
  · obtain ⟨x, xs, rfl⟩ := List.exists_cons_of_ne_nil h
    have hs : step (x :: xs) = step (x :: xs) := rfl
    conv at hs => rhs; unfold step; rw [show (x :: xs).headD 0 = x from rfl]
    by_cases h1 : x = 32 ∨ x = 10
    · rw [if_pos h1] at hs; rw [hs]; exact Nat.le_refl _
    rw [if_neg h1] at hs
    by_cases h2 : x = 35
    · rw [if_pos h2] at hs; rw [hs]
      show 1 ≤ firstN is10 (x :: xs)
      rw [firstN, if_neg (by simp [is10, h2])]; omega
    rw [if_neg h2] at hs
    by_cases h3 : Lib.hasPrefix (x :: xs) [47, 42] = true
    · rw [if_pos h3] at hs
      split at hs
      · rw [hs] at he; cases he
      · rw [hs]; show 1 ≤ _ + 4; omega
    rw [if_neg h3] at hs
    by_cases h4 : x = 34
    · rw [if_pos h4] at hs
      split at hs
      · rw [hs] at he; cases he
      · rw [hs] at hi; cases hi
    rw [if_neg h4] at hs
    split at hs <;> (rw [hs] at hi; cases hi)
  · exact (step_place [] s h he hi).2
theorem kts_fuel : ∀ (f : Nat) (s : List UInt8), s.length ≤ f → kts (f + 1) s = kts f s := by
  intro f
  induction f with
  | zero => intro s hs; have : s = [] := List.eq_nil_of_length_eq_zero (by omega)
            rw [this]; rfl
  | succ f ih =>
    intro s hs
    cases s with
    | nil => rfl
    | cons x xs =>
      rw [kts, kts]
      cases he : (step (x :: xs)).err
      · have := step_pos (x :: xs) (by simp) he
        rw [ih _ (by rw [List.length_drop]; simp at hs ⊢; omega)]
      · rfl
theorem kts_enough : ∀ (d : Nat) (s : List UInt8), kts (s.length + d) s = kts s.length s := by
  intro d
  induction d with
  | zero => intro s; rfl
  | succ d ih => intro s; rw [← Nat.add_assoc, kts_fuel _ _ (by omega), ih]
def K (s : List UInt8) : Option (List (Int × List UInt8)) := kts s.length s
theorem K_step (s : List UInt8) (h : s ≠ []) (he : (step s).err = false) : K s = (K (s.drop (step s).n)).map (fun r => (if (step s).is then [((step s).k, (step s).t)] else []) ++ r) := by
  have hp := step_pos s h he
  obtain ⟨x, xs, rfl⟩ := List.exists_cons_of_ne_nil h
  unfold K
  rw [List.length_cons, kts, he]
  simp only [Bool.false_eq_true, if_false]
  congr 1
  have hl : ((x :: xs).drop (step (x :: xs)).n).length ≤ xs.length := by rw [List.length_drop, List.length_cons]; omega
  have := kts_enough (xs.length - ((x :: xs).drop (step (x :: xs)).n).length) ((x :: xs).drop (step (x :: xs)).n)
  rw [show ((x :: xs).drop (step (x :: xs)).n).length + (xs.length - ((x :: xs).drop (step (x :: xs)).n).length) = xs.length by omega] at this
  exact this
theorem K_skip {s r : List UInt8} (h : s ≠ []) (he : step s = ⟨false, false, 1, [], s.length - r.length⟩) (hr : r = s.drop (s.length - r.length)) : K s = K r := by
  rw [K_step s h (by rw [he]), he]
  simp only [Bool.false_eq_true, if_false, List.nil_append]
  rw [← hr]
  cases K r <;> rfl
theorem K_blank (x : UInt8) (hx : x = 32 ∨ x = 10) (r : List UInt8) : K (x :: r) = K r := by
  refine K_skip (by simp) ?_ (by simp)
  unfold step
  rw [show (x :: r).headD 0 = x from rfl, if_pos hx]
  simp
theorem K_blk : ∀ (n : Nat) (r : List UInt8), K (blk n ++ r) = K r := by
  intro n
  induction n with
  | zero => intro r; rfl
  | succ n ih =>
    intro r
    rw [blk, List.replicate_succ, List.cons_append, K_blank 32 (.inl rfl)]
    exact ih r
theorem firstN_run : ∀ (a r : List UInt8), (∀ x ∈ a, x ≠ 10) → firstN is10 (a ++ 10 :: r) = a.length := by
  intro a
  induction a with
  | nil => intro r _; rw [List.nil_append, firstN, if_pos (by simp [is10])]; rfl
  | cons x xs ih =>
    intro r h
    rw [List.cons_append, firstN, if_neg (by simpa [is10] using h x (by simp)), ih r (fun y hy => h y (by simp [hy]))]
    rfl
theorem K_hash (a r : List UInt8) (h : ∀ x ∈ a, x ≠ 10) : K (35 :: (a ++ 10 :: r)) = K r := by
  have e : K (35 :: (a ++ 10 :: r)) = K (10 :: r) := by
    have hf := firstN_run (35 :: a) r (by intro x hx; rcases List.mem_cons.1 hx with rfl | hx; exact (by decide); exact h x hx)
    have hl : (35 :: (a ++ 10 :: r)).length - (10 :: r).length = (35 :: a).length := by simp; omega
    refine K_skip (by simp) ?_ ?_
    · rw [hl]
      unfold step
      rw [show (35 :: (a ++ 10 :: r)).headD 0 = 35 from rfl, if_neg (by decide), if_pos rfl]
      rw [List.cons_append] at hf
      rw [hf]
    · rw [hl]
      exact (List.drop_left' (l₁ := 35 :: a) (l₂ := 10 :: r) rfl).symm
  rw [e]
  exact K_blank 10 (.inr rfl) r
theorem index_run : ∀ (a r : List UInt8), (∀ x ∈ a, x ≠ 42) → Lib.index (a ++ 42 :: 47 :: r) [42, 47] = a.length := by
  intro a
  induction a with
  | nil => intro r _; rw [List.nil_append, Lib.index, if_pos (by simp [List.isPrefixOf])]; rfl
  | cons x xs ih =>
    intro r h
    have hx := h x (by simp)
    rw [List.cons_append, Lib.index, if_neg (by simp [List.isPrefixOf]; intro e; exact absurd e.symm hx), ih r (fun y hy => h y (by simp [hy]))]
    rw [if_neg (by simp <;> omega)]
    simp
theorem K_comment (a r : List UInt8) (h : ∀ x ∈ a, x ≠ 42) : K (47 :: 42 :: (a ++ 42 :: 47 :: r)) = K r := by
  have hi := index_run a r h
  have hl : (47 :: 42 :: (a ++ 42 :: 47 :: r)).length - r.length = a.length + 4 := by simp; omega
  refine K_skip (by simp) ?_ ?_
  · rw [hl]
    unfold step
    rw [show (47 :: 42 :: (a ++ 42 :: 47 :: r)).headD 0 = 47 from rfl, if_neg (by decide), if_neg (by decide), if_pos (by simp [Lib.hasPrefix, List.isPrefixOf])]
    have e : (47 :: 42 :: (a ++ 42 :: 47 :: r)).drop 2 = a ++ 42 :: 47 :: r := rfl
    rw [e, hi, if_neg (by omega)]
    simp
  · rw [hl]
    have e : 47 :: 42 :: (a ++ 42 :: 47 :: r) = (47 :: 42 :: (a ++ [42, 47])) ++ r := by simp
    rw [e]
    exact (List.drop_left' (by simp)).symm

/-- a token that may be written -/
def goodT (t : Tok) : Prop := (t.k = 1 ∧ ∀ x ∈ t.t, okB x ∧ x ≠ 34) ∨ (t.k ≠ 1 ∧ ∃ x, t.t = [x] ∧ 0 ≤ Lib.indexByte signs x ∧ t.k = 2 + Lib.indexByte signs x)
def wrT (t : Tok) : List UInt8 := if t.k = 1 then 34 :: (t.t ++ [34]) else t.t
def tkT (g : Nat) (cm : List UInt8) (t : Tok) : List UInt8 := wrT t ++ blk g ++ (47 :: 42 :: cm) ++ ([42, 47, 32, 35, 32] ++ cm ++ [10])
def anT (g : Nat) (cm : List UInt8) (ts : List Tok) : List UInt8 := ts.flatMap (tkT g cm)
theorem indexAny_run : ∀ (a r : List UInt8), (∀ x ∈ a, x ≠ 34 ∧ x ≠ 10) → Lib.indexAny (a ++ 34 :: r) [34, 10] = a.length := by
  intro a
  induction a with
  | nil => intro r _; rw [List.nil_append, Lib.indexAny, if_pos (by decide)]; rfl
  | cons x xs ih =>
    intro r h
    have hx := h x (by simp)
    rw [List.cons_append, Lib.indexAny, if_neg (by simp; exact hx), ih r (fun y hy => h y (by simp [hy]))]
    rw [if_neg (by simp <;> omega)]
    simp
theorem sign_in {x : UInt8} (h : 0 ≤ Lib.indexByte signs x) : x ∈ signs := by
  by_cases hx : x ∈ signs
  · exact hx
  · exfalso
    have : signs.contains x = false := by simpa using hx
    rw [Lib.contains_iff_indexByte] at this
    simp at this
    omega
theorem K_tok (t : Tok) (h : goodT t) (r : List UInt8) : K (wrT t ++ r) = (K r).map (fun q => kt t :: q) := by
  rcases h with ⟨hk, hb⟩ | ⟨hk, x, ht, hx, hkx⟩
  · have e : wrT t ++ r = 34 :: (t.t ++ 34 :: r) := by unfold wrT; rw [if_pos hk]; simp
    rw [e]
    have hi := indexAny_run t.t r (fun x hx => ⟨(hb x hx).2, okB_ne (hb x hx).1⟩)
    have hst : step (34 :: (t.t ++ 34 :: r)) = ⟨false, true, 1, t.t, t.t.length + 2⟩ := by
      unfold step
      rw [show (34 :: (t.t ++ 34 :: r)).headD 0 = 34 from rfl, if_neg (by decide), if_neg (by decide), if_neg (by simp [Lib.hasPrefix, List.isPrefixOf]), if_pos rfl]
      have e2 : (34 :: (t.t ++ 34 :: r)).drop 1 = t.t ++ 34 :: r := rfl
      rw [e2, hi, if_neg (by
        rintro (h | h)
        · omega
        · rw [Int.toNat_natCast, List.getD_eq_getElem?_getD, List.getElem?_cons_succ, List.getElem?_append_right (Nat.le_refl _)] at h
          simp at h)]
      simp
    rw [K_step _ (by simp) (by rw [hst]), hst]
    have e3 : (34 :: (t.t ++ 34 :: r)).drop (t.t.length + 2) = r := by
      have e4 : 34 :: (t.t ++ 34 :: r) = (34 :: (t.t ++ [34])) ++ r := by simp
      rw [e4]
      exact List.drop_left' (by simp)
    simp only [e3, if_true, List.singleton_append]
    unfold kt
    rw [hk]
  · have e : wrT t ++ r = x :: r := by unfold wrT; rw [if_neg hk, ht]; rfl
    rw [e]
    have hm := sign_in hx
    have hst : step (x :: r) = ⟨false, true, 2 + Lib.indexByte signs x, [x], 1⟩ := by
      unfold step
      have h1 : ¬ (x = 32 ∨ x = 10) ∧ ¬ x = 35 ∧ ¬ x = 34 ∧ ¬ (47 = x) := by
        simp [signs] at hm
        rcases hm with rfl | rfl | rfl | rfl | rfl <;> decide
      rw [show (x :: r).headD 0 = x from rfl, if_neg h1.1, if_neg h1.2.1, if_neg (by simp [Lib.hasPrefix, List.isPrefixOf]; intro h; exact absurd h h1.2.2.2), if_neg h1.2.2.1, if_pos hx]
      rfl
    rw [K_step _ (by simp) (by rw [hst]), hst]
    simp only [if_true, List.singleton_append, List.drop_succ_cons, List.drop_zero]
    unfold kt
    rw [hkx, ht]
theorem K_anT (g : Nat) (cm : List UInt8) (hcm : ∀ x ∈ cm, okB x ∧ x ≠ 32 ∧ x ≠ 42) : ∀ ts : List Tok, (∀ t ∈ ts, goodT t) → K (anT g cm ts) = some (ts.map kt) := by
  intro ts
  induction ts with
  | nil => intro _; rfl
  | cons t ts ih =>
    intro h
    have e : anT g cm (t :: ts) = wrT t ++ (blk g ++ (47 :: 42 :: (cm ++ 42 :: 47 :: 32 :: 35 :: ((32 :: cm) ++ 10 :: anT g cm ts)))) := by simp [anT, tkT]
    rw [e, K_tok t (h t (by simp)), K_blk, K_comment cm _ (fun x hx => (hcm x hx).2.2), K_blank 32 (.inl rfl), K_hash (32 :: cm) _ (by
      intro x hx
      rcases List.mem_cons.1 hx with rfl | hx
      · decide
      · exact okB_ne (hcm x hx).1), ih (fun z hz => h z (by simp [hz]))]
    rfl
theorem wrT_ok {t : Tok} (h : goodT t) : ∀ x ∈ wrT t, okB x := by
  intro x hx
  rcases h with ⟨hk, hb⟩ | ⟨hk, y, ht, hy, _⟩
  · unfold wrT at hx
    rw [if_pos hk] at hx
    simp at hx
    rcases hx with rfl | hx | rfl
    · exact ⟨by decide, by decide⟩
    · exact (hb x hx).1
    · exact ⟨by decide, by decide⟩
  · unfold wrT at hx
    rw [if_neg hk, ht] at hx
    have hm := sign_in hy
    have : x = y := by simpa using hx
    subst this
    simp [signs] at hm
    rcases hm with rfl | rfl | rfl | rfl | rfl <;> exact ⟨by decide, by decide⟩
theorem anT_ok (g : Nat) (cm : List UInt8) (hcm : ∀ x ∈ cm, okB x ∧ x ≠ 32 ∧ x ≠ 42) : ∀ ts : List Tok, (∀ t ∈ ts, goodT t) → (∀ y ∈ anT g cm ts, y = 10 ∨ okB y) ∧ (anT g cm ts).count 10 = ts.length := by
  intro ts
  induction ts with
  | nil => intro _; simp [anT]
  | cons t ts ih =>
    intro h
    obtain ⟨h1, h2⟩ := ih (fun z hz => h z (by simp [hz]))
    have e : anT g cm (t :: ts) = (wrT t ++ blk g ++ (47 :: 42 :: cm) ++ ([42, 47, 32, 35, 32] ++ cm)) ++ (10 :: anT g cm ts) := by simp [anT, tkT]
    have hz : ∀ l : List UInt8, (∀ y ∈ l, okB y) → l.count 10 = 0 := fun l hl => List.count_eq_zero.2 (fun hm => okB_ne (hl 10 hm) rfl)
    have ha : ∀ y ∈ wrT t ++ blk g ++ (47 :: 42 :: cm) ++ ([42, 47, 32, 35, 32] ++ cm), okB y := by
      intro y hy
      rcases List.mem_append.1 hy with hy | hy
      · rcases List.mem_append.1 hy with hy | hy
        · rcases List.mem_append.1 hy with hy | hy
          · exact wrT_ok (h t (by simp)) y hy
          · exact blk_ok _ y hy
        · simp at hy
          rcases hy with rfl | rfl | hy
          · exact ⟨by decide, by decide⟩
          · exact ⟨by decide, by decide⟩
          · exact (hcm y hy).1
      · rcases List.mem_append.1 hy with hy | hy
        · simp at hy
          rcases hy with rfl | rfl | rfl | rfl | rfl <;> exact ⟨by decide, by decide⟩
        · exact (hcm y hy).1
    rw [e]
    refine ⟨fun y hy => ?_, ?_⟩
    · rcases List.mem_append.1 hy with hy | hy
      · exact .inr (ha y hy)
      · rcases List.mem_cons.1 hy with rfl | hy
        · exact .inl rfl
        · exact h1 y hy
    · rw [List.count_append, hz _ ha, List.count_cons, h2]
      simp
/-- what a step takes for a token may be written -/
theorem step_good (s : List UInt8) (hs : ∀ x ∈ s, x = 10 ∨ okB x) (h : s ≠ []) (he : (step s).err = false) (hi : (step s).is = true) (l c : Int) : goodT ⟨(step s).k, (step s).t, l, c⟩ := by
  obtain ⟨x, xs, rfl⟩ := List.exists_cons_of_ne_nil h
  have hst : step (x :: xs) = step (x :: xs) := rfl
  conv at hst => rhs; unfold step; rw [show (x :: xs).headD 0 = x from rfl]
  by_cases h1 : x = 32 ∨ x = 10
  · rw [if_pos h1] at hst; rw [hst] at hi; cases hi
  rw [if_neg h1] at hst
  by_cases h2 : x = 35
  · rw [if_pos h2] at hst; rw [hst] at hi; cases hi
  rw [if_neg h2] at hst
  by_cases h3 : Lib.hasPrefix (x :: xs) [47, 42] = true
  · rw [if_pos h3] at hst
    split at hst <;> (rw [hst] at hi; cases hi)
  rw [if_neg h3] at hst
  by_cases h4 : x = 34
  · rw [if_pos h4] at hst
    by_cases h5 : Lib.indexAny ((x :: xs).drop 1) [34, 10] < 0 ∨ (x :: xs).getD ((Lib.indexAny ((x :: xs).drop 1) [34, 10]).toNat + 1) 0 = 10
    · rw [if_pos h5] at hst; rw [hst] at he; cases he
    · rw [if_neg h5] at hst
      rw [hst]
      refine .inl ⟨rfl, fun y hy => ?_⟩
      have h6 : 0 ≤ Lib.indexAny xs [34, 10] := by
        have : ¬ Lib.indexAny xs [34, 10] < 0 := fun h => h5 (.inl h)
        omega
      have h7 := indexAny_before xs [34, 10] h6 y hy
      have h8 := hs y (List.mem_cons_of_mem _ (List.mem_of_mem_take (show y ∈ xs.take _ from hy)))
      simp at h7
      exact ⟨h8.resolve_left h7.2, h7.1⟩
  rw [if_neg h4] at hst
  by_cases h5 : (0 : Int) ≤ Lib.indexByte signs x
  · rw [if_pos h5] at hst
    rw [hst]
    exact .inr ⟨by show 2 + Lib.indexByte signs x ≠ 1; omega, x, rfl, h5, rfl⟩
  · rw [if_neg h5] at hst
    rw [hst]
    refine .inl ⟨rfl, fun y hy => ?_⟩
    have hy' : y ∈ (x :: xs).take (firstN isEnd (x :: xs)) := hy
    obtain ⟨k, hk, hky⟩ := List.getElem_of_mem hy'
    rw [List.length_take] at hk
    have hk1 : k < firstN isEnd (x :: xs) := by omega
    have hb := firstN_before isEnd (x :: xs) k hk1
    rw [List.getElem_take] at hky
    rw [List.drop_eq_getElem_cons (by omega), hky] at hb
    have h8 := hs y (List.mem_of_mem_take hy')
    refine ⟨h8.resolve_left ?_, ?_⟩
    · rintro rfl; simp [isEnd, endB, Lib.indexByte] at hb
    · rintro rfl; simp [isEnd, endB, Lib.indexByte] at hb
theorem toks_good : ∀ (f : Nat) (s : List UInt8) (l c : Int) (ts : List Tok), (∀ x ∈ s, x = 10 ∨ okB x) → toks f s l c = .ok ts → ∀ t ∈ ts, goodT t := by
  intro f
  induction f with
  | zero => intro s l c ts _ h; rw [toks] at h; injection h with h; subst h; intro t ht; cases ht
  | succ f ih =>
    intro s l c ts hs h
    by_cases hn : s = []
    · rw [hn, toks_nil] at h; injection h with h; subst h; intro t ht; cases ht
    rw [toks_step _ _ _ _ hn] at h
    cases he : (step s).err
    case true => rw [he] at h; simp at h
    rw [he] at h
    simp only [Bool.false_eq_true, if_false] at h
    cases hrest : toks f (s.drop (step s).n) (adv (s.take (step s).n) l c).1 (adv (s.take (step s).n) l c).2 with
    | error z => rw [hrest] at h; simp [appT] at h
    | ok ts' =>
      rw [hrest] at h
      simp only [appT, Except.ok.injEq] at h
      have hi := ih _ _ _ _ (fun x hx => hs x (List.mem_of_mem_drop hx)) hrest
      subst h
      intro t ht
      rcases List.mem_append.1 ht with ht | ht
      · split at ht
        · rename_i his
          have : t = ⟨(step s).k, (step s).t, l, c⟩ := by simpa using ht
          rw [this]
          exact step_good s hs hn he his l c
        · cases ht
      · exact hi t ht
theorem tokRes_good (s : List UInt8) : ∀ t ∈ (tokRes s).1, goodT t := by
  unfold tokRes
  split
  · rename_i h
    cases ht : toks s.length s 1 1 with
    | error e => intro t h; cases h
    | ok ts => exact toks_good _ _ _ _ _ (fun x hx => chk_ok h x hx) ht
  · intro t h; cases h
/-- the tokens of a text, put together and cut again -/
theorem again_toks (s : List UInt8) (g : Nat) (cm : List UInt8) (hcm : ∀ x ∈ cm, okB x ∧ x ≠ 32 ∧ x ≠ 42) (hn : (tokRes s).1.length ≤ 1000) :
    ((tokRes (anT g cm (tokRes s).1)).2.2.2 = 0 ∧ (tokRes (anT g cm (tokRes s).1)).1.map kt = (tokRes s).1.map kt) ∨ (¬ (tokRes (anT g cm (tokRes s).1)).2.2.2 = 0 ∧ 65536 < (anT g cm (tokRes s).1).length) := by
  have hgood := tokRes_good s
  generalize (tokRes s).1 = ts at *
  obtain ⟨h1, h2⟩ := anT_ok g cm hcm ts hgood
  by_cases hc : (chk (anT g cm ts)).2.2 = 0
  · left
    have hk := K_anT g cm hcm ts hgood
    unfold K at hk
    rw [← kts_toks _ _ 1 1] at hk
    cases ht : toks (anT g cm ts).length (anT g cm ts) 1 1 with
    | error e => rw [ht] at hk; simp at hk
    | ok ts' =>
      rw [ht] at hk
      rw [tokRes_ok hc ht]
      exact ⟨rfl, by simpa using hk⟩
  · right
    rw [tokRes_no hc]
    exact ⟨hc, chk_bad h1 (by omega) hc⟩
end Go.Proofs.YtihmmmodimionaaDoor.Lx
