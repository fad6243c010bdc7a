/- Plain words on texts of lines: the words of a row, the rows of a text, the lines. No program is in sight. -/
import Derived.Test.YtihmmmodimionaaDoorP
import Derived.Lib.IndexMore
import Derived.Lib.TrimByte
namespace Go.Proofs.YtihmmmodimionaaDoor.Lx
open Go

structure Wd where
  t : List UInt8
  c : Int
structure Ln where
  ind : Int
  l : Int
  ws : List Wd
/-- the word that ends ahead of byte i -/
def endW (i : Int) (cur : List UInt8) : List Wd := if cur = [] then [] else [⟨cur, i - cur.length + 1⟩]
/-- the words of what is left of a row, from byte i on; cur: the bytes of the word that is under way -/
def wds : List UInt8 → Int → List UInt8 → List Wd
  | [], i, cur => endW i cur
  | x :: xs, i, cur => if x = 32 then endW i cur ++ wds xs (i + 1) [] else wds xs (i + 1) (cur ++ [x])
def lineOf (n : Int) (row : List UInt8) : List Ln :=
  match wds row 0 [] with
  | [] => []
  | w :: ws => if w.t.headD 0 = 33 then [] else [⟨w.c - 1, n, w :: ws⟩]
def linesOf : List (List UInt8) → Int → List Ln
  | [], _ => []
  | r :: rs, n => lineOf n r ++ linesOf rs (n + 1)
/-- the rows of what is left of a text; cur: the bytes of the row that is under way -/
def rowsOf : List UInt8 → List UInt8 → List (List UInt8)
  | [], cur => [cur]
  | x :: xs, cur => if x = 10 then cur :: rowsOf xs [] else rowsOf xs (cur ++ [x])
/-- what lex.Lines answers -/
def linRes (s : List UInt8) : List Ln × Int × Int × Int :=
  if (chk s).2.2 = 0 then (linesOf (rowsOf s []) 1, 0, 0, 0) else ([], chk s)
theorem linRes_ok {s : List UInt8} (h : (chk s).2.2 = 0) : linRes s = (linesOf (rowsOf s []) 1, 0, 0, 0) := by
  unfold linRes
  rw [if_pos h]
theorem linRes_no {s : List UInt8} (h : ¬ (chk s).2.2 = 0) : linRes s = ([], chk s) := by
  unfold linRes
  rw [if_neg h]

def trim (s : List UInt8) : List UInt8 := Lib.trimLeftB s 32
theorem trim_nil : trim [] = [] := rfl
theorem trim_cons (x : UInt8) (xs : List UInt8) : trim (x :: xs) = if x = 32 then trim xs else x :: xs := by
  unfold trim Lib.trimLeftB
  rw [List.dropWhile_cons]
  simp
theorem trim_le (s : List UInt8) : (trim s).length ≤ s.length := by
  induction s with
  | nil => exact Nat.le_refl _
  | cons x xs ih =>
    rw [trim_cons]
    split
    · simp; omega
    · exact Nat.le_refl _
theorem trim_head (s : List UInt8) : (trim s).head? ≠ some 32 := by
  induction s with
  | nil => rw [trim_nil]; simp
  | cons x xs ih =>
    rw [trim_cons]
    split
    · exact ih
    · simp; assumption
theorem trim_drop (s : List UInt8) : trim s = s.drop (s.length - (trim s).length) := by
  induction s with
  | nil => rfl
  | cons x xs ih =>
    rw [trim_cons]
    split
    · have := trim_le xs
      rw [List.length_cons, show xs.length + 1 - (trim xs).length = (xs.length - (trim xs).length) + 1 by omega, List.drop_succ_cons]
      exact ih
    · simp
theorem wds_trim (s : List UInt8) : ∀ i : Int, wds s i [] = wds (trim s) (i + (s.length - (trim s).length : Nat)) [] := by
  induction s with
  | nil => intro i; simp [trim_nil]
  | cons x xs ih =>
    intro i
    rw [trim_cons]
    split
    · rename_i h
      have := trim_le xs
      rw [wds, if_pos h, ih (i + 1)]
      simp only [endW, if_true, List.nil_append, List.length_cons]
      congr 1
      omega
    · simp
/-- bytes that are no blanks join the word under way -/
theorem wds_run : ∀ (a b : List UInt8) (i : Int) (cur : List UInt8), (∀ x ∈ a, x ≠ 32) → wds (a ++ b) i cur = wds b (i + a.length) (cur ++ a) := by
  intro a
  induction a with
  | nil => intro b i cur _; simp
  | cons x xs ih =>
    intro b i cur h
    rw [List.cons_append, wds, if_neg (h x (by simp)), ih b (i + 1) (cur ++ [x]) (fun y hy => h y (by simp [hy]))]
    rw [List.append_assoc, List.length_cons]
    congr 1
    push_cast
    omega
theorem index_one_none {s : List UInt8} {c : UInt8} (h : Lib.index s [c] < 0) : ∀ x ∈ s, x ≠ c := by
  induction s with
  | nil => intro x hx; cases hx
  | cons y ys ih =>
    rw [Lib.index] at h
    split at h
    · omega
    · rename_i hp
      have hge := Lib.index_ge ys [c]
      have hy : y ≠ c := by
        intro e
        apply hp
        simp [List.isPrefixOf, e]
      split at h
      · rename_i h1
        have h2 : Lib.index ys [c] = -1 := by simpa using h1
        intro x hx
        rcases List.mem_cons.1 hx with rfl | hx
        · exact hy
        · exact ih (by omega) x hx
      · omega
theorem index_one_at {s : List UInt8} {c : UInt8} (h : 0 ≤ Lib.index s [c]) : (∀ x ∈ s.take (Lib.index s [c]).toNat, x ≠ c) ∧ s.drop (Lib.index s [c]).toNat = c :: s.drop ((Lib.index s [c]).toNat + 1) := by
  induction s with
  | nil => simp [Lib.index] at h
  | cons y ys ih =>
    rw [Lib.index] at h ⊢
    split at h
    · rename_i hp
      rw [if_pos hp]
      have hy : y = c := by
        simp only [List.isPrefixOf, Bool.and_true, beq_iff_eq] at hp
        exact hp.symm
      simp [hy]
    · rename_i hp
      rw [if_neg hp]
      have hge := Lib.index_ge ys [c]
      have hy : y ≠ c := by
        intro e
        apply hp
        simp [List.isPrefixOf, e]
      split at h
      · omega
      · rename_i h1
        rw [if_neg h1]
        have h2 : ¬ Lib.index ys [c] = -1 := by simpa using h1
        have := ih (by omega)
        have e : (Lib.index ys [c] + 1).toNat = (Lib.index ys [c]).toNat + 1 := by omega
        rw [e]
        refine ⟨?_, by rw [List.drop_succ_cons, List.drop_succ_cons]; exact this.2⟩
        intro x hx
        rw [List.take_succ_cons] at hx
        rcases List.mem_cons.1 hx with rfl | hx
        · exact hy
        · exact this.1 x hx
/-- strings.Cut at a blank, and the words -/
theorem wds_cut {s : List UInt8} (hne : s ≠ []) (hh : s.head? ≠ some 32) (i : Int) :
    (Lib.cut s [32]).1 ≠ [] ∧ (Lib.cut s [32]).1.headD 0 = s.headD 0 ∧ (Lib.cut s [32]).1.length + (Lib.cut s [32]).2.1.length ≤ s.length ∧
    wds s i [] = ⟨(Lib.cut s [32]).1, i + 1⟩ :: wds (Lib.cut s [32]).2.1 (i + (s.length - (Lib.cut s [32]).2.1.length : Nat)) [] := by
  obtain ⟨y, ys, rfl⟩ := List.exists_cons_of_ne_nil hne
  unfold Lib.cut
  split
  · rename_i h
    obtain ⟨h1, h2⟩ := index_one_at h
    have hb : (Lib.index (y :: ys) [32]).toNat < (y :: ys).length := by
      rcases Nat.lt_or_ge (Lib.index (y :: ys) [32]).toNat (y :: ys).length with h3 | h3
      · exact h3
      · rw [List.drop_eq_nil_of_le h3] at h2; cases h2
    generalize (Lib.index (y :: ys) [32]).toNat = n at *
    have hn : n ≠ 0 := by
      intro e
      rw [e] at h2
      simp at h2
      exact hh (by simp [h2])
    obtain ⟨k, rfl⟩ := Nat.exists_eq_succ_of_ne_zero hn
    refine ⟨by rw [List.take_succ_cons]; exact List.cons_ne_nil _ _, by rw [List.take_succ_cons]; rfl, by rw [List.length_take, List.length_drop]; omega, ?_⟩
    conv => lhs; rw [← List.take_append_drop (k + 1) (y :: ys)]
    rw [wds_run _ _ _ _ h1, h2, wds, if_pos rfl, List.nil_append]
    have hl : ((y :: ys).take (k + 1)).length = k + 1 := by rw [List.length_take]; omega
    unfold endW
    rw [if_neg (by rw [List.take_succ_cons]; exact List.cons_ne_nil _ _), hl]
    simp only [List.singleton_append, List.length_drop, List.length_cons, List.length_nil] at *
    congr 1
    · congr 1; omega
    · congr 1
      omega
  · rename_i h
    have h1 := index_one_none (show Lib.index (y :: ys) [32] < 0 by omega)
    refine ⟨by simp, rfl, by simp, ?_⟩
    conv => lhs; rw [← List.append_nil (y :: ys)]
    rw [wds_run _ _ _ _ h1, wds, List.nil_append, endW, if_neg (by simp)]
    simp only [List.length_nil, List.length_cons, wds, endW, if_true, Nat.sub_zero]
    congr 2
    omega
theorem rowsOf_run : ∀ (a b cur : List UInt8), (∀ x ∈ a, x ≠ 10) → rowsOf (a ++ b) cur = rowsOf b (cur ++ a) := by
  intro a
  induction a with
  | nil => intro b cur _; simp
  | cons x xs ih =>
    intro b cur h
    rw [List.cons_append, rowsOf, if_neg (h x (by simp)), ih b (cur ++ [x]) (fun y hy => h y (by simp [hy])), List.append_assoc]
    rfl
theorem rowsOf_none {s : List UInt8} (h : Lib.index s [10] < 0) : rowsOf s [] = [s] := by
  have := rowsOf_run s [] [] (index_one_none h)
  rw [List.append_nil] at this
  rw [this]; rfl
theorem rowsOf_hit {s : List UInt8} (h : 0 ≤ Lib.index s [10]) : rowsOf s [] = s.take (Lib.index s [10]).toNat :: rowsOf (s.drop ((Lib.index s [10]).toNat + 1)) [] := by
  obtain ⟨h1, h2⟩ := index_one_at h
  conv => lhs; rw [← List.take_append_drop (Lib.index s [10]).toNat s]
  rw [rowsOf_run _ _ _ h1, h2, rowsOf, if_pos rfl, List.nil_append]
theorem lineOf_nil {n : Int} {row : List UInt8} (h : wds row 0 [] = []) : lineOf n row = [] := by unfold lineOf; rw [h]
theorem lineOf_bang {n : Int} {row : List UInt8} {w : Wd} {ws : List Wd} (h : wds row 0 [] = w :: ws) (hb : w.t.headD 0 = 33) : lineOf n row = [] := by unfold lineOf; rw [h]; simp only; rw [if_pos hb]
theorem lineOf_is {n : Int} {row : List UInt8} {w : Wd} {ws : List Wd} (h : wds row 0 [] = w :: ws) (hb : ¬ w.t.headD 0 = 33) : lineOf n row = [⟨w.c - 1, n, w :: ws⟩] := by unfold lineOf; rw [h]; simp only; rw [if_neg hb]
end Go.Proofs.YtihmmmodimionaaDoor.Lx
