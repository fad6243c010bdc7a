/- What the claim leans on, part 1 of 15: P LN Q PL PG PH Base A0 A O OD TA TW TYP. -/
import Derived.BigQuiet
import Derived.Deep.QuietTactic
import Derived.Handy
import Derived.Laws.AppendOwnNone
import Derived.Lib.Index
import Derived.Lib.IndexAny
import Derived.Lib.IndexMore
import Derived.Lib.Join
import Derived.Lib.Strings
import Derived.Lib.TrimByte
import Derived.Shelf.Strings.Repeat
import Derived.WalkKit
import Derived.Test.YtihmmmodimionaaProg
/- Plain words on texts: places, the bytes that may stand, the tokens of a text of braces. No program is in sight. -/
namespace Go.Proofs.Ytihmmmodimionaa.Lx
open Go

/-- the place behind some bytes -/
def adv : List UInt8 → Int → Int → Int × Int
  | [], l, c => (l, c)
  | x :: xs, l, c => if x = 10 then adv xs (l + 1) 1 else adv xs l (c + 1)
theorem adv_append : ∀ (a b : List UInt8) (l c : Int), adv (a ++ b) l c = adv b (adv a l c).1 (adv a l c).2 := by
  intro a
  induction a with
  | nil => intro b l c; rfl
  | cons x xs ih =>
    intro b l c
    simp only [List.cons_append, adv]
    split
    · exact ih _ _ _
    · exact ih _ _ _
theorem adv_bd : ∀ (a : List UInt8) (l c : Int), 1 ≤ l → 1 ≤ c → l ≤ (adv a l c).1 ∧ (adv a l c).1 ≤ l + a.length ∧ 1 ≤ (adv a l c).2 ∧ (adv a l c).2 ≤ c + a.length := by
  intro a
  induction a with
  | nil => intro l c _ _; simp [adv]; omega
  | cons x xs ih =>
    intro l c hl hc
    simp only [adv, List.length_cons]
    split
    · have := ih (l + 1) 1 (by omega) (by omega); omega
    · have := ih l (c + 1) (by omega) (by omega); omega
theorem adv_snoc (a : List UInt8) (x : UInt8) (l c : Int) : adv (a ++ [x]) l c = if x = 10 then ((adv a l c).1 + 1, 1) else ((adv a l c).1, (adv a l c).2 + 1) := by
  rw [adv_append]
  simp only [adv]

/-- what lex.check answers: the place, and the error's number -/
def chkL : List UInt8 → Int → Int → Int × Int × Int
  | [], _, _ => (0, 0, 0)
  | x :: xs, l, c => if 4096 < l then (l, c, 3) else if x = 10 then chkL xs (l + 1) 1 else if x.toNat < 32 ∨ 126 < x.toNat then (l, c, 70) else chkL xs l (c + 1)
def chk (s : List UInt8) : Int × Int × Int := if 65536 < s.length then (0, 0, 3) else chkL s 1 1

theorem chkL_ok : ∀ (s : List UInt8) (l c : Int), (chkL s l c).2.2 = 0 → ∀ x ∈ s, x = 10 ∨ (32 ≤ x.toNat ∧ x.toNat ≤ 126) := by
  intro s
  induction s with
  | nil => intro l c _ x hx; cases hx
  | cons y ys ih =>
    intro l c h x hx
    unfold chkL at h
    split at h
    · simp at h
    · split at h
      · rename_i h10
        rcases List.mem_cons.1 hx with rfl | hx
        · exact .inl h10
        · exact ih _ _ h x hx
      · split at h
        · simp at h
        · rename_i hb
          rcases List.mem_cons.1 hx with rfl | hx
          · exact .inr (by omega)
          · exact ih _ _ h x hx
theorem chk_len {s : List UInt8} (h : (chk s).2.2 = 0) : s.length ≤ 65536 := by
  unfold chk at h
  split at h
  · simp at h
  · omega
theorem chk_ok {s : List UInt8} (h : (chk s).2.2 = 0) : ∀ x ∈ s, x = 10 ∨ (32 ≤ x.toNat ∧ x.toNat ≤ 126) := by
  have hl := chk_len h
  unfold chk at h
  rw [if_neg (by omega)] at h
  exact chkL_ok s 1 1 h

/-- how many elements stand ahead of the first suffix that is so -/
def firstN (p : List UInt8 → Bool) : List UInt8 → Nat
  | [] => 0
  | x :: xs => if p (x :: xs) then 0 else firstN p xs + 1
theorem firstN_le (p : List UInt8 → Bool) : ∀ s, firstN p s ≤ s.length := by
  intro s
  induction s with
  | nil => simp [firstN]
  | cons x xs ih =>
    unfold firstN
    split
    · omega
    · simp; exact ih
def is10 (s : List UInt8) : Bool := s.head? == some 10
/-- the bytes that end a word -/
def endB : List UInt8 := [32, 10, 123, 125, 59, 91, 93, 34, 35]
def isEnd : List UInt8 → Bool
  | [] => true
  | x :: xs => decide (0 ≤ Lib.indexByte endB x) || Lib.hasPrefix (x :: xs) [47, 42]
def signs : List UInt8 := [123, 125, 59, 91, 93]

/-- one step of the reader: an error; else how many bytes it takes, and the token, if there is one -/
structure Step where
  err : Bool
  is : Bool
  k : Int
  t : List UInt8
  n : Nat
def step (s : List UInt8) : Step :=
  let x := s.headD 0
  if x = 32 ∨ x = 10 then ⟨false, false, 1, [], 1⟩
  else if x = 35 then ⟨false, false, 1, [], firstN is10 s⟩
  else if Lib.hasPrefix s [47, 42] then
    if Lib.index (s.drop 2) [42, 47] < 0 then ⟨true, false, 1, [], 0⟩ else ⟨false, false, 1, [], (Lib.index (s.drop 2) [42, 47]).toNat + 4⟩
  else if x = 34 then
    if Lib.indexAny (s.drop 1) [34, 10] < 0 ∨ s.getD ((Lib.indexAny (s.drop 1) [34, 10]).toNat + 1) 0 = 10 then ⟨true, false, 1, [], 0⟩
    else ⟨false, true, 1, (s.drop 1).take (Lib.indexAny (s.drop 1) [34, 10]).toNat, (Lib.indexAny (s.drop 1) [34, 10]).toNat + 2⟩
  else if 0 ≤ Lib.indexByte signs x then ⟨false, true, 2 + Lib.indexByte signs x, s.take 1, 1⟩
  else ⟨false, true, 1, s.take (firstN isEnd s), firstN isEnd s⟩
end Go.Proofs.Ytihmmmodimionaa.Lx
/- Plain words on texts of lines: the words of a row, the rows of a text, the lines. No program is in sight. -/
namespace Go.Proofs.Ytihmmmodimionaa.Lx
open Go

structure Wd where
  t : List UInt8
  c : Int
structure Ln where
  ind : Int
  l : Int
  ws : List Wd
/-- the word that ends ahead of byte i -/
def endW (i : Int) (cur : List UInt8) : List Wd := if cur = [] then [] else [⟨cur, i - cur.length + 1⟩]
/-- the words of what is left of a row, from byte i on; cur: the bytes of the word that is under way -/
def wds : List UInt8 → Int → List UInt8 → List Wd
  | [], i, cur => endW i cur
  | x :: xs, i, cur => if x = 32 then endW i cur ++ wds xs (i + 1) [] else wds xs (i + 1) (cur ++ [x])
def lineOf (n : Int) (row : List UInt8) : List Ln :=
  match wds row 0 [] with
  | [] => []
  | w :: ws => if w.t.headD 0 = 33 then [] else [⟨w.c - 1, n, w :: ws⟩]
def linesOf : List (List UInt8) → Int → List Ln
  | [], _ => []
  | r :: rs, n => lineOf n r ++ linesOf rs (n + 1)
/-- the rows of what is left of a text; cur: the bytes of the row that is under way -/
def rowsOf : List UInt8 → List UInt8 → List (List UInt8)
  | [], cur => [cur]
  | x :: xs, cur => if x = 10 then cur :: rowsOf xs [] else rowsOf xs (cur ++ [x])
/-- what lex.Lines answers -/
def linRes (s : List UInt8) : List Ln × Int × Int × Int :=
  if (chk s).2.2 = 0 then (linesOf (rowsOf s []) 1, 0, 0, 0) else ([], chk s)
theorem linRes_ok {s : List UInt8} (h : (chk s).2.2 = 0) : linRes s = (linesOf (rowsOf s []) 1, 0, 0, 0) := by
  unfold linRes
  rw [if_pos h]
theorem linRes_no {s : List UInt8} (h : ¬ (chk s).2.2 = 0) : linRes s = ([], chk s) := by
  unfold linRes
  rw [if_neg h]

def trim (s : List UInt8) : List UInt8 := Lib.trimLeftB s 32
theorem trim_nil : trim [] = [] := rfl
theorem trim_cons (x : UInt8) (xs : List UInt8) : trim (x :: xs) = if x = 32 then trim xs else x :: xs := by
  unfold trim Lib.trimLeftB
  rw [List.dropWhile_cons]
  simp
theorem trim_le (s : List UInt8) : (trim s).length ≤ s.length := by
  induction s with
  | nil => exact Nat.le_refl _
  | cons x xs ih =>
    rw [trim_cons]
    split
    · simp; omega
    · exact Nat.le_refl _
theorem trim_head (s : List UInt8) : (trim s).head? ≠ some 32 := by
  induction s with
  | nil => rw [trim_nil]; simp
  | cons x xs ih =>
    rw [trim_cons]
    split
    · exact ih
    · simp; assumption
theorem trim_drop (s : List UInt8) : trim s = s.drop (s.length - (trim s).length) := by
  induction s with
  | nil => rfl
  | cons x xs ih =>
    rw [trim_cons]
    split
    · have := trim_le xs
      rw [List.length_cons, show xs.length + 1 - (trim xs).length = (xs.length - (trim xs).length) + 1 by omega, List.drop_succ_cons]
      exact ih
    · simp
theorem wds_trim (s : List UInt8) : ∀ i : Int, wds s i [] = wds (trim s) (i + (s.length - (trim s).length : Nat)) [] := by
  induction s with
  | nil => intro i; simp [trim_nil]
  | cons x xs ih =>
    intro i
    rw [trim_cons]
    split
    · rename_i h
      have := trim_le xs
      rw [wds, if_pos h, ih (i + 1)]
      simp only [endW, if_true, List.nil_append, List.length_cons]
      congr 1
      omega
    · simp
/-- bytes that are no blanks join the word under way -/
theorem wds_run : ∀ (a b : List UInt8) (i : Int) (cur : List UInt8), (∀ x ∈ a, x ≠ 32) → wds (a ++ b) i cur = wds b (i + a.length) (cur ++ a) := by
  intro a
  induction a with
  | nil => intro b i cur _; simp
  | cons x xs ih =>
    intro b i cur h
    rw [List.cons_append, wds, if_neg (h x (by simp)), ih b (i + 1) (cur ++ [x]) (fun y hy => h y (by simp [hy]))]
    rw [List.append_assoc, List.length_cons]
    congr 1
    push_cast
    omega
theorem index_one_none {s : List UInt8} {c : UInt8} (h : Lib.index s [c] < 0) : ∀ x ∈ s, x ≠ c := by
  induction s with
  | nil => intro x hx; cases hx
  | cons y ys ih =>
    rw [Lib.index] at h
    split at h
    · omega
    · rename_i hp
      have hge := Lib.index_ge ys [c]
      have hy : y ≠ c := by
        intro e
        apply hp
        simp [List.isPrefixOf, e]
      split at h
      · rename_i h1
        have h2 : Lib.index ys [c] = -1 := by simpa using h1
        intro x hx
        rcases List.mem_cons.1 hx with rfl | hx
        · exact hy
        · exact ih (by omega) x hx
      · omega
theorem index_one_at {s : List UInt8} {c : UInt8} (h : 0 ≤ Lib.index s [c]) : (∀ x ∈ s.take (Lib.index s [c]).toNat, x ≠ c) ∧ s.drop (Lib.index s [c]).toNat = c :: s.drop ((Lib.index s [c]).toNat + 1) := by
  induction s with
  | nil => simp [Lib.index] at h
  | cons y ys ih =>
    rw [Lib.index] at h ⊢
    split at h
    · rename_i hp
      rw [if_pos hp]
      have hy : y = c := by
        simp only [List.isPrefixOf, Bool.and_true, beq_iff_eq] at hp
        exact hp.symm
      simp [hy]
    · rename_i hp
      rw [if_neg hp]
      have hge := Lib.index_ge ys [c]
      have hy : y ≠ c := by
        intro e
        apply hp
        simp [List.isPrefixOf, e]
      split at h
      · omega
      · rename_i h1
        rw [if_neg h1]
        have h2 : ¬ Lib.index ys [c] = -1 := by simpa using h1
        have := ih (by omega)
        have e : (Lib.index ys [c] + 1).toNat = (Lib.index ys [c]).toNat + 1 := by omega
        rw [e]
        refine ⟨?_, by rw [List.drop_succ_cons, List.drop_succ_cons]; exact this.2⟩
        intro x hx
        rw [List.take_succ_cons] at hx
        rcases List.mem_cons.1 hx with rfl | hx
        · exact hy
        · exact this.1 x hx
/-- strings.Cut at a blank, and the words -/
theorem wds_cut {s : List UInt8} (hne : s ≠ []) (hh : s.head? ≠ some 32) (i : Int) :
    (Lib.cut s [32]).1 ≠ [] ∧ (Lib.cut s [32]).1.headD 0 = s.headD 0 ∧ (Lib.cut s [32]).1.length + (Lib.cut s [32]).2.1.length ≤ s.length ∧
    wds s i [] = ⟨(Lib.cut s [32]).1, i + 1⟩ :: wds (Lib.cut s [32]).2.1 (i + (s.length - (Lib.cut s [32]).2.1.length : Nat)) [] := by
  obtain ⟨y, ys, rfl⟩ := List.exists_cons_of_ne_nil hne
  unfold Lib.cut
  split
  · rename_i h
    obtain ⟨h1, h2⟩ := index_one_at h
    have hb : (Lib.index (y :: ys) [32]).toNat < (y :: ys).length := by
      rcases Nat.lt_or_ge (Lib.index (y :: ys) [32]).toNat (y :: ys).length with h3 | h3
      · exact h3
      · rw [List.drop_eq_nil_of_le h3] at h2; cases h2
    generalize (Lib.index (y :: ys) [32]).toNat = n at *
    have hn : n ≠ 0 := by
      intro e
      rw [e] at h2
      simp at h2
      exact hh (by simp [h2])
    obtain ⟨k, rfl⟩ := Nat.exists_eq_succ_of_ne_zero hn
    refine ⟨by rw [List.take_succ_cons]; exact List.cons_ne_nil _ _, by rw [List.take_succ_cons]; rfl, by rw [List.length_take, List.length_drop]; omega, ?_⟩
    conv => lhs; rw [← List.take_append_drop (k + 1) (y :: ys)]
    rw [wds_run _ _ _ _ h1, h2, wds, if_pos rfl, List.nil_append]
    have hl : ((y :: ys).take (k + 1)).length = k + 1 := by rw [List.length_take]; omega
    unfold endW
    rw [if_neg (by rw [List.take_succ_cons]; exact List.cons_ne_nil _ _), hl]
    simp only [List.singleton_append, List.length_drop, List.length_cons, List.length_nil] at *
    congr 1
    · congr 1; omega
    · congr 1
      omega
  · rename_i h
    have h1 := index_one_none (show Lib.index (y :: ys) [32] < 0 by omega)
    refine ⟨by simp, rfl, by simp, ?_⟩
    conv => lhs; rw [← List.append_nil (y :: ys)]
    rw [wds_run _ _ _ _ h1, wds, List.nil_append, endW, if_neg (by simp)]
    simp only [List.length_nil, List.length_cons, wds, endW, if_true, Nat.sub_zero]
    congr 2
    omega
theorem rowsOf_run : ∀ (a b cur : List UInt8), (∀ x ∈ a, x ≠ 10) → rowsOf (a ++ b) cur = rowsOf b (cur ++ a) := by
  intro a
  induction a with
  | nil => intro b cur _; simp
  | cons x xs ih =>
    intro b cur h
    rw [List.cons_append, rowsOf, if_neg (h x (by simp)), ih b (cur ++ [x]) (fun y hy => h y (by simp [hy])), List.append_assoc]
    rfl
theorem rowsOf_none {s : List UInt8} (h : Lib.index s [10] < 0) : rowsOf s [] = [s] := by
  have := rowsOf_run s [] [] (index_one_none h)
  rw [List.append_nil] at this
  rw [this]; rfl
theorem rowsOf_hit {s : List UInt8} (h : 0 ≤ Lib.index s [10]) : rowsOf s [] = s.take (Lib.index s [10]).toNat :: rowsOf (s.drop ((Lib.index s [10]).toNat + 1)) [] := by
  obtain ⟨h1, h2⟩ := index_one_at h
  conv => lhs; rw [← List.take_append_drop (Lib.index s [10]).toNat s]
  rw [rowsOf_run _ _ _ h1, h2, rowsOf, if_pos rfl, List.nil_append]
theorem lineOf_nil {n : Int} {row : List UInt8} (h : wds row 0 [] = []) : lineOf n row = [] := by unfold lineOf; rw [h]
theorem lineOf_bang {n : Int} {row : List UInt8} {w : Wd} {ws : List Wd} (h : wds row 0 [] = w :: ws) (hb : w.t.headD 0 = 33) : lineOf n row = [] := by unfold lineOf; rw [h]; simp only; rw [if_pos hb]
theorem lineOf_is {n : Int} {row : List UInt8} {w : Wd} {ws : List Wd} (h : wds row 0 [] = w :: ws) (hb : ¬ w.t.headD 0 = 33) : lineOf n row = [⟨w.c - 1, n, w :: ws⟩] := by unfold lineOf; rw [h]; simp only; rw [if_neg hb]
end Go.Proofs.Ytihmmmodimionaa.Lx
/- Plain words on texts of braces: the tokens of a text. No program is in sight. -/
namespace Go.Proofs.Ytihmmmodimionaa.Lx
open Go

structure Tok where
  k : Int
  t : List UInt8
  l : Int
  c : Int
def appT (d : List Tok) : Except (Int × Int) (List Tok) → Except (Int × Int) (List Tok)
  | .error e => .error e
  | .ok ts => .ok (d ++ ts)
theorem appT_nil (r : Except (Int × Int) (List Tok)) : appT [] r = r := by cases r <;> rfl
theorem appT_app (a b : List Tok) (r : Except (Int × Int) (List Tok)) : appT a (appT b r) = appT (a ++ b) r := by cases r <;> simp [appT]
/-- the tokens of what is left of a text; an error: where -/
def toks : Nat → List UInt8 → Int → Int → Except (Int × Int) (List Tok)
  | 0, _, _, _ => .ok []
  | _ + 1, [], _, _ => .ok []
  | f + 1, x :: xs, l, c =>
    if (step (x :: xs)).err then .error (l, c)
    else appT (if (step (x :: xs)).is then [⟨(step (x :: xs)).k, (step (x :: xs)).t, l, c⟩] else []) (toks f ((x :: xs).drop (step (x :: xs)).n) (adv ((x :: xs).take (step (x :: xs)).n) l c).1 (adv ((x :: xs).take (step (x :: xs)).n) l c).2)
theorem toks_nil (f : Nat) (l c : Int) : toks f [] l c = .ok [] := by cases f <;> rfl
theorem toks_step (f : Nat) (s : List UInt8) (l c : Int) (h : s ≠ []) : toks (f + 1) s l c = if (step s).err then .error (l, c)
    else appT (if (step s).is then [⟨(step s).k, (step s).t, l, c⟩] else []) (toks f (s.drop (step s).n) (adv (s.take (step s).n) l c).1 (adv (s.take (step s).n) l c).2) := by
  obtain ⟨x, xs, rfl⟩ := List.exists_cons_of_ne_nil h
  rfl
/-- what lex.Tokens answers -/
def tokRes (s : List UInt8) : List Tok × Int × Int × Int :=
  if (chk s).2.2 = 0 then
    match toks s.length s 1 1 with
    | .error e => ([], e.1, e.2, 71)
    | .ok ts => (ts, 0, 0, 0)
  else ([], chk s)
theorem tokRes_err {s : List UInt8} {l c : Int} (hc : (chk s).2.2 = 0) (h : toks s.length s 1 1 = .error (l, c)) : tokRes s = ([], l, c, 71) := by
  unfold tokRes
  rw [if_pos hc, h]
theorem tokRes_ok {s : List UInt8} {ts : List Tok} (hc : (chk s).2.2 = 0) (h : toks s.length s 1 1 = .ok ts) : tokRes s = (ts, 0, 0, 0) := by
  unfold tokRes
  rw [if_pos hc, h]
theorem tokRes_no {s : List UInt8} (hc : ¬ (chk s).2.2 = 0) : tokRes s = ([], chk s) := by
  unfold tokRes
  rw [if_neg hc]
theorem toks_err {r : Except (Int × Int) (List Tok)} {d : List Tok} {f : Nat} {s : List UInt8} {l c : Int} (hf : s.length ≤ f) (hn : s ≠ []) (h : r = appT d (toks f s l c)) (he : (step s).err = true) : r = .error (l, c) := by
  obtain ⟨x, xs, rfl⟩ := List.exists_cons_of_ne_nil hn
  obtain ⟨f', rfl⟩ : ∃ f', f = f' + 1 := ⟨f - 1, by simp at hf; omega⟩
  rw [h, toks_step _ _ _ _ hn, if_pos he]
  rfl
theorem toks_more {r : Except (Int × Int) (List Tok)} {d : List Tok} {f : Nat} {s : List UInt8} {l c : Int} (hf : s.length ≤ f) (hn : s ≠ []) (h : r = appT d (toks f s l c)) (he : (step s).err = false) (h1 : 1 ≤ (step s).n) :
    ∃ f', (s.drop (step s).n).length ≤ f' ∧ r = appT (d ++ (if (step s).is then [⟨(step s).k, (step s).t, l, c⟩] else [])) (toks f' (s.drop (step s).n) (adv (s.take (step s).n) l c).1 (adv (s.take (step s).n) l c).2) := by
  obtain ⟨x, xs, rfl⟩ := List.exists_cons_of_ne_nil hn
  obtain ⟨f', rfl⟩ : ∃ f', f = f' + 1 := ⟨f - 1, by simp at hf; omega⟩
  refine ⟨f', by rw [List.length_drop]; simp only [List.length_cons] at hf ⊢; omega, ?_⟩
  rw [h, toks_step _ _ _ _ hn, if_neg (by rw [he]; decide), appT_app]
end Go.Proofs.Ytihmmmodimionaa.Lx
/- Plain words on places: the row of a number, whether a word stands there; what was cut stands where it is told. No program is in sight. -/
namespace Go.Proofs.Ytihmmmodimionaa.Lx
open Go

def notNl (x : UInt8) : Bool := !(x == 10)
/-- the row of a number, from 1 on -/
def rowAt (s : List UInt8) (n : Int) : List UInt8 := (rowsOf s [])[(n - 1).toNat]?.getD []
def standsIn (row w : List UInt8) (c : Int) : Bool := decide (1 ≤ c) && (decide (c - 1 + w.length ≤ row.length) && ((row.drop (c - 1).toNat).take w.length == w))
def standsB (s w : List UInt8) (l c : Int) : Bool := standsIn (rowAt s l) w c

theorem rowsOf_head : ∀ (b cur : List UInt8), (rowsOf b cur)[0]? = some (cur ++ b.takeWhile notNl) := by
  intro b
  induction b with
  | nil => intro cur; simp [rowsOf]
  | cons x xs ih =>
    intro cur
    rw [rowsOf]
    by_cases h : x = 10
    · rw [if_pos h]; simp [notNl, h]
    · rw [if_neg h, ih]
      have : notNl x = true := by simp [notNl, h]
      rw [List.takeWhile_cons, if_pos this]; simp
theorem rows_place : ∀ (a b cur : List UInt8) (l : Int), ∃ p : List UInt8, (p.length : Int) = (adv a l (cur.length + 1)).2 - 1 ∧ l ≤ (adv a l (cur.length + 1)).1 ∧ (rowsOf (a ++ b) cur)[((adv a l (cur.length + 1)).1 - l).toNat]? = some (p ++ b.takeWhile notNl) := by
  intro a
  induction a with
  | nil =>
    intro b cur l
    refine ⟨cur, by simp only [adv]; omega, by simp only [adv]; omega, ?_⟩
    simp only [adv, List.nil_append, Int.sub_self, Int.toNat_zero]
    exact rowsOf_head b cur
  | cons x xs ih =>
    intro b cur l
    simp only [adv, List.cons_append, rowsOf]
    by_cases h : x = 10
    · simp only [if_pos h]
      obtain ⟨p, h1, h2, h3⟩ := ih b [] (l + 1)
      simp only [List.length_nil, Int.natCast_zero, Int.zero_add] at h1 h2 h3
      refine ⟨p, h1, by omega, ?_⟩
      rw [show ((adv xs (l + 1) 1).1 - l).toNat = ((adv xs (l + 1) 1).1 - (l + 1)).toNat + 1 by omega, List.getElem?_cons_succ]
      exact h3
    · simp only [if_neg h]
      obtain ⟨p, h1, h2, h3⟩ := ih b (cur ++ [x]) l
      have e : ((cur ++ [x]).length : Int) + 1 = cur.length + 1 + 1 := by simp
      rw [e] at h1 h2 h3
      exact ⟨p, h1, h2, h3⟩
/-- the row of a byte's place -/
theorem row_place (a b : List UInt8) : ∃ p : List UInt8, (p.length : Int) = (adv a 1 1).2 - 1 ∧ rowAt (a ++ b) (adv a 1 1).1 = p ++ b.takeWhile notNl := by
  obtain ⟨p, h1, h2, h3⟩ := rows_place a b [] 1
  simp only [List.length_nil, Int.natCast_zero, Int.zero_add] at h1 h2 h3
  exact ⟨p, h1, by unfold rowAt; rw [h3]; rfl⟩
theorem stands_place (a b w : List UInt8) : standsB (a ++ b) w (adv a 1 1).1 (adv a 1 1).2 = decide (w <+: b.takeWhile notNl) := by
  obtain ⟨p, h1, h2⟩ := row_place a b
  unfold standsB standsIn
  rw [h2]
  generalize (adv a 1 1).2 = c at *
  obtain rfl : c = p.length + 1 := by omega
  rw [show ((p.length : Int) + 1 - 1).toNat = p.length by omega, List.drop_left' rfl, Bool.eq_iff_iff]
  simp only [Bool.and_eq_true, decide_eq_true_eq, beq_iff_eq, List.length_append]
  rw [List.prefix_iff_eq_take]
  constructor
  · rintro ⟨_, _, h⟩; exact h.symm
  · intro h
    refine ⟨by omega, ?_, h.symm⟩
    have := congrArg List.length h
    rw [List.length_take] at this
    omega
theorem adv_lex : ∀ (a : List UInt8) (l c : Int), l < (adv a l c).1 ∨ ((adv a l c).1 = l ∧ (adv a l c).2 = c + a.length) := by
  intro a
  induction a with
  | nil => intro l c; right; simp [adv]
  | cons x xs ih =>
    intro l c
    simp only [adv]
    split
    · left
      rcases ih (l + 1) 1 with h | h <;> omega
    · rcases ih l (c + 1) with h | h
      · exact .inl h
      · right; refine ⟨h.1, ?_⟩; rw [h.2, List.length_cons]; push_cast; omega
theorem takeWhile_pre {a r : List UInt8} (h : a <+: r) (hn : ∀ x ∈ a, x ≠ 10) : a <+: r.takeWhile notNl := by
  obtain ⟨b, rfl⟩ := h
  rw [List.takeWhile_append_of_pos (fun x hx => by simp [notNl, hn x hx])]
  exact List.prefix_append _ _

/-- what the words of a row meet, one by one: each behind the last one, each where it is told -/
def wOk (row : List UInt8) : Int → List Wd → Prop
  | _, [] => True
  | col, w :: ws => w.t ≠ [] ∧ col < w.c ∧ standsIn row w.t w.c = true ∧ wOk row (w.c + w.t.length) ws
theorem stands_mid (p t r : List UInt8) : standsIn (p ++ t ++ r) t (p.length + 1) = true := by
  unfold standsIn
  rw [show ((p.length : Int) + 1 - 1).toNat = p.length by omega, List.append_assoc, List.drop_left' rfl, List.take_left' rfl]
  simp only [List.length_append, beq_self_eq_true, Bool.and_true, Bool.and_eq_true, decide_eq_true_eq]
  omega
theorem wOk_end (pre cur rest : List UInt8) (col : Int) (ws : List Wd) (hc : col ≤ pre.length) (h : wOk (pre ++ cur ++ rest) (if cur = [] then col else pre.length + 1 + cur.length) ws) :
    wOk (pre ++ cur ++ rest) col (endW (pre.length + cur.length : Nat) cur ++ ws) := by
  unfold endW
  by_cases hn : cur = []
  · rw [if_pos hn] at h ⊢
    exact h
  · rw [if_neg hn] at h ⊢
    have e : ((pre.length + cur.length : Nat) : Int) - cur.length + 1 = pre.length + 1 := by omega
    rw [e]
    exact ⟨hn, by show col < _; simp only; omega, stands_mid pre cur rest, h⟩
theorem wds_ok : ∀ (rest pre cur : List UInt8) (col : Int), col ≤ pre.length → wOk (pre ++ cur ++ rest) col (wds rest (pre.length + cur.length : Nat) cur) := by
  intro rest
  induction rest with
  | nil =>
    intro pre cur col hc
    rw [wds]
    have := wOk_end pre cur [] col [] hc trivial
    rw [List.append_nil (endW _ _)] at this
    exact this
  | cons x xs ih =>
    intro pre cur col hc
    rw [wds]
    by_cases h : x = 32
    · rw [if_pos h]
      refine wOk_end pre cur (x :: xs) col _ hc ?_
      have e : pre ++ cur ++ x :: xs = (pre ++ cur ++ [x]) ++ [] ++ xs := by simp
      have e2 : ((pre.length + cur.length : Nat) : Int) + 1 = (((pre ++ cur ++ [x]).length + ([] : List UInt8).length : Nat) : Int) := by simp; omega
      rw [e, e2]
      refine ih _ _ _ ?_
      split <;> simp <;> omega
    · rw [if_neg h]
      have e : pre ++ cur ++ x :: xs = pre ++ (cur ++ [x]) ++ xs := by simp
      have e2 : ((pre.length + cur.length : Nat) : Int) + 1 = ((pre.length + (cur ++ [x]).length : Nat) : Int) := by simp; omega
      rw [e, e2]
      exact ih _ _ _ hc
/-- what the lines of a text meet, one by one -/
def lOk (s : List UInt8) : Int → List Ln → Prop
  | _, [] => True
  | line, x :: xs => line < x.l ∧ (1 ≤ x.l ∧ x.l ≤ s.length + 1) ∧ (∃ w ws, x.ws = w :: ws ∧ w.c = x.ind + 1) ∧ wOk (rowAt s x.l) 0 x.ws ∧ lOk s x.l xs
theorem rowsOf_len : ∀ (b cur : List UInt8), (rowsOf b cur).length ≤ b.length + 1 ∧ ∀ r ∈ rowsOf b cur, r.length ≤ cur.length + b.length := by
  intro b
  induction b with
  | nil => intro cur; simp [rowsOf]
  | cons x xs ih =>
    intro cur
    rw [rowsOf]
    split
    · obtain ⟨h1, h2⟩ := ih []
      refine ⟨by simp; omega, fun r hr => ?_⟩
      rcases List.mem_cons.1 hr with rfl | hr
      · omega
      · have := h2 r hr
        simp at this ⊢
        omega
    · obtain ⟨h1, h2⟩ := ih (cur ++ [x])
      refine ⟨by simp; omega, fun r hr => ?_⟩
      have := h2 r hr
      simp at this ⊢
      omega
theorem rowAt_len (s : List UInt8) (n : Int) : (rowAt s n).length ≤ s.length := by
  unfold rowAt
  cases h : (rowsOf s [])[(n - 1).toNat]? with
  | none => simp
  | some r =>
    have := (rowsOf_len s []).2 r (List.mem_of_getElem? h)
    simpa using this
theorem standsIn_bd {row w : List UInt8} {c : Int} (h : standsIn row w c = true) : 1 ≤ c ∧ c - 1 + w.length ≤ row.length := by
  unfold standsIn at h
  simp only [Bool.and_eq_true, decide_eq_true_eq] at h
  exact ⟨h.1, h.2.1⟩
theorem linesOf_ok (s : List UInt8) : ∀ (rows : List (List UInt8)) (n : Nat) (line : Int), rows = (rowsOf s []).drop n → line ≤ n → lOk s line (linesOf rows (n + 1)) := by
  intro rows
  induction rows with
  | nil => intro n line _ _; exact trivial
  | cons r rs ih =>
    intro n line hr hl
    have hget : (rowsOf s [])[n]? = some r := by
      have := congrArg (fun l => l[0]?) hr
      simp only [List.getElem?_cons_zero, List.getElem?_drop, Nat.add_zero] at this
      exact this.symm
    have hnl : n < (rowsOf s []).length := (List.getElem?_eq_some_iff.1 hget).1
    have hnl2 := (rowsOf_len s []).1
    have hrs : rs = (rowsOf s []).drop (n + 1) := by
      have := congrArg List.tail hr
      rw [List.tail_drop] at this
      exact this
    have hrow : rowAt s ((n : Int) + 1) = r := by
      unfold rowAt
      rw [show ((n : Int) + 1 - 1).toNat = n by omega, hget]; rfl
    have hih := ih (n + 1) (n + 1) hrs (by omega)
    have hih2 := ih (n + 1) line hrs (by omega)
    push_cast at hih hih2
    rw [linesOf]
    unfold lineOf
    have hw := wds_ok r [] [] 0 (by simp)
    simp only [List.nil_append, List.length_nil, Nat.add_zero, Int.natCast_zero] at hw
    cases hwd : wds r 0 [] with
    | nil => exact hih2
    | cons w ws =>
      simp only
      by_cases hb : w.t.headD 0 = 33
      · rw [if_pos hb]; exact hih2
      · rw [if_neg hb]
        rw [hwd] at hw
        exact ⟨by show line < (n : Int) + 1; omega, ⟨by show 1 ≤ (n : Int) + 1; omega, by show (n : Int) + 1 ≤ _; omega⟩, ⟨w, ws, rfl, by show w.c = w.c - 1 + 1; omega⟩, by rw [show rowAt s ((n : Int) + 1) = r from hrow]; exact hw, hih⟩
theorem linRes_lok (s : List UInt8) : lOk s 0 (linRes s).1 := by
  unfold linRes
  split
  · exact linesOf_ok s (rowsOf s []) 0 0 rfl (by omega)
  · exact trivial

/-- what the tokens of a text meet, one by one -/
def tOk (s : List UInt8) : Int → Int → List Tok → Prop
  | _, _, [] => True
  | pl, pc, t :: ts => (pl < t.l ∨ (t.l = pl ∧ pc < t.c)) ∧ (1 ≤ t.l ∧ t.l ≤ s.length + 1) ∧ (1 ≤ t.c ∧ t.c ≤ s.length + 1) ∧
      ((standsB s [34] t.l t.c = true ∧ standsB s t.t t.l (t.c + 1) = true) ∨ (standsB s [34] t.l t.c = false ∧ standsB s t.t t.l t.c = true ∧ t.t ≠ [])) ∧ tOk s t.l t.c ts
theorem firstN_before (p : List UInt8 → Bool) : ∀ (s : List UInt8) (k : Nat), k < firstN p s → p (s.drop k) = false := by
  intro s
  induction s with
  | nil => intro k h; simp [firstN] at h
  | cons x xs ih =>
    intro k h
    unfold firstN at h
    split at h
    · omega
    · cases k with
      | zero => rename_i hp; exact Bool.eq_false_iff.2 hp
      | succ k => simpa using ih k (by omega)
theorem indexAny_before : ∀ (s cs : List UInt8), 0 ≤ Lib.indexAny s cs → ∀ x ∈ s.take (Lib.indexAny s cs).toNat, cs.contains x = false := by
  intro s
  induction s with
  | nil => intro cs h; simp [Lib.indexAny] at h
  | cons y ys ih =>
    intro cs h
    unfold Lib.indexAny at h ⊢
    split
    · simp
    · rename_i hc
      rw [if_neg hc] at h
      split at h
      · omega
      · rename_i h1
        rw [if_neg h1]
        have hge := Lib.indexAny_ge cs ys
        have h1' : ¬ Lib.indexAny ys cs = -1 := by simpa using h1
        rw [show (Lib.indexAny ys cs + 1).toNat = (Lib.indexAny ys cs).toNat + 1 by omega, List.take_succ_cons]
        intro x hx
        rcases List.mem_cons.1 hx with rfl | hx
        · simpa using hc
        · exact ih cs (by omega) x hx
theorem pre_tw {w r : List UInt8} (h : w <+: r.takeWhile notNl) : standsB = standsB ∧ w <+: r := ⟨rfl, h.trans (List.takeWhile_prefix _)⟩
/-- what a token of a step is: it stands there -/
theorem step_place (a r : List UInt8) (hr : r ≠ []) (he : (step r).err = false) (hi : (step r).is = true) :
    ((standsB (a ++ r) [34] (adv a 1 1).1 (adv a 1 1).2 = true ∧ standsB (a ++ r) (step r).t (adv a 1 1).1 ((adv a 1 1).2 + 1) = true) ∨ (standsB (a ++ r) [34] (adv a 1 1).1 (adv a 1 1).2 = false ∧ standsB (a ++ r) (step r).t (adv a 1 1).1 (adv a 1 1).2 = true ∧ (step r).t ≠ [])) ∧ 1 ≤ (step r).n := by
  obtain ⟨x, xs, rfl⟩ := List.exists_cons_of_ne_nil hr
  have hs : step (x :: xs) = step (x :: xs) := rfl
  conv at hs => rhs; unfold step; rw [show (x :: xs).headD 0 = x from rfl]
  have hq : ∀ (h34 : x ≠ 34), standsB (a ++ x :: xs) [34] (adv a 1 1).1 (adv a 1 1).2 = false := by
    intro h34
    rw [stands_place, decide_eq_false_iff_not]
    intro hp
    have := (pre_tw hp).2
    rw [List.cons_prefix_cons] at this
    exact h34 this.1.symm
  by_cases h1 : x = 32 ∨ x = 10
  · rw [if_pos h1] at hs; rw [hs] at hi; cases hi
  rw [if_neg h1] at hs
  by_cases h2 : x = 35
  · rw [if_pos h2] at hs; rw [hs] at hi; cases hi
  rw [if_neg h2] at hs
  by_cases h3 : Lib.hasPrefix (x :: xs) [47, 42] = true
  · rw [if_pos h3] at hs
    split at hs <;> (rw [hs] at hi; cases hi)
  rw [if_neg h3] at hs
  have n10 : x ≠ 10 := fun h => h1 (.inr h)
  by_cases h4 : x = 34
  · rw [if_pos h4] at hs
    by_cases h5 : Lib.indexAny ((x :: xs).drop 1) [34, 10] < 0 ∨ (x :: xs).getD ((Lib.indexAny ((x :: xs).drop 1) [34, 10]).toNat + 1) 0 = 10
    · rw [if_pos h5] at hs; rw [hs] at he; cases he
    · rw [if_neg h5] at hs
      rw [hs]
      refine ⟨.inl ⟨?_, ?_⟩, by show 1 ≤ (Lib.indexAny ((x :: xs).drop 1) [34, 10]).toNat + 2; omega⟩
      · rw [stands_place, decide_eq_true_iff, h4]
        exact takeWhile_pre ⟨xs, rfl⟩ (by simp)
      · have h6 : 0 ≤ Lib.indexAny xs [34, 10] := by
          have : ¬ Lib.indexAny xs [34, 10] < 0 := fun h => h5 (.inl h)
          omega
        have e : a ++ x :: xs = (a ++ [x]) ++ xs := by simp
        have e2 : ((adv a 1 1).1, (adv a 1 1).2 + 1) = adv (a ++ [x]) 1 1 := by rw [adv_snoc, if_neg n10]
        have e3 : (adv (a ++ [x]) 1 1).1 = (adv a 1 1).1 := by rw [← e2]
        have e4 : (adv (a ++ [x]) 1 1).2 = (adv a 1 1).2 + 1 := by rw [← e2]
        rw [e, ← e3, ← e4, stands_place, decide_eq_true_iff]
        refine takeWhile_pre (List.take_prefix _ _) (fun y hy => ?_)
        have := indexAny_before xs [34, 10] h6 y hy
        rintro rfl
        simp at this
  rw [if_neg h4] at hs
  by_cases h5 : (0 : Int) ≤ Lib.indexByte signs x
  · rw [if_pos h5] at hs
    rw [hs]
    refine ⟨.inr ⟨hq h4, ?_, by simp⟩, Nat.le_refl _⟩
    rw [stands_place, decide_eq_true_iff]
    exact takeWhile_pre (List.take_prefix _ _) (by simpa using n10)
  · rw [if_neg h5] at hs
    have hnE : isEnd (x :: xs) = false := by
      have h3' : Lib.hasPrefix (x :: xs) [47, 42] = false := by simpa using h3
      rw [isEnd, h3', Bool.or_false, decide_eq_false_iff_not]
      intro hend
      have n32 : (32 == x) = false := beq_eq_false_iff_ne.2 (fun h => h1 (.inl h.symm))
      have n10 : (10 == x) = false := beq_eq_false_iff_ne.2 (fun h => h1 (.inr h.symm))
      have n35 : (35 == x) = false := beq_eq_false_iff_ne.2 (fun h => h2 h.symm)
      have n34 : (34 == x) = false := beq_eq_false_iff_ne.2 (fun h => h4 h.symm)
      simp only [Lib.indexByte, signs] at h5
      simp only [Lib.indexByte, endB, n32, n10, n34, n35] at hend
      cases c1 : ((123 : UInt8) == x) <;> cases c2 : ((125 : UInt8) == x) <;> cases c3 : ((59 : UInt8) == x) <;> cases c4 : ((91 : UInt8) == x) <;> cases c5 : ((93 : UInt8) == x) <;> simp [c1, c2, c3, c4, c5] at h5 hend
    have hn1 : firstN isEnd (x :: xs) = firstN isEnd xs + 1 := by rw [firstN, if_neg (by rw [hnE]; decide)]
    rw [hs]
    refine ⟨.inr ⟨hq h4, ?_, ?_⟩, by show 1 ≤ firstN isEnd (x :: xs); omega⟩
    · rw [stands_place, decide_eq_true_iff]
      refine takeWhile_pre (List.take_prefix _ _) (fun y hy => ?_)
      obtain ⟨k, hk, hky⟩ := List.getElem_of_mem hy
      rw [List.length_take] at hk
      have hk1 : k < firstN isEnd (x :: xs) := by omega
      have hb := firstN_before isEnd (x :: xs) k hk1
      rw [List.getElem_take] at hky
      rw [List.drop_eq_getElem_cons (by omega), hky] at hb
      rintro rfl
      simp [isEnd, endB, Lib.indexByte] at hb
    · show (x :: xs).take (firstN isEnd (x :: xs)) ≠ []
      rw [hn1, List.take_succ_cons]
      exact List.cons_ne_nil _ _
theorem toks_place (s : List UInt8) : ∀ (f : Nat) (a r : List UInt8) (pl pc : Int) (ts : List Tok), s = a ++ r → (pl < (adv a 1 1).1 ∨ ((adv a 1 1).1 = pl ∧ pc < (adv a 1 1).2)) → toks f r (adv a 1 1).1 (adv a 1 1).2 = .ok ts → tOk s pl pc ts := by
  intro f
  induction f with
  | zero => intro a r pl pc ts _ _ h; rw [toks] at h; injection h with h; rw [← h]; exact trivial
  | succ f ih =>
    intro a r pl pc ts hs hp h
    by_cases hr : r = []
    · rw [hr, toks_nil] at h; injection h with h; rw [← h]; exact trivial
    rw [toks_step _ _ _ _ hr] at h
    cases he : (step r).err
    case true => rw [he] at h; simp at h
    rw [he] at h
    simp only [Bool.false_eq_true, if_false] at h
    have hb := adv_bd a 1 1 (by omega) (by omega)
    have e : s = (a ++ r.take (step r).n) ++ r.drop (step r).n := by rw [List.append_assoc, List.take_append_drop]; exact hs
    have e2 := adv_append a (r.take (step r).n) 1 1
    rw [← e2] at h
    cases hrest : toks f (r.drop (step r).n) (adv (a ++ r.take (step r).n) 1 1).1 (adv (a ++ r.take (step r).n) 1 1).2 with
    | error z => rw [hrest] at h; simp [appT] at h
    | ok ts' =>
      rw [hrest] at h
      simp only [appT, Except.ok.injEq] at h
      have hlex := adv_lex (r.take (step r).n) (adv a 1 1).1 (adv a 1 1).2
      rw [← e2] at hlex
      cases hi : (step r).is
      · rw [hi] at h
        simp only [Bool.false_eq_true, if_false, List.nil_append] at h
        subst h
        refine ih _ _ pl pc _ e ?_ hrest
        omega
      · rw [hi] at h
        simp only [if_true, List.singleton_append] at h
        subst h
        obtain ⟨h1, h2⟩ := step_place a r hr he hi
        rw [← hs] at h1
        have hl : 1 ≤ (r.take (step r).n).length := by
          have : 1 ≤ r.length := List.length_pos_iff.2 hr
          rw [List.length_take]; omega
        have hal : a.length ≤ s.length := by rw [hs]; simp
        exact ⟨hp, ⟨hb.1, by show (adv a 1 1).1 ≤ _; omega⟩, ⟨hb.2.2.1, by show (adv a 1 1).2 ≤ _; omega⟩, h1, ih _ _ _ _ _ e (by simp only; omega) hrest⟩
theorem tokRes_tok (s : List UInt8) : tOk s 0 0 (tokRes s).1 := by
  unfold tokRes
  split
  · cases h : toks s.length s 1 1 with
    | error e => exact trivial
    | ok ts => exact toks_place s s.length [] s 0 0 ts rfl (by simp [adv]) h
  · exact trivial
end Go.Proofs.Ytihmmmodimionaa.Lx
/- Plain words on texts that are put together again: cut once more they are the same. No program is in sight. -/
namespace Go.Proofs.Ytihmmmodimionaa.Lx
open Go

/-- a byte that may stand in a row -/
def okB (x : UInt8) : Prop := 32 ≤ x.toNat ∧ x.toNat ≤ 126
theorem okB_ne {x : UInt8} (h : okB x) : x ≠ 10 := by
  rintro rfl
  exact absurd h.1 (by decide)
theorem chkL_good : ∀ (s : List UInt8) (l c : Int), (∀ x ∈ s, x = 10 ∨ okB x) → l + s.count 10 ≤ 4096 → (chkL s l c).2.2 = 0 := by
  intro s
  induction s with
  | nil => intro l c _ _; rfl
  | cons x xs ih =>
    intro l c h hl
    rw [chkL, if_neg (by omega)]
    rw [List.count_cons] at hl
    by_cases hx : x = 10
    · rw [if_pos hx]
      rw [if_pos (by simpa using hx)] at hl
      exact ih _ _ (fun y hy => h y (by simp [hy])) (by push_cast at hl; omega)
    · rw [if_neg hx]
      have : okB x := (h x (by simp)).resolve_left hx
      rw [if_neg (by unfold okB at this; omega)]
      exact ih _ _ (fun y hy => h y (by simp [hy])) (by split at hl <;> push_cast at hl <;> omega)
theorem chk_good {s : List UInt8} (h : ∀ x ∈ s, x = 10 ∨ okB x) (hc : s.count 10 ≤ 4095) (hl : s.length ≤ 65536) : (chk s).2.2 = 0 := by
  unfold chk
  rw [if_neg (by omega)]
  exact chkL_good s 1 1 h (by omega)
theorem chk_bad {s : List UInt8} (h : ∀ x ∈ s, x = 10 ∨ okB x) (hc : s.count 10 ≤ 4095) (he : ¬ (chk s).2.2 = 0) : 65536 < s.length := by
  rcases Nat.lt_or_ge 65536 s.length with h1 | h1
  · exact h1
  · exact absurd (chk_good h hc h1) he

/-- a row of blanks -/
def blk (n : Nat) : List UInt8 := List.replicate n 32
theorem blk_ok (n : Nat) : ∀ x ∈ blk n, okB x := by
  intro x hx
  have := List.eq_of_mem_replicate hx
  subst this
  exact ⟨by decide, by decide⟩
theorem wds_blk : ∀ (n : Nat) (r : List UInt8) (i : Int), wds (blk n ++ r) i [] = wds r (i + n) [] := by
  intro n
  induction n with
  | zero => intro r i; simp [blk]
  | succ n ih =>
    intro r i
    rw [blk, List.replicate_succ, List.cons_append, wds, if_pos rfl]
    have := ih r (i + 1)
    rw [blk] at this
    rw [this]
    simp only [endW, if_true, List.nil_append]
    congr 1
    push_cast
    omega
/-- a word that may be written -/
def goodW (t : List UInt8) : Prop := t ≠ [] ∧ ∀ x ∈ t, okB x ∧ x ≠ 32
theorem wds_word (t : List UInt8) (g : Nat) (r : List UInt8) (i : Int) (h : goodW t) (hg : 1 ≤ g) : wds (t ++ blk g ++ r) i [] = ⟨t, i + 1⟩ :: wds r (i + t.length + g) [] := by
  obtain ⟨k, rfl⟩ : ∃ k, g = k + 1 := ⟨g - 1, by omega⟩
  rw [List.append_assoc, wds_run t _ i [] (fun x hx => (h.2 x hx).2), blk, List.replicate_succ, List.cons_append, wds, if_pos rfl, List.nil_append, endW, if_neg h.1]
  have := wds_blk k r (i + t.length + 1)
  rw [blk] at this
  rw [this]
  simp only [List.singleton_append]
  congr 1
  · congr 1; omega
  · congr 1; push_cast; omega

def lnT (g : Nat) (cm : List UInt8) (x : Ln) : List UInt8 := blk x.ind.toNat ++ x.ws.flatMap (fun w => w.t ++ blk g) ++ ([10, 32, 32, 33, 32] ++ cm ++ [10, 10])
def agT (g : Nat) (cm : List UInt8) (ls : List Ln) : List UInt8 := ls.flatMap (lnT g cm)
/-- what counts of a line -/
def core (x : Ln) : Int × List (List UInt8) := (x.ind, x.ws.map Wd.t)
structure goodL (x : Ln) : Prop where
  ind : 0 ≤ x.ind
  ne : x.ws ≠ []
  words : ∀ w ∈ x.ws, goodW w.t
  bang : ∀ w ws, x.ws = w :: ws → ¬ w.t.headD 0 = 33

theorem wds_words (g : Nat) (hg : 1 ≤ g) : ∀ (ws : List Wd) (i : Int), (∀ w ∈ ws, goodW w.t) → (wds (ws.flatMap (fun w => w.t ++ blk g)) i []).map Wd.t = ws.map Wd.t ∧ ∀ w ws', wds (ws.flatMap (fun w => w.t ++ blk g)) i [] = w :: ws' → w.c = i + 1 := by
  intro ws
  induction ws with
  | nil => intro i _; simp [wds, endW]
  | cons w ws ih =>
    intro i h
    rw [List.flatMap_cons, wds_word w.t g _ i (h w (by simp)) hg]
    refine ⟨?_, ?_⟩
    · rw [List.map_cons, List.map_cons, (ih _ (fun w' hw' => h w' (by simp [hw']))).1]
    · intro w' ws' he
      injection he with h1 h2
      rw [← h1]
theorem lnT_row_ok {g : Nat} {x : Ln} (h : goodL x) : ∀ y ∈ blk x.ind.toNat ++ x.ws.flatMap (fun w => w.t ++ blk g), okB y := by
  intro y hy
  rcases List.mem_append.1 hy with hy | hy
  · exact blk_ok _ y hy
  · obtain ⟨w, hw, hy⟩ := List.mem_flatMap.1 hy
    rcases List.mem_append.1 hy with hy | hy
    · exact ((h.words w hw).2 y hy).1
    · exact blk_ok _ y hy
theorem lnT_line {g : Nat} (hg : 1 ≤ g) {x : Ln} (h : goodL x) (n : Int) : ∃ y, lineOf n (blk x.ind.toNat ++ x.ws.flatMap (fun w => w.t ++ blk g)) = [y] ∧ core y = core x := by
  have hw := wds_blk x.ind.toNat (x.ws.flatMap (fun w => w.t ++ blk g)) 0
  obtain ⟨h1, h2⟩ := wds_words g hg x.ws (0 + (x.ind.toNat : Nat)) h.words
  rw [← hw] at h1 h2
  cases hws : wds (blk x.ind.toNat ++ x.ws.flatMap (fun w => w.t ++ blk g)) 0 [] with
  | nil =>
    rw [hws] at h1
    have := h1.symm
    simp at this
    exact absurd this h.ne
  | cons w ws =>
    rw [hws] at h1
    have hc := h2 w ws hws
    obtain ⟨w0, ws0, h0⟩ := List.exists_cons_of_ne_nil h.ne
    rw [h0] at h1
    simp only [List.map_cons, List.cons.injEq] at h1
    have hb := h.bang w0 ws0 h0
    rw [← h1.1] at hb
    refine ⟨_, lineOf_is hws hb, ?_⟩
    unfold core
    have hi := h.ind
    simp only [h0, List.map_cons, h1.1, h1.2]
    congr 1
    omega
theorem rest_line (cm : List UInt8) (hcm : ∀ x ∈ cm, okB x ∧ x ≠ 32) (n : Int) : lineOf n ([32, 32, 33, 32] ++ cm) = [] := by
  have h : ∃ ws, wds ([32, 32, 33, 32] ++ cm) 0 [] = ⟨[33], 3⟩ :: ws := by
    refine ⟨wds cm 4 [], ?_⟩
    simp only [List.cons_append, List.nil_append, wds, if_true, endW, List.length_nil]
    rfl
  obtain ⟨ws, h⟩ := h
  exact lineOf_bang h rfl
theorem agT_lines {g : Nat} (hg : 1 ≤ g) {cm : List UInt8} (hcm : ∀ x ∈ cm, okB x ∧ x ≠ 32) : ∀ (ls : List Ln) (n : Int), (∀ x ∈ ls, goodL x) → (linesOf (rowsOf (agT g cm ls) []) n).map core = ls.map core := by
  intro ls
  induction ls with
  | nil => intro n _; simp [agT, rowsOf, linesOf, lineOf, wds, endW]
  | cons x xs ih =>
    intro n h
    have hx := h x (by simp)
    have e : agT g cm (x :: xs) = (blk x.ind.toNat ++ x.ws.flatMap (fun w => w.t ++ blk g)) ++ (10 :: (([32, 32, 33, 32] ++ cm) ++ (10 :: 10 :: agT g cm xs))) := by
      simp [agT, lnT]
    rw [e, rowsOf_run _ _ _ (fun y hy => okB_ne (lnT_row_ok hx y hy)), rowsOf, if_pos rfl, rowsOf_run ([32, 32, 33, 32] ++ cm) _ _ (by
      intro y hy
      rcases List.mem_append.1 hy with hy | hy
      · simp at hy; rcases hy with rfl | rfl | rfl <;> decide
      · exact okB_ne (hcm y hy).1), rowsOf, if_pos rfl, rowsOf, if_pos rfl]
    simp only [List.nil_append, linesOf]
    obtain ⟨y, h1, h2⟩ := lnT_line hg hx n
    have h3 := rest_line cm hcm (n + 1)
    have h4 : lineOf (n + 1 + 1) [] = [] := by simp [lineOf, wds, endW]
    rw [h1, h3, h4]
    simp only [List.nil_append, List.singleton_append, List.map_cons, h2]
    rw [ih _ (fun z hz => h z (by simp [hz]))]
theorem lnT_ok {g : Nat} {cm : List UInt8} (hcm : ∀ x ∈ cm, okB x ∧ x ≠ 32) {x : Ln} (h : goodL x) : (∀ y ∈ lnT g cm x, y = 10 ∨ okB y) ∧ (lnT g cm x).count 10 = 3 := by
  have hr := lnT_row_ok (g := g) h
  have hz : ∀ l : List UInt8, (∀ y ∈ l, okB y) → l.count 10 = 0 := fun l hl => List.count_eq_zero.2 (fun hm => okB_ne (hl 10 hm) rfl)
  refine ⟨fun y hy => ?_, ?_⟩
  · rcases List.mem_append.1 hy with hy | hy
    · exact .inr (hr y hy)
    · rcases List.mem_append.1 hy with hy | hy
      · rcases List.mem_append.1 hy with hy | hy
        · simp at hy
          rcases hy with rfl | rfl | rfl | rfl <;> first | exact .inl rfl | exact .inr ⟨by decide, by decide⟩
        · exact .inr (hcm y hy).1
      · simp at hy; exact .inl hy
  · unfold lnT
    rw [List.count_append, hz _ hr, List.count_append, List.count_append, hz cm (fun y hy => (hcm y hy).1)]
    rfl
theorem agT_ok {g : Nat} {cm : List UInt8} (hcm : ∀ x ∈ cm, okB x ∧ x ≠ 32) : ∀ (ls : List Ln), (∀ x ∈ ls, goodL x) → (∀ y ∈ agT g cm ls, y = 10 ∨ okB y) ∧ (agT g cm ls).count 10 = 3 * ls.length := by
  intro ls
  induction ls with
  | nil => intro _; simp [agT]
  | cons x xs ih =>
    intro h
    obtain ⟨h1, h2⟩ := ih (fun z hz => h z (by simp [hz]))
    obtain ⟨h3, h4⟩ := lnT_ok (g := g) hcm (h x (by simp))
    have e : agT g cm (x :: xs) = lnT g cm x ++ agT g cm xs := by simp [agT]
    rw [e]
    refine ⟨fun y hy => (List.mem_append.1 hy).elim (h3 y) (h1 y), ?_⟩
    rw [List.count_append, h4, h2, List.length_cons]
    omega
theorem wds_mem : ∀ (r : List UInt8) (i : Int) (cur : List UInt8), ∀ w ∈ wds r i cur, w.t ≠ [] ∧ ∀ b ∈ w.t, b ∈ cur ∨ (b ∈ r ∧ b ≠ 32) := by
  intro r
  have hend : ∀ (i : Int) (cur : List UInt8), ∀ w ∈ endW i cur, w.t ≠ [] ∧ ∀ b ∈ w.t, b ∈ cur := by
    intro i cur w hw
    unfold endW at hw
    split at hw
    · cases hw
    · rename_i hc
      have : w = ⟨cur, i - cur.length + 1⟩ := by simpa using hw
      subst this
      exact ⟨hc, fun b hb => hb⟩
  induction r with
  | nil => intro i cur w hw; rw [wds] at hw; exact ⟨(hend i cur w hw).1, fun b hb => .inl ((hend i cur w hw).2 b hb)⟩
  | cons x xs ih =>
    intro i cur w hw
    rw [wds] at hw
    split at hw
    · rcases List.mem_append.1 hw with hw | hw
      · exact ⟨(hend i cur w hw).1, fun b hb => .inl ((hend i cur w hw).2 b hb)⟩
      · obtain ⟨h1, h2⟩ := ih _ _ w hw
        refine ⟨h1, fun b hb => ?_⟩
        rcases h2 b hb with h | h
        · cases h
        · exact .inr ⟨by simp [h.1], h.2⟩
    · rename_i hx
      obtain ⟨h1, h2⟩ := ih _ _ w hw
      refine ⟨h1, fun b hb => ?_⟩
      rcases h2 b hb with h | h
      · rcases List.mem_append.1 h with h | h
        · exact .inl h
        · have : b = x := by simpa using h
          exact .inr ⟨by simp [this], by rw [this]; exact hx⟩
      · exact .inr ⟨by simp [h.1], h.2⟩
theorem rowsOf_mem : ∀ (s cur : List UInt8), ∀ r ∈ rowsOf s cur, ∀ b ∈ r, b ∈ cur ∨ (b ∈ s ∧ b ≠ 10) := by
  intro s
  induction s with
  | nil => intro cur r hr b hb; have : r = cur := by simpa [rowsOf] using hr
           rw [this] at hb; exact .inl hb
  | cons x xs ih =>
    intro cur r hr b hb
    rw [rowsOf] at hr
    split at hr
    · rcases List.mem_cons.1 hr with rfl | hr
      · exact .inl hb
      · rcases ih _ r hr b hb with h | h
        · cases h
        · exact .inr ⟨by simp [h.1], h.2⟩
    · rename_i hx
      rcases ih _ r hr b hb with h | h
      · rcases List.mem_append.1 h with h | h
        · exact .inl h
        · have : b = x := by simpa using h
          exact .inr ⟨by simp [this], by rw [this]; exact hx⟩
      · exact .inr ⟨by simp [h.1], h.2⟩
theorem linesOf_good (s : List UInt8) (hs : ∀ x ∈ s, x = 10 ∨ okB x) : ∀ (rows : List (List UInt8)) (n : Int), (∀ r ∈ rows, r ∈ rowsOf s []) → ∀ x ∈ linesOf rows n, goodL x := by
  intro rows
  induction rows with
  | nil => intro n _ x hx; cases hx
  | cons r rs ih =>
    intro n h x hx
    rw [linesOf] at hx
    rcases List.mem_append.1 hx with hx | hx
    · unfold lineOf at hx
      have hw := wds_ok r [] [] 0 (by simp)
      simp only [List.nil_append, List.length_nil, Nat.add_zero, Int.natCast_zero] at hw
      have hm := wds_mem r 0 []
      cases hwd : wds r 0 [] with
      | nil => rw [hwd] at hx; cases hx
      | cons w ws =>
        rw [hwd] at hx hw hm
        simp only at hx
        split at hx
        · cases hx
        · rename_i hb
          have e : x = ⟨w.c - 1, n, w :: ws⟩ := by simpa using hx
          subst e
          refine ⟨?_, List.cons_ne_nil _ _, ?_, ?_⟩
          · have := hw.2.1
            show 0 ≤ w.c - 1
            omega
          · intro w' hw'
            obtain ⟨h1, h2⟩ := hm w' hw'
            refine ⟨h1, fun b hb => ?_⟩
            rcases h2 b hb with h3 | h3
            · cases h3
            · rcases rowsOf_mem s [] r (h r (by simp)) b h3.1 with h4 | h4
              · cases h4
              · exact ⟨(hs b h4.1).resolve_left h4.2, h3.2⟩
          · intro w' ws' he
            injection he with h1 h2
            rw [← h1]; exact hb
    · exact ih _ (fun r' hr' => h r' (by simp [hr'])) x hx
theorem linRes_good (s : List UInt8) : ∀ x ∈ (linRes s).1, goodL x := by
  unfold linRes
  split
  · rename_i h
    exact linesOf_good s (fun x hx => (chk_ok h x hx)) _ 1 (fun r hr => hr)
  · intro x hx; cases hx
/-- the lines of a text, put together and cut again -/
theorem again_lines (s : List UInt8) (g : Nat) (cm : List UInt8) (hg : 1 ≤ g) (hcm : ∀ x ∈ cm, okB x ∧ x ≠ 32) (hn : (linRes s).1.length ≤ 1000) :
    ((linRes (agT g cm (linRes s).1)).2.2.2 = 0 ∧ (linRes (agT g cm (linRes s).1)).1.map core = (linRes s).1.map core) ∨ (¬ (linRes (agT g cm (linRes s).1)).2.2.2 = 0 ∧ 65536 < (agT g cm (linRes s).1).length) := by
  have hgood := linRes_good s
  generalize (linRes s).1 = ls at *
  obtain ⟨h1, h2⟩ := agT_ok (g := g) hcm ls hgood
  by_cases hc : (chk (agT g cm ls)).2.2 = 0
  · left
    rw [linRes_ok hc]
    exact ⟨rfl, agT_lines hg hcm ls 1 hgood⟩
  · right
    rw [linRes_no hc]
    exact ⟨hc, chk_bad h1 (by omega) hc⟩
end Go.Proofs.Ytihmmmodimionaa.Lx
/- Plain words on tokens that are put together again: cut once more they are the same. No program is in sight. -/
namespace Go.Proofs.Ytihmmmodimionaa.Lx
open Go

/-- kinds and texts of the tokens of what is left of a text; none: it is refused -/
def kts : Nat → List UInt8 → Option (List (Int × List UInt8))
  | 0, _ => some []
  | _ + 1, [] => some []
  | f + 1, x :: xs =>
    if (step (x :: xs)).err then none
    else (kts f ((x :: xs).drop (step (x :: xs)).n)).map (fun r => (if (step (x :: xs)).is then [((step (x :: xs)).k, (step (x :: xs)).t)] else []) ++ r)
def kt (t : Tok) : Int × List UInt8 := (t.k, t.t)
theorem kts_toks : ∀ (f : Nat) (s : List UInt8) (l c : Int), (match toks f s l c with | .error _ => none | .ok ts => some (ts.map kt)) = kts f s := by
  intro f
  induction f with
  | zero => intro s l c; rfl
  | succ f ih =>
    intro s l c
    cases s with
    | nil => rfl
    | cons x xs =>
      rw [kts, toks]
      cases he : (step (x :: xs)).err
      · simp only [Bool.false_eq_true, if_false]
        rw [← ih _ (adv ((x :: xs).take (step (x :: xs)).n) l c).1 (adv ((x :: xs).take (step (x :: xs)).n) l c).2]
        cases toks f ((x :: xs).drop (step (x :: xs)).n) (adv ((x :: xs).take (step (x :: xs)).n) l c).1 (adv ((x :: xs).take (step (x :: xs)).n) l c).2 with
        | error e => rfl
        | ok ts =>
          simp only [appT, Option.map_some, List.map_append]
          cases (step (x :: xs)).is <;> rfl
      · rfl
theorem step_pos (s : List UInt8) (h : s ≠ []) (he : (step s).err = false) : 1 ≤ (step s).n := by
  cases hi : (step s).is
  · obtain ⟨x, xs, rfl⟩ := List.exists_cons_of_ne_nil h
    have hs : step (x :: xs) = step (x :: xs) := rfl
    conv at hs => rhs; unfold step; rw [show (x :: xs).headD 0 = x from rfl]
    by_cases h1 : x = 32 ∨ x = 10
    · rw [if_pos h1] at hs; rw [hs]; exact Nat.le_refl _
    rw [if_neg h1] at hs
    by_cases h2 : x = 35
    · rw [if_pos h2] at hs; rw [hs]
      show 1 ≤ firstN is10 (x :: xs)
      rw [firstN, if_neg (by simp [is10, h2])]; omega
    rw [if_neg h2] at hs
    by_cases h3 : Lib.hasPrefix (x :: xs) [47, 42] = true
    · rw [if_pos h3] at hs
      split at hs
      · rw [hs] at he; cases he
      · rw [hs]; show 1 ≤ _ + 4; omega
    rw [if_neg h3] at hs
    by_cases h4 : x = 34
    · rw [if_pos h4] at hs
      split at hs
      · rw [hs] at he; cases he
      · rw [hs] at hi; cases hi
    rw [if_neg h4] at hs
    split at hs <;> (rw [hs] at hi; cases hi)
  · exact (step_place [] s h he hi).2
theorem kts_fuel : ∀ (f : Nat) (s : List UInt8), s.length ≤ f → kts (f + 1) s = kts f s := by
  intro f
  induction f with
  | zero => intro s hs; have : s = [] := List.eq_nil_of_length_eq_zero (by omega)
            rw [this]; rfl
  | succ f ih =>
    intro s hs
    cases s with
    | nil => rfl
    | cons x xs =>
      rw [kts, kts]
      cases he : (step (x :: xs)).err
      · have := step_pos (x :: xs) (by simp) he
        rw [ih _ (by rw [List.length_drop]; simp at hs ⊢; omega)]
      · rfl
theorem kts_enough : ∀ (d : Nat) (s : List UInt8), kts (s.length + d) s = kts s.length s := by
  intro d
  induction d with
  | zero => intro s; rfl
  | succ d ih => intro s; rw [← Nat.add_assoc, kts_fuel _ _ (by omega), ih]
def K (s : List UInt8) : Option (List (Int × List UInt8)) := kts s.length s
theorem K_step (s : List UInt8) (h : s ≠ []) (he : (step s).err = false) : K s = (K (s.drop (step s).n)).map (fun r => (if (step s).is then [((step s).k, (step s).t)] else []) ++ r) := by
  have hp := step_pos s h he
  obtain ⟨x, xs, rfl⟩ := List.exists_cons_of_ne_nil h
  unfold K
  rw [List.length_cons, kts, he]
  simp only [Bool.false_eq_true, if_false]
  congr 1
  have hl : ((x :: xs).drop (step (x :: xs)).n).length ≤ xs.length := by rw [List.length_drop, List.length_cons]; omega
  have := kts_enough (xs.length - ((x :: xs).drop (step (x :: xs)).n).length) ((x :: xs).drop (step (x :: xs)).n)
  rw [show ((x :: xs).drop (step (x :: xs)).n).length + (xs.length - ((x :: xs).drop (step (x :: xs)).n).length) = xs.length by omega] at this
  exact this
theorem K_skip {s r : List UInt8} (h : s ≠ []) (he : step s = ⟨false, false, 1, [], s.length - r.length⟩) (hr : r = s.drop (s.length - r.length)) : K s = K r := by
  rw [K_step s h (by rw [he]), he]
  simp only [Bool.false_eq_true, if_false, List.nil_append]
  rw [← hr]
  cases K r <;> rfl
theorem K_blank (x : UInt8) (hx : x = 32 ∨ x = 10) (r : List UInt8) : K (x :: r) = K r := by
  refine K_skip (by simp) ?_ (by simp)
  unfold step
  rw [show (x :: r).headD 0 = x from rfl, if_pos hx]
  simp
theorem K_blk : ∀ (n : Nat) (r : List UInt8), K (blk n ++ r) = K r := by
  intro n
  induction n with
  | zero => intro r; rfl
  | succ n ih =>
    intro r
    rw [blk, List.replicate_succ, List.cons_append, K_blank 32 (.inl rfl)]
    exact ih r
theorem firstN_run : ∀ (a r : List UInt8), (∀ x ∈ a, x ≠ 10) → firstN is10 (a ++ 10 :: r) = a.length := by
  intro a
  induction a with
  | nil => intro r _; rw [List.nil_append, firstN, if_pos (by simp [is10])]; rfl
  | cons x xs ih =>
    intro r h
    rw [List.cons_append, firstN, if_neg (by simpa [is10] using h x (by simp)), ih r (fun y hy => h y (by simp [hy]))]
    rfl
theorem K_hash (a r : List UInt8) (h : ∀ x ∈ a, x ≠ 10) : K (35 :: (a ++ 10 :: r)) = K r := by
  have e : K (35 :: (a ++ 10 :: r)) = K (10 :: r) := by
    have hf := firstN_run (35 :: a) r (by intro x hx; rcases List.mem_cons.1 hx with rfl | hx; exact (by decide); exact h x hx)
    have hl : (35 :: (a ++ 10 :: r)).length - (10 :: r).length = (35 :: a).length := by simp; omega
    refine K_skip (by simp) ?_ ?_
    · rw [hl]
      unfold step
      rw [show (35 :: (a ++ 10 :: r)).headD 0 = 35 from rfl, if_neg (by decide), if_pos rfl]
      rw [List.cons_append] at hf
      rw [hf]
    · rw [hl]
      exact (List.drop_left' (l₁ := 35 :: a) (l₂ := 10 :: r) rfl).symm
  rw [e]
  exact K_blank 10 (.inr rfl) r
theorem index_run : ∀ (a r : List UInt8), (∀ x ∈ a, x ≠ 42) → Lib.index (a ++ 42 :: 47 :: r) [42, 47] = a.length := by
  intro a
  induction a with
  | nil => intro r _; rw [List.nil_append, Lib.index, if_pos (by simp [List.isPrefixOf])]; rfl
  | cons x xs ih =>
    intro r h
    have hx := h x (by simp)
    rw [List.cons_append, Lib.index, if_neg (by simp [List.isPrefixOf]; intro e; exact absurd e.symm hx), ih r (fun y hy => h y (by simp [hy]))]
    rw [if_neg (by simp <;> omega)]
    simp
theorem K_comment (a r : List UInt8) (h : ∀ x ∈ a, x ≠ 42) : K (47 :: 42 :: (a ++ 42 :: 47 :: r)) = K r := by
  have hi := index_run a r h
  have hl : (47 :: 42 :: (a ++ 42 :: 47 :: r)).length - r.length = a.length + 4 := by simp; omega
  refine K_skip (by simp) ?_ ?_
  · rw [hl]
    unfold step
    rw [show (47 :: 42 :: (a ++ 42 :: 47 :: r)).headD 0 = 47 from rfl, if_neg (by decide), if_neg (by decide), if_pos (by simp [Lib.hasPrefix, List.isPrefixOf])]
    have e : (47 :: 42 :: (a ++ 42 :: 47 :: r)).drop 2 = a ++ 42 :: 47 :: r := rfl
    rw [e, hi, if_neg (by omega)]
    simp
  · rw [hl]
    have e : 47 :: 42 :: (a ++ 42 :: 47 :: r) = (47 :: 42 :: (a ++ [42, 47])) ++ r := by simp
    rw [e]
    exact (List.drop_left' (by simp)).symm

/-- a token that may be written -/
def goodT (t : Tok) : Prop := (t.k = 1 ∧ ∀ x ∈ t.t, okB x ∧ x ≠ 34) ∨ (t.k ≠ 1 ∧ ∃ x, t.t = [x] ∧ 0 ≤ Lib.indexByte signs x ∧ t.k = 2 + Lib.indexByte signs x)
def wrT (t : Tok) : List UInt8 := if t.k = 1 then 34 :: (t.t ++ [34]) else t.t
def tkT (g : Nat) (cm : List UInt8) (t : Tok) : List UInt8 := wrT t ++ blk g ++ (47 :: 42 :: cm) ++ ([42, 47, 32, 35, 32] ++ cm ++ [10])
def anT (g : Nat) (cm : List UInt8) (ts : List Tok) : List UInt8 := ts.flatMap (tkT g cm)
theorem indexAny_run : ∀ (a r : List UInt8), (∀ x ∈ a, x ≠ 34 ∧ x ≠ 10) → Lib.indexAny (a ++ 34 :: r) [34, 10] = a.length := by
  intro a
  induction a with
  | nil => intro r _; rw [List.nil_append, Lib.indexAny, if_pos (by decide)]; rfl
  | cons x xs ih =>
    intro r h
    have hx := h x (by simp)
    rw [List.cons_append, Lib.indexAny, if_neg (by simp; exact hx), ih r (fun y hy => h y (by simp [hy]))]
    rw [if_neg (by simp <;> omega)]
    simp
theorem sign_in {x : UInt8} (h : 0 ≤ Lib.indexByte signs x) : x ∈ signs := by
  by_cases hx : x ∈ signs
  · exact hx
  · exfalso
    have : signs.contains x = false := by simpa using hx
    rw [Lib.contains_iff_indexByte] at this
    simp at this
    omega
theorem K_tok (t : Tok) (h : goodT t) (r : List UInt8) : K (wrT t ++ r) = (K r).map (fun q => kt t :: q) := by
  rcases h with ⟨hk, hb⟩ | ⟨hk, x, ht, hx, hkx⟩
  · have e : wrT t ++ r = 34 :: (t.t ++ 34 :: r) := by unfold wrT; rw [if_pos hk]; simp
    rw [e]
    have hi := indexAny_run t.t r (fun x hx => ⟨(hb x hx).2, okB_ne (hb x hx).1⟩)
    have hst : step (34 :: (t.t ++ 34 :: r)) = ⟨false, true, 1, t.t, t.t.length + 2⟩ := by
      unfold step
      rw [show (34 :: (t.t ++ 34 :: r)).headD 0 = 34 from rfl, if_neg (by decide), if_neg (by decide), if_neg (by simp [Lib.hasPrefix, List.isPrefixOf]), if_pos rfl]
      have e2 : (34 :: (t.t ++ 34 :: r)).drop 1 = t.t ++ 34 :: r := rfl
      rw [e2, hi, if_neg (by
        rintro (h | h)
        · omega
        · rw [Int.toNat_natCast, List.getD_eq_getElem?_getD, List.getElem?_cons_succ, List.getElem?_append_right (Nat.le_refl _)] at h
          simp at h)]
      simp
    rw [K_step _ (by simp) (by rw [hst]), hst]
    have e3 : (34 :: (t.t ++ 34 :: r)).drop (t.t.length + 2) = r := by
      have e4 : 34 :: (t.t ++ 34 :: r) = (34 :: (t.t ++ [34])) ++ r := by simp
      rw [e4]
      exact List.drop_left' (by simp)
    simp only [e3, if_true, List.singleton_append]
    unfold kt
    rw [hk]
  · have e : wrT t ++ r = x :: r := by unfold wrT; rw [if_neg hk, ht]; rfl
    rw [e]
    have hm := sign_in hx
    have hst : step (x :: r) = ⟨false, true, 2 + Lib.indexByte signs x, [x], 1⟩ := by
      unfold step
      have h1 : ¬ (x = 32 ∨ x = 10) ∧ ¬ x = 35 ∧ ¬ x = 34 ∧ ¬ (47 = x) := by
        simp [signs] at hm
        rcases hm with rfl | rfl | rfl | rfl | rfl <;> decide
      rw [show (x :: r).headD 0 = x from rfl, if_neg h1.1, if_neg h1.2.1, if_neg (by simp [Lib.hasPrefix, List.isPrefixOf]; intro h; exact absurd h h1.2.2.2), if_neg h1.2.2.1, if_pos hx]
      rfl
    rw [K_step _ (by simp) (by rw [hst]), hst]
    simp only [if_true, List.singleton_append, List.drop_succ_cons, List.drop_zero]
    unfold kt
    rw [hkx, ht]
theorem K_anT (g : Nat) (cm : List UInt8) (hcm : ∀ x ∈ cm, okB x ∧ x ≠ 32 ∧ x ≠ 42) : ∀ ts : List Tok, (∀ t ∈ ts, goodT t) → K (anT g cm ts) = some (ts.map kt) := by
  intro ts
  induction ts with
  | nil => intro _; rfl
  | cons t ts ih =>
    intro h
    have e : anT g cm (t :: ts) = wrT t ++ (blk g ++ (47 :: 42 :: (cm ++ 42 :: 47 :: 32 :: 35 :: ((32 :: cm) ++ 10 :: anT g cm ts)))) := by simp [anT, tkT]
    rw [e, K_tok t (h t (by simp)), K_blk, K_comment cm _ (fun x hx => (hcm x hx).2.2), K_blank 32 (.inl rfl), K_hash (32 :: cm) _ (by
      intro x hx
      rcases List.mem_cons.1 hx with rfl | hx
      · decide
      · exact okB_ne (hcm x hx).1), ih (fun z hz => h z (by simp [hz]))]
    rfl
theorem wrT_ok {t : Tok} (h : goodT t) : ∀ x ∈ wrT t, okB x := by
  intro x hx
  rcases h with ⟨hk, hb⟩ | ⟨hk, y, ht, hy, _⟩
  · unfold wrT at hx
    rw [if_pos hk] at hx
    simp at hx
    rcases hx with rfl | hx | rfl
    · exact ⟨by decide, by decide⟩
    · exact (hb x hx).1
    · exact ⟨by decide, by decide⟩
  · unfold wrT at hx
    rw [if_neg hk, ht] at hx
    have hm := sign_in hy
    have : x = y := by simpa using hx
    subst this
    simp [signs] at hm
    rcases hm with rfl | rfl | rfl | rfl | rfl <;> exact ⟨by decide, by decide⟩
theorem anT_ok (g : Nat) (cm : List UInt8) (hcm : ∀ x ∈ cm, okB x ∧ x ≠ 32 ∧ x ≠ 42) : ∀ ts : List Tok, (∀ t ∈ ts, goodT t) → (∀ y ∈ anT g cm ts, y = 10 ∨ okB y) ∧ (anT g cm ts).count 10 = ts.length := by
  intro ts
  induction ts with
  | nil => intro _; simp [anT]
  | cons t ts ih =>
    intro h
    obtain ⟨h1, h2⟩ := ih (fun z hz => h z (by simp [hz]))
    have e : anT g cm (t :: ts) = (wrT t ++ blk g ++ (47 :: 42 :: cm) ++ ([42, 47, 32, 35, 32] ++ cm)) ++ (10 :: anT g cm ts) := by simp [anT, tkT]
    have hz : ∀ l : List UInt8, (∀ y ∈ l, okB y) → l.count 10 = 0 := fun l hl => List.count_eq_zero.2 (fun hm => okB_ne (hl 10 hm) rfl)
    have ha : ∀ y ∈ wrT t ++ blk g ++ (47 :: 42 :: cm) ++ ([42, 47, 32, 35, 32] ++ cm), okB y := by
      intro y hy
      rcases List.mem_append.1 hy with hy | hy
      · rcases List.mem_append.1 hy with hy | hy
        · rcases List.mem_append.1 hy with hy | hy
          · exact wrT_ok (h t (by simp)) y hy
          · exact blk_ok _ y hy
        · simp at hy
          rcases hy with rfl | rfl | hy
          · exact ⟨by decide, by decide⟩
          · exact ⟨by decide, by decide⟩
          · exact (hcm y hy).1
      · rcases List.mem_append.1 hy with hy | hy
        · simp at hy
          rcases hy with rfl | rfl | rfl | rfl | rfl <;> exact ⟨by decide, by decide⟩
        · exact (hcm y hy).1
    rw [e]
    refine ⟨fun y hy => ?_, ?_⟩
    · rcases List.mem_append.1 hy with hy | hy
      · exact .inr (ha y hy)
      · rcases List.mem_cons.1 hy with rfl | hy
        · exact .inl rfl
        · exact h1 y hy
    · rw [List.count_append, hz _ ha, List.count_cons, h2]
      simp
/-- what a step takes for a token may be written -/
theorem step_good (s : List UInt8) (hs : ∀ x ∈ s, x = 10 ∨ okB x) (h : s ≠ []) (he : (step s).err = false) (hi : (step s).is = true) (l c : Int) : goodT ⟨(step s).k, (step s).t, l, c⟩ := by
  obtain ⟨x, xs, rfl⟩ := List.exists_cons_of_ne_nil h
  have hst : step (x :: xs) = step (x :: xs) := rfl
  conv at hst => rhs; unfold step; rw [show (x :: xs).headD 0 = x from rfl]
  by_cases h1 : x = 32 ∨ x = 10
  · rw [if_pos h1] at hst; rw [hst] at hi; cases hi
  rw [if_neg h1] at hst
  by_cases h2 : x = 35
  · rw [if_pos h2] at hst; rw [hst] at hi; cases hi
  rw [if_neg h2] at hst
  by_cases h3 : Lib.hasPrefix (x :: xs) [47, 42] = true
  · rw [if_pos h3] at hst
    split at hst <;> (rw [hst] at hi; cases hi)
  rw [if_neg h3] at hst
  by_cases h4 : x = 34
  · rw [if_pos h4] at hst
    by_cases h5 : Lib.indexAny ((x :: xs).drop 1) [34, 10] < 0 ∨ (x :: xs).getD ((Lib.indexAny ((x :: xs).drop 1) [34, 10]).toNat + 1) 0 = 10
    · rw [if_pos h5] at hst; rw [hst] at he; cases he
    · rw [if_neg h5] at hst
      rw [hst]
      refine .inl ⟨rfl, fun y hy => ?_⟩
      have h6 : 0 ≤ Lib.indexAny xs [34, 10] := by
        have : ¬ Lib.indexAny xs [34, 10] < 0 := fun h => h5 (.inl h)
        omega
      have h7 := indexAny_before xs [34, 10] h6 y hy
      have h8 := hs y (List.mem_cons_of_mem _ (List.mem_of_mem_take (show y ∈ xs.take _ from hy)))
      simp at h7
      exact ⟨h8.resolve_left h7.2, h7.1⟩
  rw [if_neg h4] at hst
  by_cases h5 : (0 : Int) ≤ Lib.indexByte signs x
  · rw [if_pos h5] at hst
    rw [hst]
    exact .inr ⟨by show 2 + Lib.indexByte signs x ≠ 1; omega, x, rfl, h5, rfl⟩
  · rw [if_neg h5] at hst
    rw [hst]
    refine .inl ⟨rfl, fun y hy => ?_⟩
    have hy' : y ∈ (x :: xs).take (firstN isEnd (x :: xs)) := hy
    obtain ⟨k, hk, hky⟩ := List.getElem_of_mem hy'
    rw [List.length_take] at hk
    have hk1 : k < firstN isEnd (x :: xs) := by omega
    have hb := firstN_before isEnd (x :: xs) k hk1
    rw [List.getElem_take] at hky
    rw [List.drop_eq_getElem_cons (by omega), hky] at hb
    have h8 := hs y (List.mem_of_mem_take hy')
    refine ⟨h8.resolve_left ?_, ?_⟩
    · rintro rfl; simp [isEnd, endB, Lib.indexByte] at hb
    · rintro rfl; simp [isEnd, endB, Lib.indexByte] at hb
theorem toks_good : ∀ (f : Nat) (s : List UInt8) (l c : Int) (ts : List Tok), (∀ x ∈ s, x = 10 ∨ okB x) → toks f s l c = .ok ts → ∀ t ∈ ts, goodT t := by
  intro f
  induction f with
  | zero => intro s l c ts _ h; rw [toks] at h; injection h with h; subst h; intro t ht; cases ht
  | succ f ih =>
    intro s l c ts hs h
    by_cases hn : s = []
    · rw [hn, toks_nil] at h; injection h with h; subst h; intro t ht; cases ht
    rw [toks_step _ _ _ _ hn] at h
    cases he : (step s).err
    case true => rw [he] at h; simp at h
    rw [he] at h
    simp only [Bool.false_eq_true, if_false] at h
    cases hrest : toks f (s.drop (step s).n) (adv (s.take (step s).n) l c).1 (adv (s.take (step s).n) l c).2 with
    | error z => rw [hrest] at h; simp [appT] at h
    | ok ts' =>
      rw [hrest] at h
      simp only [appT, Except.ok.injEq] at h
      have hi := ih _ _ _ _ (fun x hx => hs x (List.mem_of_mem_drop hx)) hrest
      subst h
      intro t ht
      rcases List.mem_append.1 ht with ht | ht
      · split at ht
        · rename_i his
          have : t = ⟨(step s).k, (step s).t, l, c⟩ := by simpa using ht
          rw [this]
          exact step_good s hs hn he his l c
        · cases ht
      · exact hi t ht
theorem tokRes_good (s : List UInt8) : ∀ t ∈ (tokRes s).1, goodT t := by
  unfold tokRes
  split
  · rename_i h
    cases ht : toks s.length s 1 1 with
    | error e => intro t h; cases h
    | ok ts => exact toks_good _ _ _ _ _ (fun x hx => chk_ok h x hx) ht
  · intro t h; cases h
/-- the tokens of a text, put together and cut again -/
theorem again_toks (s : List UInt8) (g : Nat) (cm : List UInt8) (hcm : ∀ x ∈ cm, okB x ∧ x ≠ 32 ∧ x ≠ 42) (hn : (tokRes s).1.length ≤ 1000) :
    ((tokRes (anT g cm (tokRes s).1)).2.2.2 = 0 ∧ (tokRes (anT g cm (tokRes s).1)).1.map kt = (tokRes s).1.map kt) ∨ (¬ (tokRes (anT g cm (tokRes s).1)).2.2.2 = 0 ∧ 65536 < (anT g cm (tokRes s).1).length) := by
  have hgood := tokRes_good s
  generalize (tokRes s).1 = ts at *
  obtain ⟨h1, h2⟩ := anT_ok g cm hcm ts hgood
  by_cases hc : (chk (anT g cm ts)).2.2 = 0
  · left
    have hk := K_anT g cm hcm ts hgood
    unfold K at hk
    rw [← kts_toks _ _ 1 1] at hk
    cases ht : toks (anT g cm ts).length (anT g cm ts) 1 1 with
    | error e => rw [ht] at hk; simp at hk
    | ok ts' =>
      rw [ht] at hk
      rw [tokRes_ok hc ht]
      exact ⟨rfl, by simpa using hk⟩
  · right
    rw [tokRes_no hc]
    exact ⟨hc, chk_bad h1 (by omega) hc⟩
end Go.Proofs.Ytihmmmodimionaa.Lx
/- Small words for walks: regions that draw their order over the class of worlds 'Below'. -/
namespace Go.Proofs.Ytihmmmodimionaa
open Go.RowKit

theorem hide {p : Prop} (h : p) : Hid p := h
theorem ret_int {k : IntKind} {a b : Int} (h : a = b) : Ending.returned (.int k a) = .returned (.int k b) := by rw [h]
theorem ret_bool {a b : Bool} (h : a = b) : Ending.returned (.bool a) = .returned (.bool b) := by rw [h]


/-- Every world that is 'Below w', and no other, is 'lat w x' for some x. -/
noncomputable def lat (w x : World) : World := by classical exact if Below w.heap.size w x then x else w
theorem lat_below (w x : World) : Below w.heap.size w (lat w x) := by
  unfold lat
  split
  · assumption
  · exact Below.refl _ _
theorem lat_of {w x : World} (h : Below w.heap.size w x) : x = lat w x := by
  unfold lat
  rw [if_pos h]
theorem below_wide {w w1 w2 : World} (h : Below w.heap.size w w1) (h2 : Below w1.heap.size w1 w2) : Below w.heap.size w w2 := h.trans (h2.mono h.size)
theorem lat_cell {w : World} {a : Addr} {v : Value} (h : w.cell? a = some v) (x : World) : (lat w x).cell? a = some v := by
  have hb := lat_below w x
  have hlt : a.block < w.heap.size := by
    rcases Nat.lt_or_ge a.block w.heap.size with h1 | h1
    · exact h1
    · exfalso
      unfold World.cell? at h
      split at h <;> simp_all
  rw [hb.cell hlt]; exact h

theorem bne_t {a b : Int} (h : (a != b) = true) : ¬ a = b := by simpa using h
theorem bne_f {a b : Int} (h : (a != b) = false) : a = b := by simpa using h
theorem beq_t {a b : Int} (h : (a == b) = true) : a = b := by simpa using h
theorem beq_f {a b : Int} (h : (a == b) = false) : ¬ a = b := by simpa using h

theorem lt_of_cell {w : World} {a : Addr} {v : Value} (h : w.cell? a = some v) : a.block < w.heap.size := by
  rcases Nat.lt_or_ge a.block w.heap.size with h1 | h1
  · exact h1
  · exfalso
    unfold World.cell? at h
    split at h <;> simp_all
theorem cellB {W w1 : World} {a : Addr} {v : Value} (hb : Below W.heap.size W w1) (h : W.cell? a = some v) : w1.cell? a = some v := by
  rw [hb.cell (lt_of_cell h)]; exact h

theorem wp_region_lat {P : Program} {id : Nat} {Q : Exit → Act → World → Prop} {a : Act} {w : World} {l : List Oper} (hm : P.follows .mixedOrders = true) (hB : Region.lexB .any l.toArray = true)
    (h : wpQuiet P l.toArray (fun w' => ∃ x, w' = lat w x) (fun a' => ∀ w', (∃ x, w' = lat w x) → Q .normal a' w') l a) : (Code.region id l.toArray true).wp P Q a w :=
  wp_region_quiet (C := fun w' => ∃ x, w' = lat w x) hm hB ⟨_, lat_of ((Below.refl _ w).drew)⟩ (by simpa using h)

theorem calls_lat {P : Program} {f : FuncId} {args : Array Value} {w x : World} {v : Value}
    (h : Calls P f args (lat w x) fun e w' => e = .returned v ∧ Below (lat w x).heap.size (lat w x) w') : Calls P f args (lat w x) fun e w'' => e = .returned v ∧ ∃ y, w'' = lat w y :=
  h.mono fun _ _ ⟨he, hb⟩ => ⟨he, _, lat_of (below_wide (lat_below w x) hb)⟩
theorem calls_lat_same {P : Program} {f : FuncId} {args : Array Value} {w x : World} {v : Value}
    (h : Calls P f args (lat w x) fun e w' => e = .returned v ∧ lat w x = w') : Calls P f args (lat w x) fun e w'' => e = .returned v ∧ ∃ y, w'' = lat w y :=
  h.mono fun _ _ ⟨he, hb⟩ => ⟨he, x, hb.symm⟩
/-- A slice (nil let in) that reads as the cells xs. -/
def Src (w : World) (A : Option Addr) (m c size : Nat) (xs : List Value) : Prop :=
  xs.length = m * size ∧ ((A = none ∧ m = 0 ∧ c = 0) ∨ ∃ ad, A = some ad ∧ ∀ j u, xs[j]? = some u → w.cell? (ad.add j) = some u)
theorem Src.below {w w' : World} {A : Option Addr} {m c size : Nat} {xs : List Value} (h : Src w A m c size xs) (hb : Below w.heap.size w w') : Src w' A m c size xs := by
  obtain ⟨h1, h2 | ⟨ad, h2, h3⟩⟩ := h
  · exact ⟨h1, .inl h2⟩
  · exact ⟨h1, .inr ⟨ad, h2, fun j u hu => cellB hb (h3 j u hu)⟩⟩
theorem app_src {P : Program} {w : World} {ops : Array Oper} {rest : List Oper} {o : Oper} {a : Act} {Q : Exit → Act → World → Prop} (hgd : o.guard = none) (s x : Operand) (t : TypeId)
    (ho : o.op = .call { callee := .builtin .append, args := #[s, x], argTypes := #[t, t] })
    (base : Nat) (e : TypeId) (i : TypeInfo) (z : Value) (size bytes : Nat) (ht : P.underlying t = some (.slice e)) (hi : P.info? e = some i) (hz : i.zero = some z)
    (hsize : i.size = size) (hby : i.bytes = bytes) (hzs : z.cells.size = size) (hsz : 0 < size)
    (v : Value) (n : Nat) (xs : List Value) (hs : a.eval s = v) (hown : w.ownsRow base e size v n xs)
    (A : Option Addr) (m c : Nat) (news : List Value) (hx : a.eval x = .slice A m c) (hsrc : Src w A m c size news) (h1 : ∀ u ∈ news, u.oneCell' = true)
    (h63 : n + m ≤ maxLen) (hbytes : (n + m) * bytes ≤ 140737488355328) (hbase : base ≤ w.heap.size)
    (h : ∀ v' w', w'.ownsRow base e size v' (n + m) (xs ++ news) → w.grownBy w' v.ownBlock → wpList P ops Q rest (a.put o.dst v') w') : wpList P ops Q (o :: rest) a w := by
  obtain ⟨hl, ⟨rfl, rfl, rfl⟩ | ⟨ad, rfl, hc⟩⟩ := hsrc
  · have hn : news = [] := List.eq_nil_of_length_eq_zero (by simpa using hl)
    subst hn
    exact wpList_append_own_none hgd s x t ho base e i size ht hi v n xs hs hown hx (h v w (by simpa using hown) (World.grownBy.refl w _))
  · exact wpList_append_own w hgd s x t ho base e i z size bytes ht hi hz hsize hby hzs hsz v n xs hs hown ad m c news hx hl hc h1 h63 hbytes hbase (fun v' w' h2 h3 _ => h v' w' h2 h3)
theorem lt_heap {w : World} {g : Nat} {o : Obj} (h : w.heap[g]? = some o) : g < w.heap.size := by
  rcases Nat.lt_or_ge g w.heap.size with h1 | h1
  · exact h1
  · rw [Array.getElem?_eq_none h1] at h; cases h
theorem heapB {W w1 : World} {g : Nat} {o : Obj} (hb : Below W.heap.size W w1) (h : W.heap[g]? = some o) : w1.heap[g]? = some o := (hb.block g (lt_heap h)).trans h
theorem cell_heap {w : World} {g j : Nat} {cur : Array Value} {t : TypeId} {u : Value} (h : w.heap[g]? = some (.cells cur t (0, 0))) (hj : cur[j]? = some u) : w.cell? ⟨g, j, none⟩ = some u := by
  simp [World.cell?, h, hj]
theorem frozen_heap {w : World} {g j : Nat} {cur : Array Value} {t : TypeId} (h : w.heap[g]? = some (.cells cur t (0, 0))) : w.frozen? ⟨g, j, none⟩ = false := by
  simp [World.frozen?, h]
theorem heap_far {w : World} {g : Nat} {o : Obj} {p : Addr} {u : Value} (h : w.heap[g]? = some o) (hp : g ≠ p.block) : (w.setCell p u).heap[g]? = some o := (Below.heap_setCell w p u g hp).trans h
theorem heap_set {w : World} {g j : Nat} {cur : Array Value} {t : TypeId} {u : Value} (h : w.heap[g]? = some (.cells cur t (0, 0))) : (w.setCell ⟨g, j, none⟩ u).heap[g]? = some (.cells (cur.setIfInBounds j u) t (0, 0)) := by
  simp [World.setCell, Array.getElem?_modify, h]
theorem heap_ne {w : World} {g g' : Nat} {cur cur' : Array Value} {t t' : TypeId} (h : w.heap[g]? = some (.cells cur t (0, 0))) (h' : w.heap[g']? = some (.cells cur' t' (0, 0))) (hne : t ≠ t') : g ≠ g' := by
  rintro rfl
  rw [h] at h'
  injection h' with h'
  injection h' with _ ht
  exact hne ht
theorem bel_one (w : World) (o : Obj) : Below w.heap.size w (w.alloc o) := (Below.refl _ _).alloc (Nat.le_refl _) _
theorem bel_two (w : World) (o o2 : Obj) : Below w.heap.size w ((w.alloc o).alloc o2) := ((Below.refl _ _).alloc (Nat.le_refl _) _).alloc (by simp) _
theorem heap_new (w : World) (o : Obj) : (w.alloc o).heap[w.heap.size]? = some o := heap_alloc_new w o
theorem heap_old {w : World} {g : Nat} {o p : Obj} (h : w.heap[g]? = some o) : (w.alloc p).heap[g]? = some o := (Below.heap_alloc w p g (lt_heap h)).trans h
/-- only row R, and what is new, has turned -/
abbrev Only (R : Nat) (w w' : World) : Prop := w.grownBy w' (some R)
theorem only_refl (R : Nat) (w : World) : Only R w w := World.grownBy.refl w _
theorem only_set {R : Nat} {a w : World} (h : Only R a w) (j : Nat) (u : Value) : Only R a (w.setCell ⟨R, j, none⟩ u) :=
  ⟨h.os, h.tape, h.output, by simpa [World.setCell] using h.size, fun i hi hne => (Below.heap_setCell w ⟨R, j, none⟩ u i (by rintro rfl; exact hne rfl)).trans (h.block i hi hne)⟩
theorem only_heap {R g : Nat} {w w' : World} {o : Obj} (h : Only R w w') (hg : w.heap[g]? = some o) (hne : g ≠ R) : w'.heap[g]? = some o :=
  (h.block g (lt_heap hg) (fun e => hne (by injection e))).trans hg
theorem only_below {R B : Nat} {w w' : World} (h : Only R w w') (hB : B ≤ R) (hs : B ≤ w.heap.size) : Below B w w' :=
  ⟨h.os, h.tape, h.output, h.size, fun k hk => h.block k (by omega) (fun e => by injection e with e; omega)⟩
theorem calls_flip {P : Program} {f : FuncId} {args : Array Value} {w : World} {v : Value} (h : Calls P f args w fun e w' => e = .returned v ∧ w = w') : Calls P f args w fun e w' => e = .returned v ∧ w' = w := h.mono fun _ _ hh => ⟨hh.1, hh.2.symm⟩
end Go.Proofs.Ytihmmmodimionaa
namespace Go.Proofs.Ytihmmmodimionaa.Lx
open Go.RowKit

def T (b : ByteArray) : List UInt8 := b.data.toList
theorem T_len (b : ByteArray) : (T b).length = b.size := by unfold T; exact Array.length_toList
theorem T_get (b : ByteArray) (k : Nat) (h : k < b.size) : (T b)[k]? = some b[k] := by
  unfold T
  rw [Array.getElem?_toList]
  exact Array.getElem?_eq_getElem h
theorem T_drop (b : ByteArray) (k : Nat) (h : k < b.size) : (T b).drop k = b[k] :: (T b).drop (k + 1) := by
  have hl : k < (T b).length := by rw [T_len]; exact h
  rw [List.drop_eq_getElem_cons hl]
  have := T_get b k h
  rw [List.getElem?_eq_getElem hl] at this
  injection this with this
  rw [this]
theorem T_take (b : ByteArray) (k : Nat) (h : k < b.size) : (T b).take (k + 1) = (T b).take k ++ [b[k]] := by
  have hl : k < (T b).length := by rw [T_len]; exact h
  rw [List.take_add_one, T_get b k h]
  rfl
theorem T_extract (b : ByteArray) (i j : Nat) : T (b.extract i j) = ((T b).take j).drop i := by
  unfold T
  rw [ByteArray.data_extract, Array.toList_extract]
  exact List.extract_eq_drop_take'
theorem T_head (b : ByteArray) (n : Nat) : T (b.extract 0 n) = (T b).take n := by rw [T_extract, List.drop_zero]
theorem T_tail (b : ByteArray) (n : Nat) : T (b.extract n b.size) = (T b).drop n := by rw [T_extract, List.take_of_length_le (by rw [T_len]; exact Nat.le_refl _)]
theorem size_T (b : ByteArray) : b.size = (T b).length := (T_len b).symm
theorem u8_eq (x : UInt8) (n : Nat) (h : n < 256) : x = UInt8.ofNat n ↔ x.toNat = n := by
  constructor
  · intro e; rw [e]; simp; omega
  · intro e; rw [← e]; simp
theorem eq10 (x : UInt8) : x = 10 ↔ x.toNat = 10 := u8_eq x 10 (by omega)
theorem beq_it {x n : Int} (h : x = n) : (x == n) = true := by simp [h]
theorem beq_if {x n : Int} (h : ¬ x = n) : (x == n) = false := by simp [h]
theorem heap_new2 (w : World) (o p : Obj) : ((w.alloc o).alloc p).heap[w.heap.size + 1]? = some p := by
  have h := heap_new (w.alloc o) p
  rwa [World.size_alloc] at h
end Go.Proofs.Ytihmmmodimionaa.Lx
namespace Go.Proofs.Ytihmmmodimionaa.Lx
open Go.RowKit

abbrev Pos (l c : Int) : Obj := Obj.cells #[.int .i64 l, .int .i64 c] 24
abbrev PosR (w : World) (g : Nat) (l c : Int) : Prop := w.heap[g]? = some (.cells #[.int .i64 l, .int .i64 c] 24 (0, 0))

set_option maxHeartbeats 1000000 in
theorem check_any (s : ByteArray) (w : World) (hs : s.size ≤ maxLen) :
    Calls Try.prog 28 #[.string s] w fun e w' => e = .returned (.tuple #[.agg #[.int .i64 (chk (T s)).1, .int .i64 (chk (T s)).2.1], .int .i64 (chk (T s)).2.2]) ∧ Below w.heap.size w w' := by
  unfold maxLen at hs
  by_cases h1 : 65536 < s.size
  · have HC : Hid (chk (T s) = (0, 0, 3)) := by show _ = _; unfold chk; rw [T_len, if_pos h1]
    go_enter Try.func28, Try.ntmps28
    go_wp2
    go_returns
    exact ⟨by rw [HC.out], by go_grown⟩
  · have HC : Hid (chk (T s) = chkL (T s) 1 1) := by show _ = _; unfold chk; rw [T_len, if_neg h1]
    go_enter Try.func28, Try.ntmps28
    go_wp2
    go_loopw [13] (fun j wr => ∃ (k : Nat) (l c : Int), k ≤ s.size ∧ j = .int .i64 k ∧ 1 ≤ l ∧ l ≤ k + 1 ∧ 1 ≤ c ∧ c ≤ k + 1 ∧ Below w.heap.size w wr ∧ PosR wr w.heap.size 0 0 ∧ PosR wr (w.heap.size + 1) l c ∧ chkL (T s) 1 1 = chkL ((T s).drop k) l c) (fun j _ => s.size - (intOf j).toNat)
    case atStart =>
      refine ⟨0, 1, 1, Nat.zero_le _, rfl, by omega, by omega, by omega, by omega, by go_grown, ?_, ?_, rfl⟩
      · exact heap_old (heap_new w _)
      · exact heap_new2 w _ _
    case round =>
      obtain ⟨k, l, c, hk, rfl, hl1, hl2, hc1, hc2, hb, hp, hq, hf⟩ := hrel
      have p0 := cell_heap (j := 0) hp rfl
      have p1 := cell_heap (j := 1) hp rfl
      have q0 := cell_heap (j := 0) hq rfl
      have q1 := cell_heap (j := 1) hq rfl
      have fp0 := frozen_heap (j := 0) hp
      have fp1 := frozen_heap (j := 1) hp
      have fq0 := frozen_heap (j := 0) hq
      have fq1 := frozen_heap (j := 1) hq
      have HP := hide hp
      have HQ := hide hq
      have HB := hide hb
      clear hp hq hb
      by_cases hlt : k < s.size
      · have hd : Hid (chkL (T s) 1 1 = if 4096 < l then (l, c, 3) else if s[k] = 10 then chkL ((T s).drop (k + 1)) (l + 1) 1 else if s[k].toNat < 32 ∨ 126 < s[k].toNat then (l, c, 70) else chkL ((T s).drop (k + 1)) l (c + 1)) := by
          show _ = _
          rw [hf, T_drop s k hlt, chkL]
        clear hf
        by_cases h2 : 4096 < l
        · go_wp2
          refine bodyPost_ret (v := .tuple #[.agg #[.int .i64 l, .int .i64 c], .int .i64 3]) (by simp [results, Try.results28, go_sem, p0, p1]) rfl ⟨by rw [HC.out, hd.out, if_pos h2], ?_⟩
          exact (HB.out.setCell (Nat.le_refl _) _).setCell (Nat.le_refl _) _
        · by_cases h3 : s[k] = 10
          · have h3' : ((s[k].toNat : Int) == 10) = true := beq_it (by have := (eq10 _).1 h3; omega)
            rw [if_neg h2, if_pos h3] at hd
            clear h3
            go_wp2
            go_roundw
            case rel =>
              refine ⟨k + 1, l + 1, 1, by omega, by go_num, by omega, by omega, by omega, by omega, ?_, ?_, ?_, hd.out⟩
              · exact (HB.out.setCell (p := ⟨w.heap.size + 1, 0, none⟩) (by simp) _).setCell (p := ⟨w.heap.size + 1, 1, none⟩) (by simp) _
              · exact heap_far (heap_far HP.out (by simp)) (by simp)
              · exact heap_set (heap_set HQ.out)
            case measure => simp [intOf]; omega
          · have h3' : ((s[k].toNat : Int) == 10) = false := beq_if (by intro e; exact h3 ((eq10 _).2 (by omega)))
            by_cases h4 : s[k].toNat < 32 ∨ 126 < s[k].toNat
            · rw [if_neg h2, if_neg h3, if_pos h4] at hd
              clear h3
              by_cases h5 : (s[k].toNat : Int) < 32
              · go_wp2
                refine bodyPost_ret (v := .tuple #[.agg #[.int .i64 l, .int .i64 c], .int .i64 70]) (by simp [results, Try.results28, go_sem, p0, p1]) rfl ⟨by rw [HC.out, hd.out], ?_⟩
                exact (HB.out.setCell (p := ⟨w.heap.size, 0, none⟩) (Nat.le_refl _) _).setCell (p := ⟨w.heap.size, 1, none⟩) (Nat.le_refl _) _
              · have h5' : decide ((s[k].toNat : Int) < 32) = false := by simp; omega
                have h6 : (126 : Int) < (s[k].toNat : Int) := by omega
                go_wp2
                refine bodyPost_ret (v := .tuple #[.agg #[.int .i64 l, .int .i64 c], .int .i64 70]) (by simp [results, Try.results28, go_sem, p0, p1]) rfl ⟨by rw [HC.out, hd.out], ?_⟩
                exact (HB.out.setCell (p := ⟨w.heap.size, 0, none⟩) (Nat.le_refl _) _).setCell (p := ⟨w.heap.size, 1, none⟩) (Nat.le_refl _) _
            · rw [if_neg h2, if_neg h3, if_neg h4] at hd
              have h5' : decide ((s[k].toNat : Int) < 32) = false := by simp; omega
              have h6 : decide ((126 : Int) < (s[k].toNat : Int)) = false := by simp; omega
              clear h3 h4
              go_wp2
              go_roundw
              case rel =>
                refine ⟨k + 1, l, c + 1, by omega, by go_num, by omega, by omega, by omega, by omega, ?_, ?_, ?_, hd.out⟩
                · exact HB.out.setCell (p := ⟨w.heap.size + 1, 1, none⟩) (by simp) _
                · exact heap_far HP.out (by simp)
                · exact heap_set HQ.out
              case measure => simp [intOf]; omega
      · have HF : Hid (chkL (T s) 1 1 = (0, 0, 0)) := by
          show _ = _
          rw [hf, List.drop_eq_nil_of_le (by rw [T_len]; omega)]; rfl
        clear hf
        go_wp2
        refine bodyPost_ret (v := .tuple #[.agg #[.int .i64 0, .int .i64 0], .int .i64 0]) (by simp [results, Try.results28, go_sem, p0, p1]) rfl ⟨by rw [HC.out, HF.out], ?_⟩
        exact (HB.out.setCell (p := ⟨w.heap.size, 0, none⟩) (Nat.le_refl _) _).setCell (p := ⟨w.heap.size, 1, none⟩) (Nat.le_refl _) _
end Go.Proofs.Ytihmmmodimionaa.Lx
/- Rows that the call itself laid: what keeps them. No function of the program is in sight. -/
namespace Go.Proofs.Ytihmmmodimionaa.Lx
open Go.RowKit

theorem own_kept {w w' : World} {base size n : Nat} {e : TypeId} {v : Value} {xs : List Value} {row : Option Nat} (ho : w.ownsRow base e size v n xs) (h : w.grownBy w' row) (hne : ∀ g, row = some g → v.ownBlock ≠ some g) : w'.ownsRow base e size v n xs := by
  refine ho.kept h ?_
  cases hv : v.ownBlock with
  | none => exact .inl rfl
  | some k => right; intro he; exact hne k he.symm hv
theorem below_grown {w w' : World} (h : Below w.heap.size w w') (row : Option Nat) : w.grownBy w' row := ⟨h.os, h.tape, h.output, h.size, fun k hk _ => h.block k hk⟩
theorem own_below {w w' : World} {base size n : Nat} {e : TypeId} {v : Value} {xs : List Value} (ho : w.ownsRow base e size v n xs) (h : Below w.heap.size w w') : w'.ownsRow base e size v n xs := own_kept ho (below_grown h none) (fun g h => by cases h)
/-- two rows of two types lie apart -/
theorem own_types {w : World} {b1 b2 s1 s2 n1 n2 : Nat} {e1 e2 : TypeId} {v1 v2 : Value} {xs ys : List Value} (h1 : w.ownsRow b1 e1 s1 v1 n1 xs) (h2 : w.ownsRow b2 e2 s2 v2 n2 ys) (hne : e1 ≠ e2) (g : Nat) (hg : v1.ownBlock = some g) : v2.ownBlock ≠ some g := by
  intro hg2
  rcases h1.2 with ⟨rfl, _⟩ | ⟨g1, c1, cur1, rfl, _, hh1, _⟩
  · simp [Value.ownBlock] at hg
  · rcases h2.2 with ⟨rfl, _⟩ | ⟨g2, c2, cur2, rfl, _, hh2, _⟩
    · simp [Value.ownBlock] at hg2
    · have e1' : g1 = g := by simpa [Value.ownBlock] using hg
      have e2' : g2 = g := by simpa [Value.ownBlock] using hg2
      subst e1' e2'
      exact heap_ne hh1 hh2 hne rfl
theorem own_ne_row {w : World} {base g : Nat} {e t : TypeId} {size n : Nat} {v : Value} {xs : List Value} {cs : Array Value} (h : w.ownsRow base e size v n xs) (hg : w.heap[g]? = some (.cells cs t (0, 0))) (hne : e ≠ t) : v.ownBlock ≠ some g := by
  rcases h.2 with ⟨rfl, _⟩ | ⟨g', cap, cur, rfl, _, hh, _⟩
  · simp [Value.ownBlock]
  · intro he
    have : g' = g := by simpa [Value.ownBlock] using he
    subst this
    exact heap_ne (t := e) hh hg hne rfl
theorem heap_grown {w w' : World} {row : Option Nat} {g : Nat} {o : Obj} (h : w.heap[g]? = some o) (hb : w.grownBy w' row) (hg : row ≠ some g) : w'.heap[g]? = some o := (hb.block g (lt_heap h) (fun e => hg e.symm)).trans h
theorem own_base {w : World} {b b' size n : Nat} {e : TypeId} {v : Value} {xs : List Value} (h : w.ownsRow b e size v n xs) (hb : b' ≤ b) : w.ownsRow b' e size v n xs := by
  refine ⟨h.1, ?_⟩
  rcases h.2 with h2 | ⟨g, cap, cur, h1, h2, h3⟩
  · exact .inl h2
  · exact .inr ⟨g, cap, cur, h1, Nat.le_trans hb h2, h3⟩
theorem own_one {w : World} {b size n : Nat} {e : TypeId} {v : Value} {xs : List Value} (h : w.ownsRow b e size v n xs) : v.oneCell' = true := by
  rcases h.2 with ⟨rfl, _⟩ | ⟨g, cap, cur, rfl, _⟩ <;> rfl
theorem own_slice {w : World} {b size n : Nat} {e : TypeId} {v : Value} {xs : List Value} (h : w.ownsRow b e size v n xs) : ∃ A c, v = .slice A n c := by
  rcases h.2 with ⟨rfl, rfl⟩ | ⟨g, cap, cur, rfl, _⟩
  · exact ⟨none, 0, rfl⟩
  · exact ⟨_, _, rfl⟩
end Go.Proofs.Ytihmmmodimionaa.Lx
/- What lex.Tokens hands back, as a word on memory. -/
namespace Go.Proofs.Ytihmmmodimionaa.Lx
open Go.RowKit

theorem infoTok : (Try.prog.info? 34).map (fun i => (i.zero, i.size, i.bytes)) = some (some (.agg #[.int .u8 0, .string { data := #[] }, .int .i64 0, .int .i64 0]), 4, 40) := by kernel_rfl

structure BTok where
  k : Int
  b : ByteArray
  l : Int
  c : Int
def BTok.tok (x : BTok) : Tok := ⟨x.k, T x.b, x.l, x.c⟩
def BTok.cells (x : BTok) : List Value := [.int .u8 x.k, .string x.b, .int .i64 x.l, .int .i64 x.c]
theorem flat_len (bs : List BTok) : (bs.flatMap BTok.cells).length = bs.length * 4 := by
  induction bs with
  | nil => rfl
  | cons x xs ih => simp [List.flatMap_cons, BTok.cells, ih]; omega

/-- what lex.Tokens hands back: the tokens in a row of its own, the place and the error -/
def TokOut (ts : List Tok) (p : Int × Int × Int) (w : World) (e : Ending) (w' : World) : Prop :=
  ∃ (v : Value) (bs : List BTok), bs.map BTok.tok = ts ∧ e = .returned (.tuple #[v, .agg #[.int .i64 p.1, .int .i64 p.2.1], .int .i64 p.2.2]) ∧ w'.ownsRow w.heap.size 34 4 v bs.length (bs.flatMap BTok.cells) ∧ Below w.heap.size w w' ∧ bs.length ≤ 65536
end Go.Proofs.Ytihmmmodimionaa.Lx
/- Statements of braces in plain words: forests; what a row of tokens reads as; how a forest lies in memory. -/
namespace Go.Proofs.Ytihmmmodimionaa.Lx
def BTok.pos (x : BTok) : Int × Int := (x.l, x.c)
end Go.Proofs.Ytihmmmodimionaa.Lx
namespace Go.Proofs.Ytihmmmodimionaa.Tr
open Go.RowKit Go.Proofs.Ytihmmmodimionaa Go.Proofs.Ytihmmmodimionaa.Lx

/-- statements: the first one's words, places, whether it opens a block, what stands in it; the others -/
inductive Fo where
  | nil : Fo
  | cons (ws : List ByteArray) (ps : List (Int × Int)) (blk : Bool) (kids rest : Fo) : Fo
def Fo.len : Fo → Nat
  | .nil => 0
  | .cons _ _ _ _ r => r.len + 1
def Fo.app : Fo → Fo → Fo
  | .nil, G => G
  | .cons ws ps b k r, G => .cons ws ps b k (r.app G)
theorem Fo.app_nil : ∀ F : Fo, F.app .nil = F
  | .nil => rfl
  | .cons _ _ _ _ r => by rw [Fo.app, Fo.app_nil r]
theorem Fo.app_assoc : ∀ F G H : Fo, (F.app G).app H = F.app (G.app H)
  | .nil, _, _ => rfl
  | .cons _ _ _ _ r, G, H => by rw [Fo.app, Fo.app, Fo.app, Fo.app_assoc r]
theorem Fo.len_app : ∀ F G : Fo, (F.app G).len = F.len + G.len
  | .nil, G => by simp [Fo.app, Fo.len]
  | .cons _ _ _ _ r, G => by rw [Fo.app, Fo.len, Fo.len, Fo.len_app r]; omega
theorem Fo.len_nil {F : Fo} (h : F.len = 0) : F = .nil := by cases F <;> simp_all [Fo.len]

/-! ### reading -/
def wordsT : List BTok → List BTok
  | [] => []
  | t :: ts => if t.k = 1 then t :: wordsT ts else []
def behindT : List BTok → List BTok
  | [] => []
  | t :: ts => if t.k = 1 then behindT ts else t :: ts
theorem words_behind : ∀ ts : List BTok, wordsT ts ++ behindT ts = ts
  | [] => rfl
  | t :: ts => by
    unfold wordsT behindT
    split
    · rw [List.cons_append, words_behind ts]
    · rfl
theorem behind_le (ts : List BTok) : (behindT ts).length ≤ ts.length := by
  have := congrArg List.length (words_behind ts)
  simp at this
  omega
theorem wordsT_k : ∀ (ts : List BTok), ∀ t ∈ wordsT ts, t.k = 1
  | [], t, h => by cases h
  | x :: xs, t, h => by
    unfold wordsT at h
    split at h
    · rcases List.mem_cons.1 h with e | e
      · rw [e]; assumption
      · exact wordsT_k xs t e
    · cases h
/-- leaves out of a statement with signs -/
def leafs (n : List BTok) : List BTok → Fo
  | [] => .nil
  | x :: xs => .cons (n.map BTok.b ++ [x.b]) (n.map BTok.pos ++ [x.pos]) false .nil (leafs n xs)
theorem leafs_len (n : List BTok) : ∀ l : List BTok, (leafs n l).len = l.length
  | [] => rfl
  | _ :: xs => by rw [leafs, Fo.len, leafs_len n xs]; rfl
theorem leafs_app (n : List BTok) : ∀ a b : List BTok, leafs n (a ++ b) = (leafs n a).app (leafs n b)
  | [], _ => rfl
  | x :: xs, b => by rw [List.cons_append, leafs, leafs, Fo.app, leafs_app n xs b]
inductive PR where
  | ok (F : Fo) (rest : List BTok) : PR
  | err (e l c : Int) : PR
/-- the end of a statement of the words n (or of the leaves 'all') -/
def tailS (rec : Int × Int → List BTok → PR) (deep : Nat) (first : Int × Int) (n : List BTok) (all : Fo) : List BTok → PR
  | [] => .err 71 first.1 first.2
  | t :: ts =>
    if t.k = 4 then .ok (if all.len = 0 then .cons (n.map BTok.b) (n.map BTok.pos) false .nil .nil else all) ts
    else if t.k = 2 ∧ all.len = 0 then
      if deep = 32 then .err 140 t.l t.c
      else match rec t.pos ts with
        | .ok K r => .ok (.cons (n.map BTok.b) (n.map BTok.pos) true K .nil) r
        | .err e l c => .err e l c
    else .err 130 t.l t.c
def stmtF (rec : Int × Int → List BTok → PR) (deep : Nat) (first : Int × Int) (toks : List BTok) : PR :=
  match behindT toks with
  | [] => .err 71 first.1 first.2
  | t :: ts =>
    if t.k = 5 then
      match behindT ts with
      | [] => .err 71 first.1 first.2
      | u :: us => if u.k = 6 ∧ (wordsT ts).length ≠ 0 then tailS rec deep first (wordsT toks) (leafs (wordsT toks) (wordsT ts)) us else .err 130 u.l u.c
    else tailS rec deep first (wordsT toks) .nil (t :: ts)
def putF (F : Fo) : PR → PR
  | .ok G r => .ok (F.app G) r
  | .err e l c => .err e l c
def listF : Nat → Nat → Int × Int → List BTok → PR
  | 0, _, _, _ => .err 0 0 0
  | _ + 1, deep, op, [] => if deep = 0 then .ok .nil [] else .err 71 op.1 op.2
  | f + 1, deep, op, t :: ts =>
    if t.k = 3 then if deep = 0 then .err 130 t.l t.c else .ok .nil ts
    else if t.k = 1 then
      match stmtF (fun o r => listF f (deep + 1) o r) deep t.pos (t :: ts) with
      | .ok F r => putF F (listF f deep op r)
      | .err e l c => .err e l c
    else .err 130 t.l t.c
theorem putF_nil (r : PR) : putF .nil r = r := by cases r <;> rfl
theorem putF_put (F G : Fo) (r : PR) : putF F (putF G r) = putF (F.app G) r := by cases r <;> simp [putF, Fo.app_assoc]

/-! ### in memory -/
def StrV (w : World) (B : Nat → Prop) (v : Value) (ws : List ByteArray) : Prop :=
  ∃ A c, v = .slice A ws.length c ∧ Src w A ws.length c 1 (ws.map Value.string) ∧ ∀ a, A = some a → B a.block ∧ ws.length ≤ c
def posC (ps : List (Int × Int)) : List Value := ps.flatMap fun p => [.int .i64 p.1, .int .i64 p.2]
def PosV (w : World) (B : Nat → Prop) (v : Value) (ps : List (Int × Int)) : Prop :=
  ∃ A c, v = .slice A ps.length c ∧ Src w A ps.length c 2 (posC ps) ∧ ∀ a, A = some a → B a.block
def FoV (w : World) (B : Nat → Prop) : Fo → List Value → Prop
  | .nil, xs => xs = []
  | .cons ws ps blk kids rest, xs => ∃ vw vp A c ys xs', xs = vw :: vp :: .bool blk :: .slice A kids.len c :: xs' ∧ StrV w B vw ws ∧ PosV w B vp ps ∧ Src w A kids.len c 4 ys ∧ (∀ a, A = some a → B a.block) ∧ FoV w B kids ys ∧ FoV w B rest xs'
theorem posC_len (ps : List (Int × Int)) : (posC ps).length = ps.length * 2 := by
  induction ps with
  | nil => rfl
  | cons p ps ih => unfold posC at *; simp [List.flatMap_cons, ih]; omega
theorem posC_app (a b : List (Int × Int)) : posC (a ++ b) = posC a ++ posC b := by simp [posC]
theorem cell_block {w w' : World} {a : Addr} (h : w'.heap[a.block]? = w.heap[a.block]?) : w'.cell? a = w.cell? a := by
  unfold World.cell?
  rw [h]
theorem add_block (a : Addr) (j : Nat) : (a.add j).block = a.block := by
  cases j <;> rfl
theorem src_keep {w w' : World} {A : Option Addr} {m c size : Nat} {xs : List Value} (h : Src w A m c size xs) (hb : ∀ a, A = some a → w'.heap[a.block]? = w.heap[a.block]?) : Src w' A m c size xs := by
  obtain ⟨h1, h2 | ⟨ad, h2, h3⟩⟩ := h
  · exact ⟨h1, .inl h2⟩
  · refine ⟨h1, .inr ⟨ad, h2, fun j u hu => ?_⟩⟩
    rw [cell_block (w := w) (by rw [add_block]; exact hb ad h2)]
    exact h3 j u hu
section
variable {w w' : World} {B B' : Nat → Prop}
theorem StrV.keep {v : Value} {ws : List ByteArray} (h : StrV w B v ws) (hb : ∀ b, B b → w'.heap[b]? = w.heap[b]?) : StrV w' B v ws := by
  obtain ⟨A, c, e, hs, hB⟩ := h
  exact ⟨A, c, e, src_keep hs (fun a ha => hb _ (hB a ha).1), hB⟩
theorem PosV.keep {v : Value} {ps : List (Int × Int)} (h : PosV w B v ps) (hb : ∀ b, B b → w'.heap[b]? = w.heap[b]?) : PosV w' B v ps := by
  obtain ⟨A, c, e, hs, hB⟩ := h
  exact ⟨A, c, e, src_keep hs (fun a ha => hb _ (hB a ha)), hB⟩
theorem StrV.mono {v : Value} {ws : List ByteArray} (h : StrV w B v ws) (hb : ∀ b, B b → B' b) : StrV w B' v ws := by
  obtain ⟨A, c, e, hs, hB⟩ := h
  exact ⟨A, c, e, hs, fun a ha => ⟨hb _ (hB a ha).1, (hB a ha).2⟩⟩
theorem PosV.mono {v : Value} {ps : List (Int × Int)} (h : PosV w B v ps) (hb : ∀ b, B b → B' b) : PosV w B' v ps := by
  obtain ⟨A, c, e, hs, hB⟩ := h
  exact ⟨A, c, e, hs, fun a ha => hb _ (hB a ha)⟩
theorem FoV.keep : ∀ {F : Fo} {xs : List Value}, FoV w B F xs → (∀ b, B b → w'.heap[b]? = w.heap[b]?) → FoV w' B F xs
  | .nil, _, h, _ => h
  | .cons ws ps blk kids rest, xs, h, hb => by
    obtain ⟨vw, vp, A, c, ys, xs', e, h1, h2, h3, h4, h5, h6⟩ := h
    exact ⟨vw, vp, A, c, ys, xs', e, h1.keep hb, h2.keep hb, src_keep h3 (fun a ha => hb _ (h4 a ha)), h4, FoV.keep h5 hb, FoV.keep h6 hb⟩
theorem FoV.mono : ∀ {F : Fo} {xs : List Value}, FoV w B F xs → (∀ b, B b → B' b) → FoV w B' F xs
  | .nil, _, h, _ => h
  | .cons ws ps blk kids rest, xs, h, hb => by
    obtain ⟨vw, vp, A, c, ys, xs', e, h1, h2, h3, h4, h5, h6⟩ := h
    exact ⟨vw, vp, A, c, ys, xs', e, h1.mono hb, h2.mono hb, h3, fun a ha => hb _ (h4 a ha), FoV.mono h5 hb, FoV.mono h6 hb⟩
theorem FoV.len : ∀ {F : Fo} {xs : List Value}, FoV w B F xs → xs.length = F.len * 4
  | .nil, _, h => by rw [show _ = [] from h]; rfl
  | .cons ws ps blk kids rest, xs, h => by
    obtain ⟨vw, vp, A, c, ys, xs', e, h1, h2, h3, h4, h5, h6⟩ := h
    have := FoV.len h6
    rw [e, Fo.len]
    simp only [List.length_cons]
    omega
theorem FoV.app : ∀ {F : Fo} {G : Fo} {xs ys : List Value}, FoV w B F xs → FoV w B G ys → FoV w B (F.app G) (xs ++ ys)
  | .nil, _, _, _, h, h' => by rw [show _ = [] from h]; exact h'
  | .cons ws ps blk kids rest, G, xs, ys, h, h' => by
    obtain ⟨vw, vp, A, c, zs, xs', e, h1, h2, h3, h4, h5, h6⟩ := h
    exact ⟨vw, vp, A, c, zs, xs' ++ ys, by rw [e]; rfl, h1, h2, h3, h4, h5, FoV.app h6 h'⟩
theorem FoV.one : ∀ {F : Fo} {xs : List Value}, FoV w B F xs → ∀ u ∈ xs, u.oneCell' = true
  | .nil, _, h, u, hu => by rw [show _ = [] from h] at hu; cases hu
  | .cons ws ps blk kids rest, xs, h, u, hu => by
    obtain ⟨vw, vp, A, c, zs, xs', e, h1, h2, h3, h4, h5, h6⟩ := h
    obtain ⟨_, _, e1, _⟩ := h1
    obtain ⟨_, _, e2, _⟩ := h2
    rw [e] at hu
    rcases List.mem_cons.1 hu with r | hu
    · rw [r, e1]; rfl
    rcases List.mem_cons.1 hu with r | hu
    · rw [r, e2]; rfl
    rcases List.mem_cons.1 hu with r | hu
    · rw [r]; rfl
    rcases List.mem_cons.1 hu with r | hu
    · rw [r]; rfl
    · exact FoV.one h6 u hu
end
/-- a row of tokens -/
abbrev TokS (w : World) (A : Option Addr) (c : Nat) (ts : List BTok) : Prop := Src w A ts.length c 4 (ts.flatMap BTok.cells)
/-- the reader's block: what is left, the first error and its place -/
structure RdX (w : World) (p : Nat) (A : Option Addr) (cap : Nat) (ts : List BTok) (e l c : Int) : Prop where
  h : w.heap[p]? = some (.cells #[.slice A ts.length cap, .int .i64 e, .int .i64 l, .int .i64 c] 79 (0, 0))
  t : TokS w A cap ts
  lt : ∀ a, A = some a → a.block < p
  cp : ts.length ≤ cap
  cm : cap ≤ maxLen
  kz : ∀ t ∈ ts, t.k ≠ 0
end Go.Proofs.Ytihmmmodimionaa.Tr
/- How statements are written, in plain words. -/
namespace Go.Proofs.Ytihmmmodimionaa.Tr
open Go.RowKit Go.Proofs.Ytihmmmodimionaa Go.Proofs.Ytihmmmodimionaa.Lx

/-- a byte that can't be written -/
def badB (c : UInt8) : Bool := decide (c.toNat < 32) || decide (126 < c.toNat) || decide (c.toNat = 34)
def quoteT (w : List UInt8) : Option (List UInt8) :=
  if w.any badB then none
  else if w = [] ∨ 0 ≤ Lib.indexAny w [32, 123, 125, 59, 91, 93, 35] ∨ 0 ≤ Lib.index w [47, 42] then some ([34] ++ w ++ [34])
  else some w
def quotesT : List ByteArray → Option (List (List UInt8))
  | [] => some []
  | w :: ws => match quoteT (T w) with
    | none => none
    | some q => match quotesT ws with
      | none => none
      | some qs => some (q :: qs)
def indT (d : Nat) : List UInt8 := List.replicate (4 * d) 32
def writeF : Nat → Fo → Option (List UInt8)
  | _, .nil => some []
  | d, .cons ws _ blk K R =>
    if ws.length = 0 ∨ (blk = false ∧ K.len ≠ 0) ∨ (blk = true ∧ 32 ≤ d) then none
    else match quotesT ws with
      | none => none
      | some qs =>
        if blk then match writeF (d + 1) K with
          | none => none
          | some k => match writeF d R with
            | none => none
            | some r => some (indT d ++ Lib.join qs [32] ++ [32, 123, 10] ++ k ++ (indT d ++ [125, 10]) ++ r)
        else match writeF d R with
          | none => none
          | some r => some (indT d ++ Lib.join qs [32] ++ [59, 10] ++ r)
end Go.Proofs.Ytihmmmodimionaa.Tr
/- What write writes, in plain words: how much room it takes; statement by statement. -/
namespace Go.Proofs.Ytihmmmodimionaa.Tr
open Go.RowKit Go.Proofs.Ytihmmmodimionaa Go.Proofs.Ytihmmmodimionaa.Lx

def Fo.nodes : Fo → Nat
  | .nil => 0
  | .cons _ _ _ K R => K.nodes + R.nodes + 1
def wsW : List ByteArray → Nat
  | [] => 0
  | w :: ws => w.size + 3 + wsW ws
def wtF : Fo → Nat
  | .nil => 0
  | .cons ws _ _ K R => wsW ws + 300 + wtF K + wtF R
def WB : Fo → Prop
  | .nil => True
  | .cons ws _ _ K R => (∀ w ∈ ws, w.size < 4294967281) ∧ WB K ∧ WB R
def pre (o : List UInt8) (r : Option (List UInt8)) : Option (List UInt8) := r.map fun q => o ++ q
def preQ (o : List (List UInt8)) (r : Option (List (List UInt8))) : Option (List (List UInt8)) := r.map fun q => o ++ q
theorem pre_nil (r : Option (List UInt8)) : pre [] r = r := by cases r <;> rfl
theorem pre_pre (a b : List UInt8) (r : Option (List UInt8)) : pre a (pre b r) = pre (a ++ b) r := by cases r <;> simp [pre]
theorem preQ_nil (r : Option (List (List UInt8))) : preQ [] r = r := by cases r <;> rfl
theorem len_wt : ∀ F : Fo, F.len ≤ wtF F
  | .nil => by simp [Fo.len]
  | .cons ws _ _ K R => by
    have := len_wt R
    show R.len + 1 ≤ wsW ws + 300 + wtF K + wtF R
    omega
theorem quoteT_len {w q : List UInt8} (h : quoteT w = some q) : q.length ≤ w.length + 2 := by
  unfold quoteT at h
  split at h
  · cases h
  · split at h
    · injection h with h; subst h; simp
    · injection h with h; subst h; omega
def lenQ (qs : List (List UInt8)) : Nat := (qs.map fun q => q.length + 1).sum
theorem lenQ_app (a : List (List UInt8)) (q : List UInt8) : lenQ (a ++ [q]) = lenQ a + q.length + 1 := by simp [lenQ]; omega
theorem joinTail_le : ∀ qs : List (List UInt8), (Lib.joinTail [32] qs).length = lenQ qs
  | [] => rfl
  | q :: qs => by
    have := joinTail_le qs
    simp only [Lib.joinTail, lenQ, List.map_cons, List.flatten_cons, List.length_append, List.sum_cons, List.length_cons, List.length_nil] at this ⊢
    omega
theorem join_le (qs : List (List UInt8)) : (Lib.join qs [32]).length ≤ lenQ qs := by
  cases qs with
  | nil => simp [Lib.join_nil]
  | cons q qs =>
    rw [Lib.join_cons, List.length_append, joinTail_le]
    simp only [lenQ, List.map_cons, List.sum_cons]
    omega
theorem quotes_none {ws rest : List ByteArray} {w : ByteArray} {qs : List (List UInt8)} (h : quotesT ws = preQ qs (quotesT (w :: rest))) (hq : quoteT (T w) = none) : quotesT ws = none := by
  rw [h, quotesT, hq]; rfl
theorem quotes_some {ws rest : List ByteArray} {w : ByteArray} {qs : List (List UInt8)} {q : List UInt8} (h : quotesT ws = preQ qs (quotesT (w :: rest))) (hq : quoteT (T w) = some q) : quotesT ws = preQ (qs ++ [q]) (quotesT rest) := by
  rw [h, quotesT, hq]
  cases quotesT rest <;> simp [preQ]
theorem write_bad {d : Nat} {ws : List ByteArray} {ps : List (Int × Int)} {blk : Bool} {K R : Fo} (h : ws.length = 0 ∨ (blk = false ∧ K.len ≠ 0) ∨ (blk = true ∧ 32 ≤ d)) : writeF d (.cons ws ps blk K R) = none := by
  rw [writeF, if_pos h]
theorem write_noq {d : Nat} {ws : List ByteArray} {ps : List (Int × Int)} {blk : Bool} {K R : Fo} (h : quotesT ws = none) : writeF d (.cons ws ps blk K R) = none := by
  rw [writeF, h]
  split <;> rfl
theorem write_leaf {d : Nat} {ws : List ByteArray} {ps : List (Int × Int)} {K R : Fo} {qs : List (List UInt8)} (h0 : ws.length ≠ 0) (hK : K.len = 0) (h : quotesT ws = some qs) : writeF d (.cons ws ps false K R) = pre (indT d ++ Lib.join qs [32] ++ [59, 10]) (writeF d R) := by
  rw [writeF, h, if_neg (by
    rintro (h1 | ⟨_, h1⟩ | ⟨h1, _⟩)
    · exact h0 h1
    · exact h1 hK
    · cases h1)]
  cases writeF d R <;> rfl
theorem write_kno {d : Nat} {ws : List ByteArray} {ps : List (Int × Int)} {K R : Fo} (h : writeF (d + 1) K = none) : writeF d (.cons ws ps true K R) = none := by
  rw [writeF, h]
  split
  · rfl
  · cases quotesT ws <;> rfl
theorem write_blk {d : Nat} {ws : List ByteArray} {ps : List (Int × Int)} {K R : Fo} {qs : List (List UInt8)} {k : List UInt8} (h0 : ws.length ≠ 0) (hd : d < 32) (h : quotesT ws = some qs) (hk : writeF (d + 1) K = some k) : writeF d (.cons ws ps true K R) = pre (indT d ++ Lib.join qs [32] ++ [32, 123, 10] ++ k ++ (indT d ++ [125, 10])) (writeF d R) := by
  rw [writeF, h, hk, if_neg (by
    rintro (h1 | ⟨h1, _⟩ | ⟨_, h1⟩)
    · exact h0 h1
    · cases h1
    · omega)]
  cases writeF d R <;> rfl
theorem quotes_len : ∀ (ws : List ByteArray) (qs : List (List UInt8)), quotesT ws = some qs → qs.length = ws.length ∧ lenQ qs ≤ wsW ws
  | [], qs, h => by
    rw [quotesT] at h
    injection h with h
    subst h
    exact ⟨rfl, Nat.le_refl _⟩
  | w :: ws, qs, h => by
    rw [quotesT] at h
    cases e : quoteT (T w) with
    | none => rw [e] at h; cases h
    | some q =>
      rw [e] at h
      cases e2 : quotesT ws with
      | none => rw [e2] at h; cases h
      | some rs =>
        rw [e2] at h
        injection h with h
        subst h
        have h1 := quotes_len ws rs e2
        have h2 := quoteT_len e
        rw [T_len] at h2
        refine ⟨by simp [h1.1], ?_⟩
        simp only [lenQ, List.map_cons, List.sum_cons, wsW] at h1 ⊢
        omega
theorem write_wt : ∀ (F : Fo) (d : Nat) (o : List UInt8), writeF d F = some o → d ≤ 32 → o.length ≤ wtF F
  | .nil, d, o, h, _ => by
    rw [writeF] at h
    injection h with h
    subst h
    exact Nat.zero_le _
  | .cons ws ps blk K R, d, o, h, hd => by
    rw [writeF] at h
    split at h
    · cases h
    · rename_i hn
      cases e : quotesT ws with
      | none => rw [e] at h; cases h
      | some qs =>
        rw [e] at h
        have h1 := join_le qs
        have h2 := (quotes_len ws qs e).2
        cases blk with
        | false =>
          simp only [Bool.false_eq_true, if_false] at h
          cases e3 : writeF d R with
          | none => rw [e3] at h; cases h
          | some r =>
            rw [e3] at h
            injection h with h
            subst h
            have h3 := write_wt R d r e3 hd
            rw [wtF]
            simp [indT]
            omega
        | true =>
          simp only [if_true] at h
          have hd2 : d < 32 := by
            rcases Nat.lt_or_ge d 32 with h' | h'
            · exact h'
            · exact absurd (.inr (.inr ⟨rfl, h'⟩)) hn
          cases e4 : writeF (d + 1) K with
          | none => rw [e4] at h; cases h
          | some k =>
            rw [e4] at h
            cases e3 : writeF d R with
            | none => rw [e3] at h; cases h
            | some r =>
              rw [e3] at h
              injection h with h
              subst h
              have h3 := write_wt R d r e3 hd
              have h4 := write_wt K (d + 1) k e4 (by omega)
              rw [wtF]
              simp [indT]
              omega
theorem repeat_ind : ∀ d : Nat, Lib.repeatL [32, 32, 32, 32] d = indT d
  | 0 => rfl
  | d + 1 => by
    rw [Lib.repeatL, repeat_ind d, indT, indT, show 4 * (d + 1) = 4 + 4 * d by omega, ← List.replicate_append_replicate]
    rfl
end Go.Proofs.Ytihmmmodimionaa.Tr
