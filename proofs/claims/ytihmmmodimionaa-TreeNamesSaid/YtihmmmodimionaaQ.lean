/- Plain words on texts of braces: the tokens of a text. No program is in sight. -/
import Derived.Test.YtihmmmodimionaaP
namespace Go.Proofs.Ytihmmmodimionaa.Lx
open Go

structure Tok where
  k : Int
  t : List UInt8
  l : Int
  c : Int
def appT (d : List Tok) : Except (Int × Int) (List Tok) → Except (Int × Int) (List Tok)
  | .error e => .error e
  | .ok ts => .ok (d ++ ts)
theorem appT_nil (r : Except (Int × Int) (List Tok)) : appT [] r = r := by cases r <;> rfl
theorem appT_app (a b : List Tok) (r : Except (Int × Int) (List Tok)) : appT a (appT b r) = appT (a ++ b) r := by cases r <;> simp [appT]
/-- the tokens of what is left of a text; an error: where -/
def toks : Nat → List UInt8 → Int → Int → Except (Int × Int) (List Tok)
  | 0, _, _, _ => .ok []
  | _ + 1, [], _, _ => .ok []
  | f + 1, x :: xs, l, c =>
    if (step (x :: xs)).err then .error (l, c)
    else appT (if (step (x :: xs)).is then [⟨(step (x :: xs)).k, (step (x :: xs)).t, l, c⟩] else []) (toks f ((x :: xs).drop (step (x :: xs)).n) (adv ((x :: xs).take (step (x :: xs)).n) l c).1 (adv ((x :: xs).take (step (x :: xs)).n) l c).2)
theorem toks_nil (f : Nat) (l c : Int) : toks f [] l c = .ok [] := by cases f <;> rfl
theorem toks_step (f : Nat) (s : List UInt8) (l c : Int) (h : s ≠ []) : toks (f + 1) s l c = if (step s).err then .error (l, c)
    else appT (if (step s).is then [⟨(step s).k, (step s).t, l, c⟩] else []) (toks f (s.drop (step s).n) (adv (s.take (step s).n) l c).1 (adv (s.take (step s).n) l c).2) := by
  obtain ⟨x, xs, rfl⟩ := List.exists_cons_of_ne_nil h
  rfl
/-- what lex.Tokens answers -/
def tokRes (s : List UInt8) : List Tok × Int × Int × Int :=
  if (chk s).2.2 = 0 then
    match toks s.length s 1 1 with
    | .error e => ([], e.1, e.2, 71)
    | .ok ts => (ts, 0, 0, 0)
  else ([], chk s)
theorem tokRes_err {s : List UInt8} {l c : Int} (hc : (chk s).2.2 = 0) (h : toks s.length s 1 1 = .error (l, c)) : tokRes s = ([], l, c, 71) := by
  unfold tokRes
  rw [if_pos hc, h]
theorem tokRes_ok {s : List UInt8} {ts : List Tok} (hc : (chk s).2.2 = 0) (h : toks s.length s 1 1 = .ok ts) : tokRes s = (ts, 0, 0, 0) := by
  unfold tokRes
  rw [if_pos hc, h]
theorem tokRes_no {s : List UInt8} (hc : ¬ (chk s).2.2 = 0) : tokRes s = ([], chk s) := by
  unfold tokRes
  rw [if_neg hc]
theorem toks_err {r : Except (Int × Int) (List Tok)} {d : List Tok} {f : Nat} {s : List UInt8} {l c : Int} (hf : s.length ≤ f) (hn : s ≠ []) (h : r = appT d (toks f s l c)) (he : (step s).err = true) : r = .error (l, c) := by
  obtain ⟨x, xs, rfl⟩ := List.exists_cons_of_ne_nil hn
  obtain ⟨f', rfl⟩ : ∃ f', f = f' + 1 := ⟨f - 1, by simp at hf; omega⟩
  rw [h, toks_step _ _ _ _ hn, if_pos he]
  rfl
theorem toks_more {r : Except (Int × Int) (List Tok)} {d : List Tok} {f : Nat} {s : List UInt8} {l c : Int} (hf : s.length ≤ f) (hn : s ≠ []) (h : r = appT d (toks f s l c)) (he : (step s).err = false) (h1 : 1 ≤ (step s).n) :
    ∃ f', (s.drop (step s).n).length ≤ f' ∧ r = appT (d ++ (if (step s).is then [⟨(step s).k, (step s).t, l, c⟩] else [])) (toks f' (s.drop (step s).n) (adv (s.take (step s).n) l c).1 (adv (s.take (step s).n) l c).2) := by
  obtain ⟨x, xs, rfl⟩ := List.exists_cons_of_ne_nil hn
  obtain ⟨f', rfl⟩ : ∃ f', f = f' + 1 := ⟨f - 1, by simp at hf; omega⟩
  refine ⟨f', by rw [List.length_drop]; simp only [List.length_cons] at hf ⊢; omega, ?_⟩
  rw [h, toks_step _ _ _ _ hn, if_neg (by rw [he]; decide), appT_app]
end Go.Proofs.Ytihmmmodimionaa.Lx
