/- Plain words on texts: places, the bytes that may stand, the tokens of a text of braces. No program is in sight. -/
import Derived.Lib.Index
import Derived.Lib.IndexAny
import Derived.Lib.Strings
namespace Go.Proofs.Ytihmmmodimionaa.Lx
open Go

/-- the place behind some bytes -/
def adv : List UInt8 → Int → Int → Int × Int
  | [], l, c => (l, c)
  | x :: xs, l, c => if x = 10 then adv xs (l + 1) 1 else adv xs l (c + 1)
theorem adv_append : ∀ (a b : List UInt8) (l c : Int), adv (a ++ b) l c = adv b (adv a l c).1 (adv a l c).2 := by
  intro a
  induction a with
  | nil => intro b l c; rfl
  | cons x xs ih =>
    intro b l c
    simp only [List.cons_append, adv]
    split
    · exact ih _ _ _
    · exact ih _ _ _
theorem adv_bd : ∀ (a : List UInt8) (l c : Int), 1 ≤ l → 1 ≤ c → l ≤ (adv a l c).1 ∧ (adv a l c).1 ≤ l + a.length ∧ 1 ≤ (adv a l c).2 ∧ (adv a l c).2 ≤ c + a.length := by
  intro a
  induction a with
  | nil => intro l c _ _; simp [adv]; omega
  | cons x xs ih =>
    intro l c hl hc
    simp only [adv, List.length_cons]
    split
    · have := ih (l + 1) 1 (by omega) (by omega); omega
    · have := ih l (c + 1) (by omega) (by omega); omega
theorem adv_snoc (a : List UInt8) (x : UInt8) (l c : Int) : adv (a ++ [x]) l c = if x = 10 then ((adv a l c).1 + 1, 1) else ((adv a l c).1, (adv a l c).2 + 1) := by
  rw [adv_append]
  simp only [adv]

/-- what lex.check answers: the place, and the error's number -/
def chkL : List UInt8 → Int → Int → Int × Int × Int
  | [], _, _ => (0, 0, 0)
  | x :: xs, l, c => if 4096 < l then (l, c, 3) else if x = 10 then chkL xs (l + 1) 1 else if x.toNat < 32 ∨ 126 < x.toNat then (l, c, 70) else chkL xs l (c + 1)
def chk (s : List UInt8) : Int × Int × Int := if 65536 < s.length then (0, 0, 3) else chkL s 1 1

theorem chkL_ok : ∀ (s : List UInt8) (l c : Int), (chkL s l c).2.2 = 0 → ∀ x ∈ s, x = 10 ∨ (32 ≤ x.toNat ∧ x.toNat ≤ 126) := by
  intro s
  induction s with
  | nil => intro l c _ x hx; cases hx
  | cons y ys ih =>
    intro l c h x hx
    unfold chkL at h
    split at h
    · simp at h
    · split at h
      · rename_i h10
        rcases List.mem_cons.1 hx with rfl | hx
        · exact .inl h10
        · exact ih _ _ h x hx
      · split at h
        · simp at h
        · rename_i hb
          rcases List.mem_cons.1 hx with rfl | hx
          · exact .inr (by omega)
          · exact ih _ _ h x hx
theorem chk_len {s : List UInt8} (h : (chk s).2.2 = 0) : s.length ≤ 65536 := by
  unfold chk at h
  split at h
  · simp at h
  · omega
theorem chk_ok {s : List UInt8} (h : (chk s).2.2 = 0) : ∀ x ∈ s, x = 10 ∨ (32 ≤ x.toNat ∧ x.toNat ≤ 126) := by
  have hl := chk_len h
  unfold chk at h
  rw [if_neg (by omega)] at h
  exact chkL_ok s 1 1 h

/-- how many elements stand ahead of the first suffix that is so -/
def firstN (p : List UInt8 → Bool) : List UInt8 → Nat
  | [] => 0
  | x :: xs => if p (x :: xs) then 0 else firstN p xs + 1
theorem firstN_le (p : List UInt8 → Bool) : ∀ s, firstN p s ≤ s.length := by
  intro s
  induction s with
  | nil => simp [firstN]
  | cons x xs ih =>
    unfold firstN
    split
    · omega
    · simp; exact ih
def is10 (s : List UInt8) : Bool := s.head? == some 10
/-- the bytes that end a word -/
def endB : List UInt8 := [32, 10, 123, 125, 59, 91, 93, 34, 35]
def isEnd : List UInt8 → Bool
  | [] => true
  | x :: xs => decide (0 ≤ Lib.indexByte endB x) || Lib.hasPrefix (x :: xs) [47, 42]
def signs : List UInt8 := [123, 125, 59, 91, 93]

/-- one step of the reader: an error; else how many bytes it takes, and the token, if there is one -/
structure Step where
  err : Bool
  is : Bool
  k : Int
  t : List UInt8
  n : Nat
def step (s : List UInt8) : Step :=
  let x := s.headD 0
  if x = 32 ∨ x = 10 then ⟨false, false, 1, [], 1⟩
  else if x = 35 then ⟨false, false, 1, [], firstN is10 s⟩
  else if Lib.hasPrefix s [47, 42] then
    if Lib.index (s.drop 2) [42, 47] < 0 then ⟨true, false, 1, [], 0⟩ else ⟨false, false, 1, [], (Lib.index (s.drop 2) [42, 47]).toNat + 4⟩
  else if x = 34 then
    if Lib.indexAny (s.drop 1) [34, 10] < 0 ∨ s.getD ((Lib.indexAny (s.drop 1) [34, 10]).toNat + 1) 0 = 10 then ⟨true, false, 1, [], 0⟩
    else ⟨false, true, 1, (s.drop 1).take (Lib.indexAny (s.drop 1) [34, 10]).toNat, (Lib.indexAny (s.drop 1) [34, 10]).toNat + 2⟩
  else if 0 ≤ Lib.indexByte signs x then ⟨false, true, 2 + Lib.indexByte signs x, s.take 1, 1⟩
  else ⟨false, true, 1, s.take (firstN isEnd s), firstN isEnd s⟩
end Go.Proofs.Ytihmmmodimionaa.Lx
