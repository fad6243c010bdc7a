/- What Parse reads, in plain words: kinds of tokens are never 0. -/
import Derived.Test.YtihmmmodimionaaTN
namespace Go.Proofs.Ytihmmmodimionaa.Tr
open Go.RowKit Go.Proofs.Ytihmmmodimionaa Go.Proofs.Ytihmmmodimionaa.Lx

theorem step_kz (s : List UInt8) : (Lx.step s).k ≠ 0 := by
  unfold Lx.step
  simp only
  repeat' split
  all_goals first | exact (by decide : (1 : Int) ≠ 0) | (simp only [ne_eq]; omega)
theorem toks_kz : ∀ (f : Nat) (s : List UInt8) (l c : Int) (ts : List Tok), toks f s l c = .ok ts → ∀ t ∈ ts, t.k ≠ 0
  | 0, _, _, _, ts, h, t, ht => by cases h; cases ht
  | f + 1, [], _, _, ts, h, t, ht => by cases h; cases ht
  | f + 1, x :: xs, l, c, ts, h, t, ht => by
    rw [toks_step f _ l c (by simp)] at h
    split at h
    · cases h
    · cases e : toks f ((x :: xs).drop (Lx.step (x :: xs)).n) (adv ((x :: xs).take (Lx.step (x :: xs)).n) l c).1 (adv ((x :: xs).take (Lx.step (x :: xs)).n) l c).2 with
      | error q => rw [e] at h; cases h
      | ok us =>
        rw [e] at h
        injection h with h
        subst h
        rcases List.mem_append.1 ht with h1 | h1
        · split at h1
          · obtain rfl : t = _ := by simpa using h1
            exact step_kz _
          · cases h1
        · exact toks_kz f _ _ _ us e t h1
theorem tokRes_kz (s : List UInt8) : ∀ t ∈ (tokRes s).1, t.k ≠ 0 := by
  intro t ht
  unfold tokRes at ht
  split at ht
  · split at ht
    · cases ht
    · rename_i us e
      exact toks_kz _ _ _ _ _ e t ht
  · cases ht
theorem bsOf_kz (s : List UInt8) : ∀ t ∈ bsOf (tokRes s).1, t.k ≠ 0 := by
  intro t ht
  unfold bsOf at ht
  obtain ⟨u, hu, rfl⟩ := List.mem_map.1 ht
  exact tokRes_kz s u hu
/-- what Parse answers -/
def parseF (s : List UInt8) : PR :=
  if (tokRes s).2.2.2 = 0 then listF ((tokRes s).1.length + 1) 0 (0, 0) (bsOf (tokRes s).1) else .err (tokRes s).2.2.2 (tokRes s).2.1 (tokRes s).2.2.1
theorem bsOf_len (ts : List Tok) : (bsOf ts).length = ts.length := by simp [bsOf]
end Go.Proofs.Ytihmmmodimionaa.Tr
