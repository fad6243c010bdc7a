/- How statements are written, in plain words. -/
import Derived.Test.YtihmmmodimionaaTA
import Derived.Lib.Index
import Derived.Lib.Join
namespace Go.Proofs.Ytihmmmodimionaa.Tr
open Go.RowKit Go.Proofs.Ytihmmmodimionaa Go.Proofs.Ytihmmmodimionaa.Lx

/-- a byte that can't be written -/
def badB (c : UInt8) : Bool := decide (c.toNat < 32) || decide (126 < c.toNat) || decide (c.toNat = 34)
def quoteT (w : List UInt8) : Option (List UInt8) :=
  if w.any badB then none
  else if w = [] ∨ 0 ≤ Lib.indexAny w [32, 123, 125, 59, 91, 93, 35] ∨ 0 ≤ Lib.index w [47, 42] then some ([34] ++ w ++ [34])
  else some w
def quotesT : List ByteArray → Option (List (List UInt8))
  | [] => some []
  | w :: ws => match quoteT (T w) with
    | none => none
    | some q => match quotesT ws with
      | none => none
      | some qs => some (q :: qs)
def indT (d : Nat) : List UInt8 := List.replicate (4 * d) 32
def writeF : Nat → Fo → Option (List UInt8)
  | _, .nil => some []
  | d, .cons ws _ blk K R =>
    if ws.length = 0 ∨ (blk = false ∧ K.len ≠ 0) ∨ (blk = true ∧ 32 ≤ d) then none
    else match quotesT ws with
      | none => none
      | some qs =>
        if blk then match writeF (d + 1) K with
          | none => none
          | some k => match writeF d R with
            | none => none
            | some r => some (indT d ++ Lib.join qs [32] ++ [32, 123, 10] ++ k ++ (indT d ++ [125, 10]) ++ r)
        else match writeF d R with
          | none => none
          | some r => some (indT d ++ Lib.join qs [32] ++ [59, 10] ++ r)
end Go.Proofs.Ytihmmmodimionaa.Tr
