/- The closed texts of TreeNames: what they read as. -/
import Derived.Test.YtihmmmodimionaaTW
namespace Go.Proofs.Ytihmmmodimionaa.Tr
open Go.RowKit Go.Proofs.Ytihmmmodimionaa Go.Proofs.Ytihmmmodimionaa.Lx

def rep : Nat → List UInt8 → List UInt8
  | 0, _ => []
  | n + 1, x => rep n x ++ x
def bsOf (ts : List Tok) : List BTok := ts.map fun t => ⟨t.k, ⟨t.t.toArray⟩, t.l, t.c⟩
theorem bsOf_tok {bs : List BTok} {ts : List Tok} (h : bs.map BTok.tok = ts) : bs = bsOf ts := by
  subst h
  unfold bsOf
  rw [List.map_map]
  conv => lhs; rw [← List.map_id bs]
  exact List.map_congr_left (fun x _ => rfl)
def t32 : List UInt8 := rep 32 [97, 32, 123] ++ rep 32 [125]
def t33 : List UInt8 := rep 32 [97, 32, 123] ++ [97, 32, 123] ++ rep 32 [125] ++ [125]
def okB (r : PR) : Bool := match r with | .ok _ [] => true | _ => false
def errB (r : PR) (e l c : Int) : Bool := match r with | .err e' l' c' => decide (e' = e ∧ l' = l ∧ c' = c) | _ => false
theorem tok32 : (tokRes t32).2 = (0, 0, 0) := by kernel_rfl
theorem tok33 : (tokRes t33).2 = (0, 0, 0) := by kernel_rfl
theorem read32 : okB (listF (bsOf (tokRes t32).1).length.succ 0 (0, 0) (bsOf (tokRes t32).1)) = true := by kernel_rfl
theorem read33 : errB (listF (bsOf (tokRes t33).1).length.succ 0 (0, 0) (bsOf (tokRes t33).1)) 140 1 99 = true := by kernel_rfl
end Go.Proofs.Ytihmmmodimionaa.Tr
