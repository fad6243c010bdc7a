import Derived.Test.YtopckpjhdbjmbaaDoorZF
import Derived.Test.YtopckpjhdbjmbaaDoorZD
namespace Go.Proofs.YtopckpjhdbjmbaaDoor.Ld
open Go.RowKit

def allB (p : Nat → Bool) : Nat → Bool
  | 0 => true
  | k + 1 => allB p k && p k
theorem allB_front (p : Nat → Bool) : ∀ k i, allB (fun j => p (i + j)) (k + 1) = (p i && allB (fun j => p (i + 1 + j)) k) := by
  intro k
  induction k with
  | zero => intro i; simp [allB]
  | succ k ih =>
    intro i
    rw [allB, ih i, allB, show i + (k + 1) = i + 1 + k by omega, Bool.and_assoc]
theorem firstI_all (p : Nat → Bool) : ∀ k i, decide (0 ≤ firstI p i k) = !allB (fun j => !p (i + j)) k := by
  intro k
  induction k with
  | zero => intro i; simp [firstI, allB]
  | succ k ih =>
    intro i
    rw [allB_front (fun j => !p j) k i, firstI]
    cases h : p i
    · simpa using ih (i + 1)
    · simp
theorem memB_all (z : Nat → Int) (n : Nat) (M : Nat → Mem) (i : Nat) : memB z n M i = allB (fun j => hasB z n ((M i).z j)) (M i).n := by
  unfold memB
  rw [firstI_all]
  simp [notI]

abbrev OM (nm : ByteArray) (A : Option Addr) (n c : Nat) : Obj := Obj.cells #[Value.string nm, Value.slice A n c] 47
theorem bel_one (w : World) (o : Obj) : Below w.heap.size w (w.alloc o) := (Below.refl _ _).alloc (Nat.le_refl _) _

end Go.Proofs.YtopckpjhdbjmbaaDoor.Ld
