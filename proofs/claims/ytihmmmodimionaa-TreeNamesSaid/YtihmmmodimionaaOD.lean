/- What lex.Tokens hands back, as a word on memory. -/
import Derived.Test.YtihmmmodimionaaA
import Derived.Test.YtihmmmodimionaaO
import Derived.Test.YtihmmmodimionaaQ
namespace Go.Proofs.Ytihmmmodimionaa.Lx
open Go.RowKit

theorem infoTok : (Try.prog.info? 34).map (fun i => (i.zero, i.size, i.bytes)) = some (some (.agg #[.int .u8 0, .string { data := #[] }, .int .i64 0, .int .i64 0]), 4, 40) := by kernel_rfl

structure BTok where
  k : Int
  b : ByteArray
  l : Int
  c : Int
def BTok.tok (x : BTok) : Tok := ⟨x.k, T x.b, x.l, x.c⟩
def BTok.cells (x : BTok) : List Value := [.int .u8 x.k, .string x.b, .int .i64 x.l, .int .i64 x.c]
theorem flat_len (bs : List BTok) : (bs.flatMap BTok.cells).length = bs.length * 4 := by
  induction bs with
  | nil => rfl
  | cons x xs ih => simp [List.flatMap_cons, BTok.cells, ih]; omega

/-- what lex.Tokens hands back: the tokens in a row of its own, the place and the error -/
def TokOut (ts : List Tok) (p : Int × Int × Int) (w : World) (e : Ending) (w' : World) : Prop :=
  ∃ (v : Value) (bs : List BTok), bs.map BTok.tok = ts ∧ e = .returned (.tuple #[v, .agg #[.int .i64 p.1, .int .i64 p.2.1], .int .i64 p.2.2]) ∧ w'.ownsRow w.heap.size 34 4 v bs.length (bs.flatMap BTok.cells) ∧ Below w.heap.size w w' ∧ bs.length ≤ 65536
end Go.Proofs.Ytihmmmodimionaa.Lx
