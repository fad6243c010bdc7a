/- slices.Clone at []api.Pos (the Shelf's theorem, laid by hand). -/
import Derived.Test.YtihmmmodimionaaShelf
import Derived.Test.YtihmmmodimionaaBase
namespace Go.Proofs
open Go.Shelf
def Try.laysClonePos_ren : Go.Shelf.Ren := ⟨fun | 41 => 69 | n => n, fun | 22 => 42 | 23 => 24 | 4 => 4 | n => n, fun | n => n⟩
theorem Try.laysClonePos : Go.Proofs.SlLaysE0.n41 Try.prog Try.laysClonePos_ren := {
  mixed := by kernel_rfl
  f41 := ⟨Try.f69.name, by decide, Try.func69.trans (congrArg some (by kernel_rfl))⟩
  t4 := Try.underlying4
  a4 := Try.isAgg4
  z4 := Try.sizeOf4
  v4 := Try.zeroValue4
  t22 := Try.underlying42
  a22 := Try.isAgg42
  z22 := Try.sizeOf42
  v22 := Try.zeroValue42 }
end Go.Proofs
