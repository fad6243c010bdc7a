/-
  No cell of these rows narrows 'for every input' (looked for: loops, veiled, ifaces, maps, wideKeys, modest, calm, conditions, laid).
  DERIVED. THE GIVEN ROWS OF THIS SEAT. 4 by the template 'for every input the law returns true; each argument reads behind the call as it read before'; 0 by the template 'total and deterministic' (their statements: YtgfjdkkfgclhjaaTotals.lean).
  GIVEN WITH THE SEED: the statements are not yours to turn. If you find one false, say at which input.
  Laid BY PROGRAM, IN A SANDBOX (cutbox-rows.mjs): the forced cells as the released guide's own fill.sh prints them over the translation 0577a758adb36093… (all of the seat's roots in one cut). By AI agents, Wed Nov 11 2026. No macro, syntax, notation, axiom, sorry.
-/
import Derived.Test.YtgfjdkkfgclhjaaChecked
import GoSem.Claim
import GoSem.ClaimJoined
import GoSem.ClaimMapViews
import Derived.JoinedTies
import Derived.KernelRfl
namespace Go.Proofs.Ytgfjdkkfgclhjaa
/- THE CELL 'sum', in the pinned program and in every row, IS THE sha256 OF THE DUMP (.gsa) THAT YtgfjdkkfgclhjaaProg.lean LOADS. Nothing in Lean hashes anything: it is a label: what it is worth is what the hold of that sum in a sandbox is worth. -/
noncomputable def Try.pinned : Pinned := { name := "ytgfjdkkfgclhjaa", sum := "0577a758adb3609366cb0d748f56e2d4adbc0e0de474a8094e4eec4779ca2b39", checked := Try.checked }
namespace Rows
def none {H : Type} : Left H := { results := [], args := [] }

/-- 'waymarklaw05.BddCounts': WHATEVER THE INPUT: true; the input reads as it did. -/
def bddCountsSpec : ChangeSpec := { name := "bddCounts", fn := fun _ => fun
  | [d1, d2] => { results := [.lit (.bool true)], args := [d1, d2] }
  | _ => none }
def bddCountsRow : OpenClaim := { program := "ytgfjdkkfgclhjaa", sum := "0577a758adb3609366cb0d748f56e2d4adbc0e0de474a8094e4eec4779ca2b39", func := "waymark/waymarklaw05.BddCounts", spec := "bddCounts", inPlace := ["math/bits.Add64"], unfollowed := true, recurses := true, plainKeys := false, apart := false }
def BddCountsSaid : Prop := bddCountsRow.holds Try.pinned (OpenSpec.ofChange bddCountsSpec)

/-- ITS FALSE NEIGHBOUR: 'it returns false'. Refute it at one input. -/
def bddCountsWrong : ChangeSpec := { name := "bddCounts", fn := fun _ => fun
  | [d1, d2] => { results := [.lit (.bool false)], args := [d1, d2] }
  | _ => none }
def BddCountsWrongFalsely : Prop := bddCountsRow.holds Try.pinned (OpenSpec.ofChange bddCountsWrong)

/-- 'waymarklaw05.BddRenames': WHATEVER THE INPUT: true; the input reads as it did. -/
def bddRenamesSpec : ChangeSpec := { name := "bddRenames", fn := fun _ => fun
  | [d1, d2, d3, d4] => { results := [.lit (.bool true)], args := [d1, d2, d3, d4] }
  | _ => none }
def bddRenamesRow : OpenClaim := { program := "ytgfjdkkfgclhjaa", sum := "0577a758adb3609366cb0d748f56e2d4adbc0e0de474a8094e4eec4779ca2b39", func := "waymark/waymarklaw05.BddRenames", spec := "bddRenames", inPlace := ["math/bits.Add64"], unfollowed := true, recurses := true, plainKeys := false, apart := false }
def BddRenamesSaid : Prop := bddRenamesRow.holds Try.pinned (OpenSpec.ofChange bddRenamesSpec)

/-- ITS FALSE NEIGHBOUR: 'it returns false'. Refute it at one input. -/
def bddRenamesWrong : ChangeSpec := { name := "bddRenames", fn := fun _ => fun
  | [d1, d2, d3, d4] => { results := [.lit (.bool false)], args := [d1, d2, d3, d4] }
  | _ => none }
def BddRenamesWrongFalsely : Prop := bddRenamesRow.holds Try.pinned (OpenSpec.ofChange bddRenamesWrong)

/-- 'waymarklaw05.BddNames': WHATEVER THE INPUT: true; the input reads as it did. -/
def bddNamesSpec : ChangeSpec := { name := "bddNames", fn := fun _ => fun
  | [] => { results := [.lit (.bool true)], args := [] }
  | _ => none }
def bddNamesRow : OpenClaim := { program := "ytgfjdkkfgclhjaa", sum := "0577a758adb3609366cb0d748f56e2d4adbc0e0de474a8094e4eec4779ca2b39", func := "waymark/waymarklaw05.BddNames", spec := "bddNames", inPlace := ["math/bits.Add64"], unfollowed := true, recurses := true, plainKeys := false, apart := false }
def BddNamesSaid : Prop := bddNamesRow.holds Try.pinned (OpenSpec.ofChange bddNamesSpec)

/-- ITS FALSE NEIGHBOUR: 'it returns false'. Refute it at one input. -/
def bddNamesWrong : ChangeSpec := { name := "bddNames", fn := fun _ => fun
  | [] => { results := [.lit (.bool false)], args := [] }
  | _ => none }
def BddNamesWrongFalsely : Prop := bddNamesRow.holds Try.pinned (OpenSpec.ofChange bddNamesWrong)

/-- 'waymarklaw05.BddSplits': WHATEVER THE INPUT: true; the input reads as it did. -/
def bddSplitsSpec : ChangeSpec := { name := "bddSplits", fn := fun _ => fun
  | [d1, d2, d3] => { results := [.lit (.bool true)], args := [d1, d2, d3] }
  | _ => none }
def bddSplitsRow : OpenClaim := { program := "ytgfjdkkfgclhjaa", sum := "0577a758adb3609366cb0d748f56e2d4adbc0e0de474a8094e4eec4779ca2b39", func := "waymark/waymarklaw05.BddSplits", spec := "bddSplits", inPlace := ["math/bits.Add64"], unfollowed := true, recurses := true, plainKeys := false, apart := false }
def BddSplitsSaid : Prop := bddSplitsRow.holds Try.pinned (OpenSpec.ofChange bddSplitsSpec)

/-- ITS FALSE NEIGHBOUR: 'it returns false'. Refute it at one input. -/
def bddSplitsWrong : ChangeSpec := { name := "bddSplits", fn := fun _ => fun
  | [d1, d2, d3] => { results := [.lit (.bool false)], args := [d1, d2, d3] }
  | _ => none }
def BddSplitsWrongFalsely : Prop := bddSplitsRow.holds Try.pinned (OpenSpec.ofChange bddSplitsWrong)

/- THE SECOND FORM. 'bulk': how many values and letters a reading holds, each counted each time it is reached (what is shared counts as often as it is met; a slice's spare places count too). A statement '..UptoSaid' is the law's where the arguments, and the package variables that the reading takes, are together of bulk at most 1048576: NARROWER than '..Said'. Prove '..Said' where nothing that the law and all that it calls make is longer than what came in: it says more and counts as full. Else prove '..UptoSaid'. A law counts once. -/
mutual
def uptoBulk {H : Type} : DataW H → Nat
  | .lit (.string bytes) => bytes.length + 1
  | .lit _ => 1
  | .nil => 1
  | .ptr d => uptoBulk d + 1
  | .slice elems spare => uptoBulkAll elems + uptoBulkAll spare + 1
  | .agg parts => uptoBulkAll parts + 1
  | .iface _ d => uptoBulk d + 1
  | .map entries => uptoBulkEntries entries + 1
  | .held _ => 1
def uptoBulkAll {H : Type} : List (DataW H) → Nat
  | [] => 0
  | d :: r => uptoBulk d + uptoBulkAll r
def uptoBulkEntries {H : Type} : List (Lit × DataW H) → Nat
  | [] => 0
  | x :: r => uptoBulkEntry x + uptoBulkEntries r
def uptoBulkEntry {H : Type} : Lit × DataW H → Nat
  | (.string bytes, d) => bytes.length + uptoBulk d + 1
  | (_, d) => uptoBulk d + 1
 end
def uptoSmall : (H : Type) → List (DataW H) → Bool := fun _ ds => decide (uptoBulkAll ds ≤ 1048576)
def OpenSpec.upto (s : _root_.Go.ChangeSpec) : _root_.Go.OpenSpec := { _root_.Go.OpenSpec.ofChange s with cond := some uptoSmall }

/-- 'waymarklaw05.BddCounts', WHERE WHAT IT READS IS OF BULK AT MOST 1048576: true; the input reads as it did. -/
def bddCountsUptoRow : OpenClaim := { program := "ytgfjdkkfgclhjaa", sum := "0577a758adb3609366cb0d748f56e2d4adbc0e0de474a8094e4eec4779ca2b39", func := "waymark/waymarklaw05.BddCounts", spec := "bddCounts", inPlace := ["math/bits.Add64"], unfollowed := true, recurses := true, plainKeys := false, apart := false, narrowed := true }
def BddCountsUptoSaid : Prop := bddCountsUptoRow.holds Try.pinned (OpenSpec.upto bddCountsSpec)

/-- 'waymarklaw05.BddRenames', WHERE WHAT IT READS IS OF BULK AT MOST 1048576: true; the input reads as it did. -/
def bddRenamesUptoRow : OpenClaim := { program := "ytgfjdkkfgclhjaa", sum := "0577a758adb3609366cb0d748f56e2d4adbc0e0de474a8094e4eec4779ca2b39", func := "waymark/waymarklaw05.BddRenames", spec := "bddRenames", inPlace := ["math/bits.Add64"], unfollowed := true, recurses := true, plainKeys := false, apart := false, narrowed := true }
def BddRenamesUptoSaid : Prop := bddRenamesUptoRow.holds Try.pinned (OpenSpec.upto bddRenamesSpec)

/-- 'waymarklaw05.BddNames', WHERE WHAT IT READS IS OF BULK AT MOST 1048576: true; the input reads as it did. -/
def bddNamesUptoRow : OpenClaim := { program := "ytgfjdkkfgclhjaa", sum := "0577a758adb3609366cb0d748f56e2d4adbc0e0de474a8094e4eec4779ca2b39", func := "waymark/waymarklaw05.BddNames", spec := "bddNames", inPlace := ["math/bits.Add64"], unfollowed := true, recurses := true, plainKeys := false, apart := false, narrowed := true }
def BddNamesUptoSaid : Prop := bddNamesUptoRow.holds Try.pinned (OpenSpec.upto bddNamesSpec)

/-- 'waymarklaw05.BddSplits', WHERE WHAT IT READS IS OF BULK AT MOST 1048576: true; the input reads as it did. -/
def bddSplitsUptoRow : OpenClaim := { program := "ytgfjdkkfgclhjaa", sum := "0577a758adb3609366cb0d748f56e2d4adbc0e0de474a8094e4eec4779ca2b39", func := "waymark/waymarklaw05.BddSplits", spec := "bddSplits", inPlace := ["math/bits.Add64"], unfollowed := true, recurses := true, plainKeys := false, apart := false, narrowed := true }
def BddSplitsUptoSaid : Prop := bddSplitsUptoRow.holds Try.pinned (OpenSpec.upto bddSplitsSpec)

end Rows
end Go.Proofs.Ytgfjdkkfgclhjaa
