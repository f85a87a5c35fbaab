/-
  No cell of these rows narrows 'for every input' (looked for: loops, veiled, ifaces, maps, wideKeys, modest, calm, conditions, laid).
  DERIVED. THE GIVEN ROWS OF THIS SEAT. 8 by the template 'for every input the law returns true; each argument reads behind the call as it read before'; 0 by the template 'total and deterministic' (their statements: YthmaobmgogmaoaaTotals.lean).
  GIVEN WITH THE SEED: the statements are not yours to turn. If you find one false, say at which input.
  Laid BY PROGRAM, IN A SANDBOX (cutbox-rows.mjs): the forced cells as the released guide's own fill.sh prints them over the translation e7714b62212c927e… (all of the seat's roots in one cut). By AI agents, Wed Nov 11 2026. No macro, syntax, notation, axiom, sorry.
-/
import Derived.Test.YthmaobmgogmaoaaChecked
import GoSem.Claim
import GoSem.ClaimJoined
import GoSem.ClaimMapViews
import Derived.JoinedTies
import Derived.KernelRfl
namespace Go.Proofs.Ythmaobmgogmaoaa
/- THE CELL 'sum', in the pinned program and in every row, IS THE sha256 OF THE DUMP (.gsa) THAT YthmaobmgogmaoaaProg.lean LOADS. Nothing in Lean hashes anything: it is a label: what it is worth is what the hold of that sum in a sandbox is worth. -/
noncomputable def Try.pinned : Pinned := { name := "ythmaobmgogmaoaa", sum := "e7714b62212c927ed921f53bfa1bca0941fbf1003d40c2488c99a0ffb13258a9", checked := Try.checked }
namespace Rows
def none {H : Type} : Left H := { results := [], args := [] }

/-- 'isinglasslaw19.StarBound': WHATEVER THE INPUT: true; the input reads as it did. -/
def starBoundSpec : ChangeSpec := { name := "starBound", fn := fun _ => fun
  | [d1, d2, d3, d4] => { results := [.lit (.bool true)], args := [d1, d2, d3, d4] }
  | _ => none }
def starBoundRow : OpenClaim := { program := "ythmaobmgogmaoaa", sum := "e7714b62212c927ed921f53bfa1bca0941fbf1003d40c2488c99a0ffb13258a9", func := "isinglass/isinglasslaw19.StarBound", spec := "starBound", unfollowed := true, recurses := true, apart := false }
def StarBoundSaid : Prop := starBoundRow.holds Try.pinned (OpenSpec.ofChange starBoundSpec)

/-- ITS FALSE NEIGHBOUR: 'it returns false'. Refute it at one input. -/
def starBoundWrong : ChangeSpec := { name := "starBound", fn := fun _ => fun
  | [d1, d2, d3, d4] => { results := [.lit (.bool false)], args := [d1, d2, d3, d4] }
  | _ => none }
def StarBoundWrongFalsely : Prop := starBoundRow.holds Try.pinned (OpenSpec.ofChange starBoundWrong)

/-- 'isinglasslaw19.StarNodes': WHATEVER THE INPUT: true; the input reads as it did. -/
def starNodesSpec : ChangeSpec := { name := "starNodes", fn := fun _ => fun
  | [d1, d2, d3, d4] => { results := [.lit (.bool true)], args := [d1, d2, d3, d4] }
  | _ => none }
def starNodesRow : OpenClaim := { program := "ythmaobmgogmaoaa", sum := "e7714b62212c927ed921f53bfa1bca0941fbf1003d40c2488c99a0ffb13258a9", func := "isinglass/isinglasslaw19.StarNodes", spec := "starNodes", unfollowed := true, recurses := true, apart := false }
def StarNodesSaid : Prop := starNodesRow.holds Try.pinned (OpenSpec.ofChange starNodesSpec)

/-- ITS FALSE NEIGHBOUR: 'it returns false'. Refute it at one input. -/
def starNodesWrong : ChangeSpec := { name := "starNodes", fn := fun _ => fun
  | [d1, d2, d3, d4] => { results := [.lit (.bool false)], args := [d1, d2, d3, d4] }
  | _ => none }
def StarNodesWrongFalsely : Prop := starNodesRow.holds Try.pinned (OpenSpec.ofChange starNodesWrong)

/-- 'isinglasslaw19.StarOrder': WHATEVER THE INPUT: true; the input reads as it did. -/
def starOrderSpec : ChangeSpec := { name := "starOrder", fn := fun _ => fun
  | [d1, d2, d3, d4] => { results := [.lit (.bool true)], args := [d1, d2, d3, d4] }
  | _ => none }
def starOrderRow : OpenClaim := { program := "ythmaobmgogmaoaa", sum := "e7714b62212c927ed921f53bfa1bca0941fbf1003d40c2488c99a0ffb13258a9", func := "isinglass/isinglasslaw19.StarOrder", spec := "starOrder", unfollowed := true, recurses := true, apart := false }
def StarOrderSaid : Prop := starOrderRow.holds Try.pinned (OpenSpec.ofChange starOrderSpec)

/-- ITS FALSE NEIGHBOUR: 'it returns false'. Refute it at one input. -/
def starOrderWrong : ChangeSpec := { name := "starOrder", fn := fun _ => fun
  | [d1, d2, d3, d4] => { results := [.lit (.bool false)], args := [d1, d2, d3, d4] }
  | _ => none }
def StarOrderWrongFalsely : Prop := starOrderRow.holds Try.pinned (OpenSpec.ofChange starOrderWrong)

/-- 'isinglasslaw19.StarDoes': WHATEVER THE INPUT: true; the input reads as it did. -/
def starDoesSpec : ChangeSpec := { name := "starDoes", fn := fun _ => fun
  | [d1, d2, d3, d4] => { results := [.lit (.bool true)], args := [d1, d2, d3, d4] }
  | _ => none }
def starDoesRow : OpenClaim := { program := "ythmaobmgogmaoaa", sum := "e7714b62212c927ed921f53bfa1bca0941fbf1003d40c2488c99a0ffb13258a9", func := "isinglass/isinglasslaw19.StarDoes", spec := "starDoes", unfollowed := true, recurses := true, apart := false }
def StarDoesSaid : Prop := starDoesRow.holds Try.pinned (OpenSpec.ofChange starDoesSpec)

/-- ITS FALSE NEIGHBOUR: 'it returns false'. Refute it at one input. -/
def starDoesWrong : ChangeSpec := { name := "starDoes", fn := fun _ => fun
  | [d1, d2, d3, d4] => { results := [.lit (.bool false)], args := [d1, d2, d3, d4] }
  | _ => none }
def StarDoesWrongFalsely : Prop := starDoesRow.holds Try.pinned (OpenSpec.ofChange starDoesWrong)

/-- 'isinglasslaw19.StarNone': WHATEVER THE INPUT: true; the input reads as it did. -/
def starNoneSpec : ChangeSpec := { name := "starNone", fn := fun _ => fun
  | [d] => { results := [.lit (.bool true)], args := [d] }
  | _ => none }
def starNoneRow : OpenClaim := { program := "ythmaobmgogmaoaa", sum := "e7714b62212c927ed921f53bfa1bca0941fbf1003d40c2488c99a0ffb13258a9", func := "isinglass/isinglasslaw19.StarNone", spec := "starNone", unfollowed := true, recurses := true, apart := false }
def StarNoneSaid : Prop := starNoneRow.holds Try.pinned (OpenSpec.ofChange starNoneSpec)

/-- ITS FALSE NEIGHBOUR: 'it returns false'. Refute it at one input. -/
def starNoneWrong : ChangeSpec := { name := "starNone", fn := fun _ => fun
  | [d] => { results := [.lit (.bool false)], args := [d] }
  | _ => none }
def StarNoneWrongFalsely : Prop := starNoneRow.holds Try.pinned (OpenSpec.ofChange starNoneWrong)

/-- 'isinglasslaw20.WalkDoes': WHATEVER THE INPUT: true; the input reads as it did. -/
def walkDoesSpec : ChangeSpec := { name := "walkDoes", fn := fun _ => fun
  | [d1, d2, d3, d4, d5, d6] => { results := [.lit (.bool true)], args := [d1, d2, d3, d4, d5, d6] }
  | _ => none }
def walkDoesRow : OpenClaim := { program := "ythmaobmgogmaoaa", sum := "e7714b62212c927ed921f53bfa1bca0941fbf1003d40c2488c99a0ffb13258a9", func := "isinglass/isinglasslaw20.WalkDoes", spec := "walkDoes", unfollowed := true, recurses := true, apart := false }
def WalkDoesSaid : Prop := walkDoesRow.holds Try.pinned (OpenSpec.ofChange walkDoesSpec)

/-- ITS FALSE NEIGHBOUR: 'it returns false'. Refute it at one input. -/
def walkDoesWrong : ChangeSpec := { name := "walkDoes", fn := fun _ => fun
  | [d1, d2, d3, d4, d5, d6] => { results := [.lit (.bool false)], args := [d1, d2, d3, d4, d5, d6] }
  | _ => none }
def WalkDoesWrongFalsely : Prop := walkDoesRow.holds Try.pinned (OpenSpec.ofChange walkDoesWrong)

/-- 'isinglasslaw20.WalkRows': WHATEVER THE INPUT: true; the input reads as it did. -/
def walkRowsSpec : ChangeSpec := { name := "walkRows", fn := fun _ => fun
  | [d1, d2, d3, d4, d5, d6] => { results := [.lit (.bool true)], args := [d1, d2, d3, d4, d5, d6] }
  | _ => none }
def walkRowsRow : OpenClaim := { program := "ythmaobmgogmaoaa", sum := "e7714b62212c927ed921f53bfa1bca0941fbf1003d40c2488c99a0ffb13258a9", func := "isinglass/isinglasslaw20.WalkRows", spec := "walkRows", unfollowed := true, recurses := true, apart := false }
def WalkRowsSaid : Prop := walkRowsRow.holds Try.pinned (OpenSpec.ofChange walkRowsSpec)

/-- ITS FALSE NEIGHBOUR: 'it returns false'. Refute it at one input. -/
def walkRowsWrong : ChangeSpec := { name := "walkRows", fn := fun _ => fun
  | [d1, d2, d3, d4, d5, d6] => { results := [.lit (.bool false)], args := [d1, d2, d3, d4, d5, d6] }
  | _ => none }
def WalkRowsWrongFalsely : Prop := walkRowsRow.holds Try.pinned (OpenSpec.ofChange walkRowsWrong)

/-- 'isinglasslaw20.WalkLeaves': WHATEVER THE INPUT: true; the input reads as it did. -/
def walkLeavesSpec : ChangeSpec := { name := "walkLeaves", fn := fun _ => fun
  | [d1, d2, d3, d4, d5, d6, d7] => { results := [.lit (.bool true)], args := [d1, d2, d3, d4, d5, d6, d7] }
  | _ => none }
def walkLeavesRow : OpenClaim := { program := "ythmaobmgogmaoaa", sum := "e7714b62212c927ed921f53bfa1bca0941fbf1003d40c2488c99a0ffb13258a9", func := "isinglass/isinglasslaw20.WalkLeaves", spec := "walkLeaves", unfollowed := true, recurses := true, apart := false }
def WalkLeavesSaid : Prop := walkLeavesRow.holds Try.pinned (OpenSpec.ofChange walkLeavesSpec)

/-- ITS FALSE NEIGHBOUR: 'it returns false'. Refute it at one input. -/
def walkLeavesWrong : ChangeSpec := { name := "walkLeaves", fn := fun _ => fun
  | [d1, d2, d3, d4, d5, d6, d7] => { results := [.lit (.bool false)], args := [d1, d2, d3, d4, d5, d6, d7] }
  | _ => none }
def WalkLeavesWrongFalsely : Prop := walkLeavesRow.holds Try.pinned (OpenSpec.ofChange walkLeavesWrong)

/- THE SECOND FORM. 'bulk': how many values and letters a reading holds, each counted each time it is reached (what is shared counts as often as it is met; a slice's spare places count too). A statement '..UptoSaid' is the law's where the arguments, and the package variables that the reading takes, are together of bulk at most 1048576: NARROWER than '..Said'. Prove '..Said' where nothing that the law and all that it calls make is longer than what came in: it says more and counts as full. Else prove '..UptoSaid'. A law counts once. -/
mutual
def uptoBulk {H : Type} : DataW H → Nat
  | .lit (.string bytes) => bytes.length + 1
  | .lit _ => 1
  | .nil => 1
  | .ptr d => uptoBulk d + 1
  | .slice elems spare => uptoBulkAll elems + uptoBulkAll spare + 1
  | .agg parts => uptoBulkAll parts + 1
  | .iface _ d => uptoBulk d + 1
  | .map entries => uptoBulkEntries entries + 1
  | .held _ => 1
def uptoBulkAll {H : Type} : List (DataW H) → Nat
  | [] => 0
  | d :: r => uptoBulk d + uptoBulkAll r
def uptoBulkEntries {H : Type} : List (Lit × DataW H) → Nat
  | [] => 0
  | x :: r => uptoBulkEntry x + uptoBulkEntries r
def uptoBulkEntry {H : Type} : Lit × DataW H → Nat
  | (.string bytes, d) => bytes.length + uptoBulk d + 1
  | (_, d) => uptoBulk d + 1
 end
def uptoSmall : (H : Type) → List (DataW H) → Bool := fun _ ds => decide (uptoBulkAll ds ≤ 1048576)
def OpenSpec.upto (s : _root_.Go.ChangeSpec) : _root_.Go.OpenSpec := { _root_.Go.OpenSpec.ofChange s with cond := some uptoSmall }

/-- 'isinglasslaw19.StarBound', WHERE WHAT IT READS IS OF BULK AT MOST 1048576: true; the input reads as it did. -/
def starBoundUptoRow : OpenClaim := { program := "ythmaobmgogmaoaa", sum := "e7714b62212c927ed921f53bfa1bca0941fbf1003d40c2488c99a0ffb13258a9", func := "isinglass/isinglasslaw19.StarBound", spec := "starBound", unfollowed := true, recurses := true, apart := false, narrowed := true }
def StarBoundUptoSaid : Prop := starBoundUptoRow.holds Try.pinned (OpenSpec.upto starBoundSpec)

/-- 'isinglasslaw19.StarNodes', WHERE WHAT IT READS IS OF BULK AT MOST 1048576: true; the input reads as it did. -/
def starNodesUptoRow : OpenClaim := { program := "ythmaobmgogmaoaa", sum := "e7714b62212c927ed921f53bfa1bca0941fbf1003d40c2488c99a0ffb13258a9", func := "isinglass/isinglasslaw19.StarNodes", spec := "starNodes", unfollowed := true, recurses := true, apart := false, narrowed := true }
def StarNodesUptoSaid : Prop := starNodesUptoRow.holds Try.pinned (OpenSpec.upto starNodesSpec)

/-- 'isinglasslaw19.StarOrder', WHERE WHAT IT READS IS OF BULK AT MOST 1048576: true; the input reads as it did. -/
def starOrderUptoRow : OpenClaim := { program := "ythmaobmgogmaoaa", sum := "e7714b62212c927ed921f53bfa1bca0941fbf1003d40c2488c99a0ffb13258a9", func := "isinglass/isinglasslaw19.StarOrder", spec := "starOrder", unfollowed := true, recurses := true, apart := false, narrowed := true }
def StarOrderUptoSaid : Prop := starOrderUptoRow.holds Try.pinned (OpenSpec.upto starOrderSpec)

/-- 'isinglasslaw19.StarDoes', WHERE WHAT IT READS IS OF BULK AT MOST 1048576: true; the input reads as it did. -/
def starDoesUptoRow : OpenClaim := { program := "ythmaobmgogmaoaa", sum := "e7714b62212c927ed921f53bfa1bca0941fbf1003d40c2488c99a0ffb13258a9", func := "isinglass/isinglasslaw19.StarDoes", spec := "starDoes", unfollowed := true, recurses := true, apart := false, narrowed := true }
def StarDoesUptoSaid : Prop := starDoesUptoRow.holds Try.pinned (OpenSpec.upto starDoesSpec)

/-- 'isinglasslaw19.StarNone', WHERE WHAT IT READS IS OF BULK AT MOST 1048576: true; the input reads as it did. -/
def starNoneUptoRow : OpenClaim := { program := "ythmaobmgogmaoaa", sum := "e7714b62212c927ed921f53bfa1bca0941fbf1003d40c2488c99a0ffb13258a9", func := "isinglass/isinglasslaw19.StarNone", spec := "starNone", unfollowed := true, recurses := true, apart := false, narrowed := true }
def StarNoneUptoSaid : Prop := starNoneUptoRow.holds Try.pinned (OpenSpec.upto starNoneSpec)

/-- 'isinglasslaw20.WalkDoes', WHERE WHAT IT READS IS OF BULK AT MOST 1048576: true; the input reads as it did. -/
def walkDoesUptoRow : OpenClaim := { program := "ythmaobmgogmaoaa", sum := "e7714b62212c927ed921f53bfa1bca0941fbf1003d40c2488c99a0ffb13258a9", func := "isinglass/isinglasslaw20.WalkDoes", spec := "walkDoes", unfollowed := true, recurses := true, apart := false, narrowed := true }
def WalkDoesUptoSaid : Prop := walkDoesUptoRow.holds Try.pinned (OpenSpec.upto walkDoesSpec)

/-- 'isinglasslaw20.WalkRows', WHERE WHAT IT READS IS OF BULK AT MOST 1048576: true; the input reads as it did. -/
def walkRowsUptoRow : OpenClaim := { program := "ythmaobmgogmaoaa", sum := "e7714b62212c927ed921f53bfa1bca0941fbf1003d40c2488c99a0ffb13258a9", func := "isinglass/isinglasslaw20.WalkRows", spec := "walkRows", unfollowed := true, recurses := true, apart := false, narrowed := true }
def WalkRowsUptoSaid : Prop := walkRowsUptoRow.holds Try.pinned (OpenSpec.upto walkRowsSpec)

/-- 'isinglasslaw20.WalkLeaves', WHERE WHAT IT READS IS OF BULK AT MOST 1048576: true; the input reads as it did. -/
def walkLeavesUptoRow : OpenClaim := { program := "ythmaobmgogmaoaa", sum := "e7714b62212c927ed921f53bfa1bca0941fbf1003d40c2488c99a0ffb13258a9", func := "isinglass/isinglasslaw20.WalkLeaves", spec := "walkLeaves", unfollowed := true, recurses := true, apart := false, narrowed := true }
def WalkLeavesUptoSaid : Prop := walkLeavesUptoRow.holds Try.pinned (OpenSpec.upto walkLeavesSpec)

end Rows
end Go.Proofs.Ythmaobmgogmaoaa
