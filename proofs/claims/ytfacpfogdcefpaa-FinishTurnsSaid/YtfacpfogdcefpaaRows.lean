/-
  No cell of these rows narrows 'for every input' (looked for: loops, veiled, ifaces, maps, wideKeys, modest, calm, conditions, laid).
  DERIVED. THE GIVEN ROWS OF THIS SEAT. 6 by the template 'for every input the law returns true; each argument reads behind the call as it read before'; 0 by the template 'total and deterministic' (their statements: YtfacpfogdcefpaaTotals.lean).
  GIVEN WITH THE SEED: the statements are not yours to turn. If you find one false, say at which input.
  Laid BY PROGRAM, IN A SANDBOX (cutbox-rows.mjs): the forced cells as the released guide's own fill.sh prints them over the translation 3a656361b1ee2e92… (all of the seat's roots in one cut). By AI agents, Wed Nov 11 2026. No macro, syntax, notation, axiom, sorry.
-/
import Derived.Test.YtfacpfogdcefpaaChecked
import GoSem.Claim
import GoSem.ClaimJoined
import GoSem.ClaimMapViews
import Derived.JoinedTies
import Derived.KernelRfl
namespace Go.Proofs.Ytfacpfogdcefpaa
/- THE CELL 'sum', in the pinned program and in every row, IS THE sha256 OF THE DUMP (.gsa) THAT YtfacpfogdcefpaaProg.lean LOADS. Nothing in Lean hashes anything: it is a label: what it is worth is what the hold of that sum in a sandbox is worth. -/
noncomputable def Try.pinned : Pinned := { name := "ytfacpfogdcefpaa", sum := "3a656361b1ee2e92342b667d65273c252632bc0cdd0fdc098e3995c0c2366a91", checked := Try.checked }
namespace Rows
def none {H : Type} : Left H := { results := [], args := [] }

/-- 'isinglasslaw18.TableSorts': WHATEVER THE INPUT: true; the input reads as it did. -/
def tableSortsSpec : ChangeSpec := { name := "tableSorts", fn := fun _ => fun
  | [d1, d2, d3] => { results := [.lit (.bool true)], args := [d1, d2, d3] }
  | _ => none }
def tableSortsRow : OpenClaim := { program := "ytfacpfogdcefpaa", sum := "3a656361b1ee2e92342b667d65273c252632bc0cdd0fdc098e3995c0c2366a91", func := "isinglass/isinglasslaw18.TableSorts", spec := "tableSorts", unfollowed := true, recurses := true, apart := false }
def TableSortsSaid : Prop := tableSortsRow.holds Try.pinned (OpenSpec.ofChange tableSortsSpec)

/-- ITS FALSE NEIGHBOUR: 'it returns false'. Refute it at one input. -/
def tableSortsWrong : ChangeSpec := { name := "tableSorts", fn := fun _ => fun
  | [d1, d2, d3] => { results := [.lit (.bool false)], args := [d1, d2, d3] }
  | _ => none }
def TableSortsWrongFalsely : Prop := tableSortsRow.holds Try.pinned (OpenSpec.ofChange tableSortsWrong)

/-- 'isinglasslaw18.TableJoins': WHATEVER THE INPUT: true; the input reads as it did. -/
def tableJoinsSpec : ChangeSpec := { name := "tableJoins", fn := fun _ => fun
  | [d1, d2, d3] => { results := [.lit (.bool true)], args := [d1, d2, d3] }
  | _ => none }
def tableJoinsRow : OpenClaim := { program := "ytfacpfogdcefpaa", sum := "3a656361b1ee2e92342b667d65273c252632bc0cdd0fdc098e3995c0c2366a91", func := "isinglass/isinglasslaw18.TableJoins", spec := "tableJoins", unfollowed := true, recurses := true, apart := false }
def TableJoinsSaid : Prop := tableJoinsRow.holds Try.pinned (OpenSpec.ofChange tableJoinsSpec)

/-- ITS FALSE NEIGHBOUR: 'it returns false'. Refute it at one input. -/
def tableJoinsWrong : ChangeSpec := { name := "tableJoins", fn := fun _ => fun
  | [d1, d2, d3] => { results := [.lit (.bool false)], args := [d1, d2, d3] }
  | _ => none }
def TableJoinsWrongFalsely : Prop := tableJoinsRow.holds Try.pinned (OpenSpec.ofChange tableJoinsWrong)

/-- 'isinglasslaw18.TableStable': WHATEVER THE INPUT: true; the input reads as it did. -/
def tableStableSpec : ChangeSpec := { name := "tableStable", fn := fun _ => fun
  | [d1, d2, d3] => { results := [.lit (.bool true)], args := [d1, d2, d3] }
  | _ => none }
def tableStableRow : OpenClaim := { program := "ytfacpfogdcefpaa", sum := "3a656361b1ee2e92342b667d65273c252632bc0cdd0fdc098e3995c0c2366a91", func := "isinglass/isinglasslaw18.TableStable", spec := "tableStable", unfollowed := true, recurses := true, apart := false }
def TableStableSaid : Prop := tableStableRow.holds Try.pinned (OpenSpec.ofChange tableStableSpec)

/-- ITS FALSE NEIGHBOUR: 'it returns false'. Refute it at one input. -/
def tableStableWrong : ChangeSpec := { name := "tableStable", fn := fun _ => fun
  | [d1, d2, d3] => { results := [.lit (.bool false)], args := [d1, d2, d3] }
  | _ => none }
def TableStableWrongFalsely : Prop := tableStableRow.holds Try.pinned (OpenSpec.ofChange tableStableWrong)

/-- 'isinglasslaw18.TableParts': WHATEVER THE INPUT: true; the input reads as it did. -/
def tablePartsSpec : ChangeSpec := { name := "tableParts", fn := fun _ => fun
  | [d1, d2, d3] => { results := [.lit (.bool true)], args := [d1, d2, d3] }
  | _ => none }
def tablePartsRow : OpenClaim := { program := "ytfacpfogdcefpaa", sum := "3a656361b1ee2e92342b667d65273c252632bc0cdd0fdc098e3995c0c2366a91", func := "isinglass/isinglasslaw18.TableParts", spec := "tableParts", unfollowed := true, recurses := true, apart := false }
def TablePartsSaid : Prop := tablePartsRow.holds Try.pinned (OpenSpec.ofChange tablePartsSpec)

/-- ITS FALSE NEIGHBOUR: 'it returns false'. Refute it at one input. -/
def tablePartsWrong : ChangeSpec := { name := "tableParts", fn := fun _ => fun
  | [d1, d2, d3] => { results := [.lit (.bool false)], args := [d1, d2, d3] }
  | _ => none }
def TablePartsWrongFalsely : Prop := tablePartsRow.holds Try.pinned (OpenSpec.ofChange tablePartsWrong)

/-- 'isinglasslaw27.FinishCompares': WHATEVER THE INPUT: true; the input reads as it did. -/
def finishComparesSpec : ChangeSpec := { name := "finishCompares", fn := fun _ => fun
  | [d1, d2, d3, d4] => { results := [.lit (.bool true)], args := [d1, d2, d3, d4] }
  | _ => none }
def finishComparesRow : OpenClaim := { program := "ytfacpfogdcefpaa", sum := "3a656361b1ee2e92342b667d65273c252632bc0cdd0fdc098e3995c0c2366a91", func := "isinglass/isinglasslaw27.FinishCompares", spec := "finishCompares", unfollowed := true, recurses := true, apart := false }
def FinishComparesSaid : Prop := finishComparesRow.holds Try.pinned (OpenSpec.ofChange finishComparesSpec)

/-- ITS FALSE NEIGHBOUR: 'it returns false'. Refute it at one input. -/
def finishComparesWrong : ChangeSpec := { name := "finishCompares", fn := fun _ => fun
  | [d1, d2, d3, d4] => { results := [.lit (.bool false)], args := [d1, d2, d3, d4] }
  | _ => none }
def FinishComparesWrongFalsely : Prop := finishComparesRow.holds Try.pinned (OpenSpec.ofChange finishComparesWrong)

/-- 'isinglasslaw27.FinishTurns': WHATEVER THE INPUT: true; the input reads as it did. -/
def finishTurnsSpec : ChangeSpec := { name := "finishTurns", fn := fun _ => fun
  | [d1, d2, d3] => { results := [.lit (.bool true)], args := [d1, d2, d3] }
  | _ => none }
def finishTurnsRow : OpenClaim := { program := "ytfacpfogdcefpaa", sum := "3a656361b1ee2e92342b667d65273c252632bc0cdd0fdc098e3995c0c2366a91", func := "isinglass/isinglasslaw27.FinishTurns", spec := "finishTurns", unfollowed := true, recurses := true, apart := false }
def FinishTurnsSaid : Prop := finishTurnsRow.holds Try.pinned (OpenSpec.ofChange finishTurnsSpec)

/-- ITS FALSE NEIGHBOUR: 'it returns false'. Refute it at one input. -/
def finishTurnsWrong : ChangeSpec := { name := "finishTurns", fn := fun _ => fun
  | [d1, d2, d3] => { results := [.lit (.bool false)], args := [d1, d2, d3] }
  | _ => none }
def FinishTurnsWrongFalsely : Prop := finishTurnsRow.holds Try.pinned (OpenSpec.ofChange finishTurnsWrong)

/- THE SECOND FORM. 'bulk': how many values and letters a reading holds, each counted each time it is reached (what is shared counts as often as it is met; a slice's spare places count too). A statement '..UptoSaid' is the law's where the arguments, and the package variables that the reading takes, are together of bulk at most 1048576: NARROWER than '..Said'. Prove '..Said' where nothing that the law and all that it calls make is longer than what came in: it says more and counts as full. Else prove '..UptoSaid'. A law counts once. -/
mutual
def uptoBulk {H : Type} : DataW H → Nat
  | .lit (.string bytes) => bytes.length + 1
  | .lit _ => 1
  | .nil => 1
  | .ptr d => uptoBulk d + 1
  | .slice elems spare => uptoBulkAll elems + uptoBulkAll spare + 1
  | .agg parts => uptoBulkAll parts + 1
  | .iface _ d => uptoBulk d + 1
  | .map entries => uptoBulkEntries entries + 1
  | .held _ => 1
def uptoBulkAll {H : Type} : List (DataW H) → Nat
  | [] => 0
  | d :: r => uptoBulk d + uptoBulkAll r
def uptoBulkEntries {H : Type} : List (Lit × DataW H) → Nat
  | [] => 0
  | x :: r => uptoBulkEntry x + uptoBulkEntries r
def uptoBulkEntry {H : Type} : Lit × DataW H → Nat
  | (.string bytes, d) => bytes.length + uptoBulk d + 1
  | (_, d) => uptoBulk d + 1
 end
def uptoSmall : (H : Type) → List (DataW H) → Bool := fun _ ds => decide (uptoBulkAll ds ≤ 1048576)
def OpenSpec.upto (s : _root_.Go.ChangeSpec) : _root_.Go.OpenSpec := { _root_.Go.OpenSpec.ofChange s with cond := some uptoSmall }

/-- 'isinglasslaw18.TableSorts', WHERE WHAT IT READS IS OF BULK AT MOST 1048576: true; the input reads as it did. -/
def tableSortsUptoRow : OpenClaim := { program := "ytfacpfogdcefpaa", sum := "3a656361b1ee2e92342b667d65273c252632bc0cdd0fdc098e3995c0c2366a91", func := "isinglass/isinglasslaw18.TableSorts", spec := "tableSorts", unfollowed := true, recurses := true, apart := false, narrowed := true }
def TableSortsUptoSaid : Prop := tableSortsUptoRow.holds Try.pinned (OpenSpec.upto tableSortsSpec)

/-- 'isinglasslaw18.TableJoins', WHERE WHAT IT READS IS OF BULK AT MOST 1048576: true; the input reads as it did. -/
def tableJoinsUptoRow : OpenClaim := { program := "ytfacpfogdcefpaa", sum := "3a656361b1ee2e92342b667d65273c252632bc0cdd0fdc098e3995c0c2366a91", func := "isinglass/isinglasslaw18.TableJoins", spec := "tableJoins", unfollowed := true, recurses := true, apart := false, narrowed := true }
def TableJoinsUptoSaid : Prop := tableJoinsUptoRow.holds Try.pinned (OpenSpec.upto tableJoinsSpec)

/-- 'isinglasslaw18.TableStable', WHERE WHAT IT READS IS OF BULK AT MOST 1048576: true; the input reads as it did. -/
def tableStableUptoRow : OpenClaim := { program := "ytfacpfogdcefpaa", sum := "3a656361b1ee2e92342b667d65273c252632bc0cdd0fdc098e3995c0c2366a91", func := "isinglass/isinglasslaw18.TableStable", spec := "tableStable", unfollowed := true, recurses := true, apart := false, narrowed := true }
def TableStableUptoSaid : Prop := tableStableUptoRow.holds Try.pinned (OpenSpec.upto tableStableSpec)

/-- 'isinglasslaw18.TableParts', WHERE WHAT IT READS IS OF BULK AT MOST 1048576: true; the input reads as it did. -/
def tablePartsUptoRow : OpenClaim := { program := "ytfacpfogdcefpaa", sum := "3a656361b1ee2e92342b667d65273c252632bc0cdd0fdc098e3995c0c2366a91", func := "isinglass/isinglasslaw18.TableParts", spec := "tableParts", unfollowed := true, recurses := true, apart := false, narrowed := true }
def TablePartsUptoSaid : Prop := tablePartsUptoRow.holds Try.pinned (OpenSpec.upto tablePartsSpec)

/-- 'isinglasslaw27.FinishCompares', WHERE WHAT IT READS IS OF BULK AT MOST 1048576: true; the input reads as it did. -/
def finishComparesUptoRow : OpenClaim := { program := "ytfacpfogdcefpaa", sum := "3a656361b1ee2e92342b667d65273c252632bc0cdd0fdc098e3995c0c2366a91", func := "isinglass/isinglasslaw27.FinishCompares", spec := "finishCompares", unfollowed := true, recurses := true, apart := false, narrowed := true }
def FinishComparesUptoSaid : Prop := finishComparesUptoRow.holds Try.pinned (OpenSpec.upto finishComparesSpec)

/-- 'isinglasslaw27.FinishTurns', WHERE WHAT IT READS IS OF BULK AT MOST 1048576: true; the input reads as it did. -/
def finishTurnsUptoRow : OpenClaim := { program := "ytfacpfogdcefpaa", sum := "3a656361b1ee2e92342b667d65273c252632bc0cdd0fdc098e3995c0c2366a91", func := "isinglass/isinglasslaw27.FinishTurns", spec := "finishTurns", unfollowed := true, recurses := true, apart := false, narrowed := true }
def FinishTurnsUptoSaid : Prop := finishTurnsUptoRow.holds Try.pinned (OpenSpec.upto finishTurnsSpec)

end Rows
end Go.Proofs.Ytfacpfogdcefpaa
