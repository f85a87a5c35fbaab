/-
  No cell of these rows narrows 'for every input' (looked for: loops, veiled, ifaces, maps, wideKeys, modest, calm, conditions, laid).
  DERIVED. THE GIVEN ROWS OF THIS SEAT. 8 by the template 'for every input the law returns true; each argument reads behind the call as it read before'; 0 by the template 'total and deterministic' (their statements: YtgdiffabnalidaaTotals.lean).
  GIVEN WITH THE SEED: the statements are not yours to turn. If you find one false, say at which input.
  Laid BY PROGRAM, IN A SANDBOX (cutbox-rows.mjs): the forced cells as the released guide's own fill.sh prints them over the translation b9478627c52d3297… (all of the seat's roots in one cut). By AI agents, Wed Nov 11 2026. No macro, syntax, notation, axiom, sorry.
-/
import Derived.Test.YtgdiffabnalidaaChecked
import GoSem.Claim
import GoSem.ClaimJoined
import GoSem.ClaimMapViews
import Derived.JoinedTies
import Derived.KernelRfl
namespace Go.Proofs.Ytgdiffabnalidaa
/- THE CELL 'sum', in the pinned program and in every row, IS THE sha256 OF THE DUMP (.gsa) THAT YtgdiffabnalidaaProg.lean LOADS. Nothing in Lean hashes anything: it is a label: what it is worth is what the hold of that sum in a sandbox is worth. -/
noncomputable def Try.pinned : Pinned := { name := "ytgdiffabnalidaa", sum := "b9478627c52d3297b1abe557ac24fdcb0a2fd1ca59a36976dc3452979095c050", checked := Try.checked }
namespace Rows
def none {H : Type} : Left H := { results := [], args := [] }

/-- 'isinglasslaw02.PackDoes': WHATEVER THE INPUT: true; the input reads as it did. -/
def packDoesSpec : ChangeSpec := { name := "packDoes", fn := fun _ => fun
  | [d1, d2, d3] => { results := [.lit (.bool true)], args := [d1, d2, d3] }
  | _ => none }
def packDoesRow : OpenClaim := { program := "ytgdiffabnalidaa", sum := "b9478627c52d3297b1abe557ac24fdcb0a2fd1ca59a36976dc3452979095c050", func := "isinglass/isinglasslaw02.PackDoes", spec := "packDoes", apart := false }
def PackDoesSaid : Prop := packDoesRow.holds Try.pinned (OpenSpec.ofChange packDoesSpec)

/-- ITS FALSE NEIGHBOUR: 'it returns false'. Refute it at one input. -/
def packDoesWrong : ChangeSpec := { name := "packDoes", fn := fun _ => fun
  | [d1, d2, d3] => { results := [.lit (.bool false)], args := [d1, d2, d3] }
  | _ => none }
def PackDoesWrongFalsely : Prop := packDoesRow.holds Try.pinned (OpenSpec.ofChange packDoesWrong)

/-- 'isinglasslaw02.PackReads': WHATEVER THE INPUT: true; the input reads as it did. -/
def packReadsSpec : ChangeSpec := { name := "packReads", fn := fun _ => fun
  | [d1, d2, d3, d4] => { results := [.lit (.bool true)], args := [d1, d2, d3, d4] }
  | _ => none }
def packReadsRow : OpenClaim := { program := "ytgdiffabnalidaa", sum := "b9478627c52d3297b1abe557ac24fdcb0a2fd1ca59a36976dc3452979095c050", func := "isinglass/isinglasslaw02.PackReads", spec := "packReads", apart := false }
def PackReadsSaid : Prop := packReadsRow.holds Try.pinned (OpenSpec.ofChange packReadsSpec)

/-- ITS FALSE NEIGHBOUR: 'it returns false'. Refute it at one input. -/
def packReadsWrong : ChangeSpec := { name := "packReads", fn := fun _ => fun
  | [d1, d2, d3, d4] => { results := [.lit (.bool false)], args := [d1, d2, d3, d4] }
  | _ => none }
def PackReadsWrongFalsely : Prop := packReadsRow.holds Try.pinned (OpenSpec.ofChange packReadsWrong)

/-- 'isinglasslaw02.PackOnly': WHATEVER THE INPUT: true; the input reads as it did. -/
def packOnlySpec : ChangeSpec := { name := "packOnly", fn := fun _ => fun
  | [d1, d2, d3] => { results := [.lit (.bool true)], args := [d1, d2, d3] }
  | _ => none }
def packOnlyRow : OpenClaim := { program := "ytgdiffabnalidaa", sum := "b9478627c52d3297b1abe557ac24fdcb0a2fd1ca59a36976dc3452979095c050", func := "isinglass/isinglasslaw02.PackOnly", spec := "packOnly", apart := false }
def PackOnlySaid : Prop := packOnlyRow.holds Try.pinned (OpenSpec.ofChange packOnlySpec)

/-- ITS FALSE NEIGHBOUR: 'it returns false'. Refute it at one input. -/
def packOnlyWrong : ChangeSpec := { name := "packOnly", fn := fun _ => fun
  | [d1, d2, d3] => { results := [.lit (.bool false)], args := [d1, d2, d3] }
  | _ => none }
def PackOnlyWrongFalsely : Prop := packOnlyRow.holds Try.pinned (OpenSpec.ofChange packOnlyWrong)

/-- 'isinglasslaw02.PackJoins': WHATEVER THE INPUT: true; the input reads as it did. -/
def packJoinsSpec : ChangeSpec := { name := "packJoins", fn := fun _ => fun
  | [d1, d2, d3] => { results := [.lit (.bool true)], args := [d1, d2, d3] }
  | _ => none }
def packJoinsRow : OpenClaim := { program := "ytgdiffabnalidaa", sum := "b9478627c52d3297b1abe557ac24fdcb0a2fd1ca59a36976dc3452979095c050", func := "isinglass/isinglasslaw02.PackJoins", spec := "packJoins", apart := false }
def PackJoinsSaid : Prop := packJoinsRow.holds Try.pinned (OpenSpec.ofChange packJoinsSpec)

/-- ITS FALSE NEIGHBOUR: 'it returns false'. Refute it at one input. -/
def packJoinsWrong : ChangeSpec := { name := "packJoins", fn := fun _ => fun
  | [d1, d2, d3] => { results := [.lit (.bool false)], args := [d1, d2, d3] }
  | _ => none }
def PackJoinsWrongFalsely : Prop := packJoinsRow.holds Try.pinned (OpenSpec.ofChange packJoinsWrong)

/-- 'isinglasslaw12.ForwardCounts': WHATEVER THE INPUT: true; the input reads as it did. -/
def forwardCountsSpec : ChangeSpec := { name := "forwardCounts", fn := fun _ => fun
  | [d1, d2] => { results := [.lit (.bool true)], args := [d1, d2] }
  | _ => none }
def forwardCountsRow : OpenClaim := { program := "ytgdiffabnalidaa", sum := "b9478627c52d3297b1abe557ac24fdcb0a2fd1ca59a36976dc3452979095c050", func := "isinglass/isinglasslaw12.ForwardCounts", spec := "forwardCounts", unfollowed := true, recurses := true, apart := false }
def ForwardCountsSaid : Prop := forwardCountsRow.holds Try.pinned (OpenSpec.ofChange forwardCountsSpec)

/-- ITS FALSE NEIGHBOUR: 'it returns false'. Refute it at one input. -/
def forwardCountsWrong : ChangeSpec := { name := "forwardCounts", fn := fun _ => fun
  | [d1, d2] => { results := [.lit (.bool false)], args := [d1, d2] }
  | _ => none }
def ForwardCountsWrongFalsely : Prop := forwardCountsRow.holds Try.pinned (OpenSpec.ofChange forwardCountsWrong)

/-- 'isinglasslaw12.ForwardDoes': WHATEVER THE INPUT: true; the input reads as it did. -/
def forwardDoesSpec : ChangeSpec := { name := "forwardDoes", fn := fun _ => fun
  | [d1, d2, d3, d4] => { results := [.lit (.bool true)], args := [d1, d2, d3, d4] }
  | _ => none }
def forwardDoesRow : OpenClaim := { program := "ytgdiffabnalidaa", sum := "b9478627c52d3297b1abe557ac24fdcb0a2fd1ca59a36976dc3452979095c050", func := "isinglass/isinglasslaw12.ForwardDoes", spec := "forwardDoes", unfollowed := true, recurses := true, apart := false }
def ForwardDoesSaid : Prop := forwardDoesRow.holds Try.pinned (OpenSpec.ofChange forwardDoesSpec)

/-- ITS FALSE NEIGHBOUR: 'it returns false'. Refute it at one input. -/
def forwardDoesWrong : ChangeSpec := { name := "forwardDoes", fn := fun _ => fun
  | [d1, d2, d3, d4] => { results := [.lit (.bool false)], args := [d1, d2, d3, d4] }
  | _ => none }
def ForwardDoesWrongFalsely : Prop := forwardDoesRow.holds Try.pinned (OpenSpec.ofChange forwardDoesWrong)

/-- 'isinglasslaw12.ForwardBack': WHATEVER THE INPUT: true; the input reads as it did. -/
def forwardBackSpec : ChangeSpec := { name := "forwardBack", fn := fun _ => fun
  | [d1, d2, d3, d4] => { results := [.lit (.bool true)], args := [d1, d2, d3, d4] }
  | _ => none }
def forwardBackRow : OpenClaim := { program := "ytgdiffabnalidaa", sum := "b9478627c52d3297b1abe557ac24fdcb0a2fd1ca59a36976dc3452979095c050", func := "isinglass/isinglasslaw12.ForwardBack", spec := "forwardBack", unfollowed := true, recurses := true, apart := false }
def ForwardBackSaid : Prop := forwardBackRow.holds Try.pinned (OpenSpec.ofChange forwardBackSpec)

/-- ITS FALSE NEIGHBOUR: 'it returns false'. Refute it at one input. -/
def forwardBackWrong : ChangeSpec := { name := "forwardBack", fn := fun _ => fun
  | [d1, d2, d3, d4] => { results := [.lit (.bool false)], args := [d1, d2, d3, d4] }
  | _ => none }
def ForwardBackWrongFalsely : Prop := forwardBackRow.holds Try.pinned (OpenSpec.ofChange forwardBackWrong)

/-- 'isinglasslaw12.ForwardReads': WHATEVER THE INPUT: true; the input reads as it did. -/
def forwardReadsSpec : ChangeSpec := { name := "forwardReads", fn := fun _ => fun
  | [d1, d2, d3] => { results := [.lit (.bool true)], args := [d1, d2, d3] }
  | _ => none }
def forwardReadsRow : OpenClaim := { program := "ytgdiffabnalidaa", sum := "b9478627c52d3297b1abe557ac24fdcb0a2fd1ca59a36976dc3452979095c050", func := "isinglass/isinglasslaw12.ForwardReads", spec := "forwardReads", unfollowed := true, recurses := true, apart := false }
def ForwardReadsSaid : Prop := forwardReadsRow.holds Try.pinned (OpenSpec.ofChange forwardReadsSpec)

/-- ITS FALSE NEIGHBOUR: 'it returns false'. Refute it at one input. -/
def forwardReadsWrong : ChangeSpec := { name := "forwardReads", fn := fun _ => fun
  | [d1, d2, d3] => { results := [.lit (.bool false)], args := [d1, d2, d3] }
  | _ => none }
def ForwardReadsWrongFalsely : Prop := forwardReadsRow.holds Try.pinned (OpenSpec.ofChange forwardReadsWrong)

/- THE SECOND FORM. 'bulk': how many values and letters a reading holds, each counted each time it is reached (what is shared counts as often as it is met; a slice's spare places count too). A statement '..UptoSaid' is the law's where the arguments, and the package variables that the reading takes, are together of bulk at most 1048576: NARROWER than '..Said'. Prove '..Said' where nothing that the law and all that it calls make is longer than what came in: it says more and counts as full. Else prove '..UptoSaid'. A law counts once. -/
mutual
def uptoBulk {H : Type} : DataW H → Nat
  | .lit (.string bytes) => bytes.length + 1
  | .lit _ => 1
  | .nil => 1
  | .ptr d => uptoBulk d + 1
  | .slice elems spare => uptoBulkAll elems + uptoBulkAll spare + 1
  | .agg parts => uptoBulkAll parts + 1
  | .iface _ d => uptoBulk d + 1
  | .map entries => uptoBulkEntries entries + 1
  | .held _ => 1
def uptoBulkAll {H : Type} : List (DataW H) → Nat
  | [] => 0
  | d :: r => uptoBulk d + uptoBulkAll r
def uptoBulkEntries {H : Type} : List (Lit × DataW H) → Nat
  | [] => 0
  | x :: r => uptoBulkEntry x + uptoBulkEntries r
def uptoBulkEntry {H : Type} : Lit × DataW H → Nat
  | (.string bytes, d) => bytes.length + uptoBulk d + 1
  | (_, d) => uptoBulk d + 1
 end
def uptoSmall : (H : Type) → List (DataW H) → Bool := fun _ ds => decide (uptoBulkAll ds ≤ 1048576)
def OpenSpec.upto (s : _root_.Go.ChangeSpec) : _root_.Go.OpenSpec := { _root_.Go.OpenSpec.ofChange s with cond := some uptoSmall }

/-- 'isinglasslaw02.PackDoes', WHERE WHAT IT READS IS OF BULK AT MOST 1048576: true; the input reads as it did. -/
def packDoesUptoRow : OpenClaim := { program := "ytgdiffabnalidaa", sum := "b9478627c52d3297b1abe557ac24fdcb0a2fd1ca59a36976dc3452979095c050", func := "isinglass/isinglasslaw02.PackDoes", spec := "packDoes", apart := false, narrowed := true }
def PackDoesUptoSaid : Prop := packDoesUptoRow.holds Try.pinned (OpenSpec.upto packDoesSpec)

/-- 'isinglasslaw02.PackReads', WHERE WHAT IT READS IS OF BULK AT MOST 1048576: true; the input reads as it did. -/
def packReadsUptoRow : OpenClaim := { program := "ytgdiffabnalidaa", sum := "b9478627c52d3297b1abe557ac24fdcb0a2fd1ca59a36976dc3452979095c050", func := "isinglass/isinglasslaw02.PackReads", spec := "packReads", apart := false, narrowed := true }
def PackReadsUptoSaid : Prop := packReadsUptoRow.holds Try.pinned (OpenSpec.upto packReadsSpec)

/-- 'isinglasslaw02.PackOnly', WHERE WHAT IT READS IS OF BULK AT MOST 1048576: true; the input reads as it did. -/
def packOnlyUptoRow : OpenClaim := { program := "ytgdiffabnalidaa", sum := "b9478627c52d3297b1abe557ac24fdcb0a2fd1ca59a36976dc3452979095c050", func := "isinglass/isinglasslaw02.PackOnly", spec := "packOnly", apart := false, narrowed := true }
def PackOnlyUptoSaid : Prop := packOnlyUptoRow.holds Try.pinned (OpenSpec.upto packOnlySpec)

/-- 'isinglasslaw02.PackJoins', WHERE WHAT IT READS IS OF BULK AT MOST 1048576: true; the input reads as it did. -/
def packJoinsUptoRow : OpenClaim := { program := "ytgdiffabnalidaa", sum := "b9478627c52d3297b1abe557ac24fdcb0a2fd1ca59a36976dc3452979095c050", func := "isinglass/isinglasslaw02.PackJoins", spec := "packJoins", apart := false, narrowed := true }
def PackJoinsUptoSaid : Prop := packJoinsUptoRow.holds Try.pinned (OpenSpec.upto packJoinsSpec)

/-- 'isinglasslaw12.ForwardCounts', WHERE WHAT IT READS IS OF BULK AT MOST 1048576: true; the input reads as it did. -/
def forwardCountsUptoRow : OpenClaim := { program := "ytgdiffabnalidaa", sum := "b9478627c52d3297b1abe557ac24fdcb0a2fd1ca59a36976dc3452979095c050", func := "isinglass/isinglasslaw12.ForwardCounts", spec := "forwardCounts", unfollowed := true, recurses := true, apart := false, narrowed := true }
def ForwardCountsUptoSaid : Prop := forwardCountsUptoRow.holds Try.pinned (OpenSpec.upto forwardCountsSpec)

/-- 'isinglasslaw12.ForwardDoes', WHERE WHAT IT READS IS OF BULK AT MOST 1048576: true; the input reads as it did. -/
def forwardDoesUptoRow : OpenClaim := { program := "ytgdiffabnalidaa", sum := "b9478627c52d3297b1abe557ac24fdcb0a2fd1ca59a36976dc3452979095c050", func := "isinglass/isinglasslaw12.ForwardDoes", spec := "forwardDoes", unfollowed := true, recurses := true, apart := false, narrowed := true }
def ForwardDoesUptoSaid : Prop := forwardDoesUptoRow.holds Try.pinned (OpenSpec.upto forwardDoesSpec)

/-- 'isinglasslaw12.ForwardBack', WHERE WHAT IT READS IS OF BULK AT MOST 1048576: true; the input reads as it did. -/
def forwardBackUptoRow : OpenClaim := { program := "ytgdiffabnalidaa", sum := "b9478627c52d3297b1abe557ac24fdcb0a2fd1ca59a36976dc3452979095c050", func := "isinglass/isinglasslaw12.ForwardBack", spec := "forwardBack", unfollowed := true, recurses := true, apart := false, narrowed := true }
def ForwardBackUptoSaid : Prop := forwardBackUptoRow.holds Try.pinned (OpenSpec.upto forwardBackSpec)

/-- 'isinglasslaw12.ForwardReads', WHERE WHAT IT READS IS OF BULK AT MOST 1048576: true; the input reads as it did. -/
def forwardReadsUptoRow : OpenClaim := { program := "ytgdiffabnalidaa", sum := "b9478627c52d3297b1abe557ac24fdcb0a2fd1ca59a36976dc3452979095c050", func := "isinglass/isinglasslaw12.ForwardReads", spec := "forwardReads", unfollowed := true, recurses := true, apart := false, narrowed := true }
def ForwardReadsUptoSaid : Prop := forwardReadsUptoRow.holds Try.pinned (OpenSpec.upto forwardReadsSpec)

end Rows
end Go.Proofs.Ytgdiffabnalidaa
