/-
  No cell of these rows narrows 'for every input' (looked for: loops, veiled, ifaces, maps, wideKeys, modest, calm, conditions, laid).
  DERIVED. THE GIVEN ROWS OF THIS SEAT. 10 by the template 'for every input the law returns true; each argument reads behind the call as it read before'; 0 by the template 'total and deterministic' (their statements: YtanodmjolphpfaaTotals.lean).
  GIVEN WITH THE SEED: the statements are not yours to turn. If you find one false, say at which input.
  Laid BY PROGRAM, IN A SANDBOX (cutbox-rows.mjs): the forced cells as the released guide's own fill.sh prints them over the translation a5ecc59231feb619… (all of the seat's roots in one cut). By AI agents, Wed Nov 11 2026. No macro, syntax, notation, axiom, sorry.
-/
import Derived.Test.YtanodmjolphpfaaChecked
import GoSem.Claim
import GoSem.ClaimJoined
import GoSem.ClaimMapViews
import Derived.JoinedTies
import Derived.KernelRfl
namespace Go.Proofs.Ytanodmjolphpfaa
/- THE CELL 'sum', in the pinned program and in every row, IS THE sha256 OF THE DUMP (.gsa) THAT YtanodmjolphpfaaProg.lean LOADS. Nothing in Lean hashes anything: it is a label: what it is worth is what the hold of that sum in a sandbox is worth. -/
noncomputable def Try.pinned : Pinned := { name := "ytanodmjolphpfaa", sum := "a5ecc59231feb6192f1a028696a72c37486232c264bde288fcf7e2553d2fd67c", checked := Try.checked }
namespace Rows
def none {H : Type} : Left H := { results := [], args := [] }

/-- 'isinglasslaw13.MetricEnds': WHATEVER THE INPUT: true; the input reads as it did. -/
def metricEndsSpec : ChangeSpec := { name := "metricEnds", fn := fun _ => fun
  | [d1, d2] => { results := [.lit (.bool true)], args := [d1, d2] }
  | _ => none }
def metricEndsRow : OpenClaim := { program := "ytanodmjolphpfaa", sum := "a5ecc59231feb6192f1a028696a72c37486232c264bde288fcf7e2553d2fd67c", func := "isinglass/isinglasslaw13.MetricEnds", spec := "metricEnds", unfollowed := true, recurses := true, apart := false }
def MetricEndsSaid : Prop := metricEndsRow.holds Try.pinned (OpenSpec.ofChange metricEndsSpec)

/-- ITS FALSE NEIGHBOUR: 'it returns false'. Refute it at one input. -/
def metricEndsWrong : ChangeSpec := { name := "metricEnds", fn := fun _ => fun
  | [d1, d2] => { results := [.lit (.bool false)], args := [d1, d2] }
  | _ => none }
def MetricEndsWrongFalsely : Prop := metricEndsRow.holds Try.pinned (OpenSpec.ofChange metricEndsWrong)

/-- 'isinglasslaw13.MetricDoes': WHATEVER THE INPUT: true; the input reads as it did. -/
def metricDoesSpec : ChangeSpec := { name := "metricDoes", fn := fun _ => fun
  | [d1, d2, d3] => { results := [.lit (.bool true)], args := [d1, d2, d3] }
  | _ => none }
def metricDoesRow : OpenClaim := { program := "ytanodmjolphpfaa", sum := "a5ecc59231feb6192f1a028696a72c37486232c264bde288fcf7e2553d2fd67c", func := "isinglass/isinglasslaw13.MetricDoes", spec := "metricDoes", unfollowed := true, recurses := true, apart := false }
def MetricDoesSaid : Prop := metricDoesRow.holds Try.pinned (OpenSpec.ofChange metricDoesSpec)

/-- ITS FALSE NEIGHBOUR: 'it returns false'. Refute it at one input. -/
def metricDoesWrong : ChangeSpec := { name := "metricDoes", fn := fun _ => fun
  | [d1, d2, d3] => { results := [.lit (.bool false)], args := [d1, d2, d3] }
  | _ => none }
def MetricDoesWrongFalsely : Prop := metricDoesRow.holds Try.pinned (OpenSpec.ofChange metricDoesWrong)

/-- 'isinglasslaw13.MetricNone': WHATEVER THE INPUT: true; the input reads as it did. -/
def metricNoneSpec : ChangeSpec := { name := "metricNone", fn := fun _ => fun
  | [d1, d2] => { results := [.lit (.bool true)], args := [d1, d2] }
  | _ => none }
def metricNoneRow : OpenClaim := { program := "ytanodmjolphpfaa", sum := "a5ecc59231feb6192f1a028696a72c37486232c264bde288fcf7e2553d2fd67c", func := "isinglass/isinglasslaw13.MetricNone", spec := "metricNone", unfollowed := true, recurses := true, apart := false }
def MetricNoneSaid : Prop := metricNoneRow.holds Try.pinned (OpenSpec.ofChange metricNoneSpec)

/-- ITS FALSE NEIGHBOUR: 'it returns false'. Refute it at one input. -/
def metricNoneWrong : ChangeSpec := { name := "metricNone", fn := fun _ => fun
  | [d1, d2] => { results := [.lit (.bool false)], args := [d1, d2] }
  | _ => none }
def MetricNoneWrongFalsely : Prop := metricNoneRow.holds Try.pinned (OpenSpec.ofChange metricNoneWrong)

/-- 'isinglasslaw01.CursorWrites': WHATEVER THE INPUT: true; the input reads as it did. -/
def cursorWritesSpec : ChangeSpec := { name := "cursorWrites", fn := fun _ => fun
  | [d1, d2] => { results := [.lit (.bool true)], args := [d1, d2] }
  | _ => none }
def cursorWritesRow : OpenClaim := { program := "ytanodmjolphpfaa", sum := "a5ecc59231feb6192f1a028696a72c37486232c264bde288fcf7e2553d2fd67c", func := "isinglass/isinglasslaw01.CursorWrites", spec := "cursorWrites", unfollowed := true, recurses := true, apart := false }
def CursorWritesSaid : Prop := cursorWritesRow.holds Try.pinned (OpenSpec.ofChange cursorWritesSpec)

/-- ITS FALSE NEIGHBOUR: 'it returns false'. Refute it at one input. -/
def cursorWritesWrong : ChangeSpec := { name := "cursorWrites", fn := fun _ => fun
  | [d1, d2] => { results := [.lit (.bool false)], args := [d1, d2] }
  | _ => none }
def CursorWritesWrongFalsely : Prop := cursorWritesRow.holds Try.pinned (OpenSpec.ofChange cursorWritesWrong)

/-- 'isinglasslaw01.CursorOnly': WHATEVER THE INPUT: true; the input reads as it did. -/
def cursorOnlySpec : ChangeSpec := { name := "cursorOnly", fn := fun _ => fun
  | [d] => { results := [.lit (.bool true)], args := [d] }
  | _ => none }
def cursorOnlyRow : OpenClaim := { program := "ytanodmjolphpfaa", sum := "a5ecc59231feb6192f1a028696a72c37486232c264bde288fcf7e2553d2fd67c", func := "isinglass/isinglasslaw01.CursorOnly", spec := "cursorOnly", unfollowed := true, recurses := true, apart := false }
def CursorOnlySaid : Prop := cursorOnlyRow.holds Try.pinned (OpenSpec.ofChange cursorOnlySpec)

/-- ITS FALSE NEIGHBOUR: 'it returns false'. Refute it at one input. -/
def cursorOnlyWrong : ChangeSpec := { name := "cursorOnly", fn := fun _ => fun
  | [d] => { results := [.lit (.bool false)], args := [d] }
  | _ => none }
def CursorOnlyWrongFalsely : Prop := cursorOnlyRow.holds Try.pinned (OpenSpec.ofChange cursorOnlyWrong)

/-- 'isinglasslaw01.CursorReads': WHATEVER THE INPUT: true; the input reads as it did. -/
def cursorReadsSpec : ChangeSpec := { name := "cursorReads", fn := fun _ => fun
  | [d1, d2] => { results := [.lit (.bool true)], args := [d1, d2] }
  | _ => none }
def cursorReadsRow : OpenClaim := { program := "ytanodmjolphpfaa", sum := "a5ecc59231feb6192f1a028696a72c37486232c264bde288fcf7e2553d2fd67c", func := "isinglass/isinglasslaw01.CursorReads", spec := "cursorReads", unfollowed := true, recurses := true, apart := false }
def CursorReadsSaid : Prop := cursorReadsRow.holds Try.pinned (OpenSpec.ofChange cursorReadsSpec)

/-- ITS FALSE NEIGHBOUR: 'it returns false'. Refute it at one input. -/
def cursorReadsWrong : ChangeSpec := { name := "cursorReads", fn := fun _ => fun
  | [d1, d2] => { results := [.lit (.bool false)], args := [d1, d2] }
  | _ => none }
def CursorReadsWrongFalsely : Prop := cursorReadsRow.holds Try.pinned (OpenSpec.ofChange cursorReadsWrong)

/-- 'isinglasslaw01.CursorNone': WHATEVER THE INPUT: true; the input reads as it did. -/
def cursorNoneSpec : ChangeSpec := { name := "cursorNone", fn := fun _ => fun
  | [d] => { results := [.lit (.bool true)], args := [d] }
  | _ => none }
def cursorNoneRow : OpenClaim := { program := "ytanodmjolphpfaa", sum := "a5ecc59231feb6192f1a028696a72c37486232c264bde288fcf7e2553d2fd67c", func := "isinglass/isinglasslaw01.CursorNone", spec := "cursorNone", unfollowed := true, recurses := true, apart := false }
def CursorNoneSaid : Prop := cursorNoneRow.holds Try.pinned (OpenSpec.ofChange cursorNoneSpec)

/-- ITS FALSE NEIGHBOUR: 'it returns false'. Refute it at one input. -/
def cursorNoneWrong : ChangeSpec := { name := "cursorNone", fn := fun _ => fun
  | [d] => { results := [.lit (.bool false)], args := [d] }
  | _ => none }
def CursorNoneWrongFalsely : Prop := cursorNoneRow.holds Try.pinned (OpenSpec.ofChange cursorNoneWrong)

/-- 'isinglasslaw01.CursorBack': WHATEVER THE INPUT: true; the input reads as it did. -/
def cursorBackSpec : ChangeSpec := { name := "cursorBack", fn := fun _ => fun
  | [d1, d2, d3, d4, d5, d6] => { results := [.lit (.bool true)], args := [d1, d2, d3, d4, d5, d6] }
  | _ => none }
def cursorBackRow : OpenClaim := { program := "ytanodmjolphpfaa", sum := "a5ecc59231feb6192f1a028696a72c37486232c264bde288fcf7e2553d2fd67c", func := "isinglass/isinglasslaw01.CursorBack", spec := "cursorBack", unfollowed := true, recurses := true, apart := false }
def CursorBackSaid : Prop := cursorBackRow.holds Try.pinned (OpenSpec.ofChange cursorBackSpec)

/-- ITS FALSE NEIGHBOUR: 'it returns false'. Refute it at one input. -/
def cursorBackWrong : ChangeSpec := { name := "cursorBack", fn := fun _ => fun
  | [d1, d2, d3, d4, d5, d6] => { results := [.lit (.bool false)], args := [d1, d2, d3, d4, d5, d6] }
  | _ => none }
def CursorBackWrongFalsely : Prop := cursorBackRow.holds Try.pinned (OpenSpec.ofChange cursorBackWrong)

/-- 'isinglasslaw13.MetricReads': WHATEVER THE INPUT: true; the input reads as it did. -/
def metricReadsSpec : ChangeSpec := { name := "metricReads", fn := fun _ => fun
  | [d1, d2] => { results := [.lit (.bool true)], args := [d1, d2] }
  | _ => none }
def metricReadsRow : OpenClaim := { program := "ytanodmjolphpfaa", sum := "a5ecc59231feb6192f1a028696a72c37486232c264bde288fcf7e2553d2fd67c", func := "isinglass/isinglasslaw13.MetricReads", spec := "metricReads", unfollowed := true, recurses := true, apart := false }
def MetricReadsSaid : Prop := metricReadsRow.holds Try.pinned (OpenSpec.ofChange metricReadsSpec)

/-- ITS FALSE NEIGHBOUR: 'it returns false'. Refute it at one input. -/
def metricReadsWrong : ChangeSpec := { name := "metricReads", fn := fun _ => fun
  | [d1, d2] => { results := [.lit (.bool false)], args := [d1, d2] }
  | _ => none }
def MetricReadsWrongFalsely : Prop := metricReadsRow.holds Try.pinned (OpenSpec.ofChange metricReadsWrong)

/-- 'isinglasslaw13.MetricBack': WHATEVER THE INPUT: true; the input reads as it did. -/
def metricBackSpec : ChangeSpec := { name := "metricBack", fn := fun _ => fun
  | [d1, d2] => { results := [.lit (.bool true)], args := [d1, d2] }
  | _ => none }
def metricBackRow : OpenClaim := { program := "ytanodmjolphpfaa", sum := "a5ecc59231feb6192f1a028696a72c37486232c264bde288fcf7e2553d2fd67c", func := "isinglass/isinglasslaw13.MetricBack", spec := "metricBack", unfollowed := true, recurses := true, apart := false }
def MetricBackSaid : Prop := metricBackRow.holds Try.pinned (OpenSpec.ofChange metricBackSpec)

/-- ITS FALSE NEIGHBOUR: 'it returns false'. Refute it at one input. -/
def metricBackWrong : ChangeSpec := { name := "metricBack", fn := fun _ => fun
  | [d1, d2] => { results := [.lit (.bool false)], args := [d1, d2] }
  | _ => none }
def MetricBackWrongFalsely : Prop := metricBackRow.holds Try.pinned (OpenSpec.ofChange metricBackWrong)

/- THE SECOND FORM. 'bulk': how many values and letters a reading holds, each counted each time it is reached (what is shared counts as often as it is met; a slice's spare places count too). A statement '..UptoSaid' is the law's where the arguments, and the package variables that the reading takes, are together of bulk at most 1048576: NARROWER than '..Said'. Prove '..Said' where nothing that the law and all that it calls make is longer than what came in: it says more and counts as full. Else prove '..UptoSaid'. A law counts once. -/
mutual
def uptoBulk {H : Type} : DataW H → Nat
  | .lit (.string bytes) => bytes.length + 1
  | .lit _ => 1
  | .nil => 1
  | .ptr d => uptoBulk d + 1
  | .slice elems spare => uptoBulkAll elems + uptoBulkAll spare + 1
  | .agg parts => uptoBulkAll parts + 1
  | .iface _ d => uptoBulk d + 1
  | .map entries => uptoBulkEntries entries + 1
  | .held _ => 1
def uptoBulkAll {H : Type} : List (DataW H) → Nat
  | [] => 0
  | d :: r => uptoBulk d + uptoBulkAll r
def uptoBulkEntries {H : Type} : List (Lit × DataW H) → Nat
  | [] => 0
  | x :: r => uptoBulkEntry x + uptoBulkEntries r
def uptoBulkEntry {H : Type} : Lit × DataW H → Nat
  | (.string bytes, d) => bytes.length + uptoBulk d + 1
  | (_, d) => uptoBulk d + 1
 end
def uptoSmall : (H : Type) → List (DataW H) → Bool := fun _ ds => decide (uptoBulkAll ds ≤ 1048576)
def OpenSpec.upto (s : _root_.Go.ChangeSpec) : _root_.Go.OpenSpec := { _root_.Go.OpenSpec.ofChange s with cond := some uptoSmall }

/-- 'isinglasslaw13.MetricEnds', WHERE WHAT IT READS IS OF BULK AT MOST 1048576: true; the input reads as it did. -/
def metricEndsUptoRow : OpenClaim := { program := "ytanodmjolphpfaa", sum := "a5ecc59231feb6192f1a028696a72c37486232c264bde288fcf7e2553d2fd67c", func := "isinglass/isinglasslaw13.MetricEnds", spec := "metricEnds", unfollowed := true, recurses := true, apart := false, narrowed := true }
def MetricEndsUptoSaid : Prop := metricEndsUptoRow.holds Try.pinned (OpenSpec.upto metricEndsSpec)

/-- 'isinglasslaw13.MetricDoes', WHERE WHAT IT READS IS OF BULK AT MOST 1048576: true; the input reads as it did. -/
def metricDoesUptoRow : OpenClaim := { program := "ytanodmjolphpfaa", sum := "a5ecc59231feb6192f1a028696a72c37486232c264bde288fcf7e2553d2fd67c", func := "isinglass/isinglasslaw13.MetricDoes", spec := "metricDoes", unfollowed := true, recurses := true, apart := false, narrowed := true }
def MetricDoesUptoSaid : Prop := metricDoesUptoRow.holds Try.pinned (OpenSpec.upto metricDoesSpec)

/-- 'isinglasslaw13.MetricNone', WHERE WHAT IT READS IS OF BULK AT MOST 1048576: true; the input reads as it did. -/
def metricNoneUptoRow : OpenClaim := { program := "ytanodmjolphpfaa", sum := "a5ecc59231feb6192f1a028696a72c37486232c264bde288fcf7e2553d2fd67c", func := "isinglass/isinglasslaw13.MetricNone", spec := "metricNone", unfollowed := true, recurses := true, apart := false, narrowed := true }
def MetricNoneUptoSaid : Prop := metricNoneUptoRow.holds Try.pinned (OpenSpec.upto metricNoneSpec)

/-- 'isinglasslaw01.CursorWrites', WHERE WHAT IT READS IS OF BULK AT MOST 1048576: true; the input reads as it did. -/
def cursorWritesUptoRow : OpenClaim := { program := "ytanodmjolphpfaa", sum := "a5ecc59231feb6192f1a028696a72c37486232c264bde288fcf7e2553d2fd67c", func := "isinglass/isinglasslaw01.CursorWrites", spec := "cursorWrites", unfollowed := true, recurses := true, apart := false, narrowed := true }
def CursorWritesUptoSaid : Prop := cursorWritesUptoRow.holds Try.pinned (OpenSpec.upto cursorWritesSpec)

/-- 'isinglasslaw01.CursorOnly', WHERE WHAT IT READS IS OF BULK AT MOST 1048576: true; the input reads as it did. -/
def cursorOnlyUptoRow : OpenClaim := { program := "ytanodmjolphpfaa", sum := "a5ecc59231feb6192f1a028696a72c37486232c264bde288fcf7e2553d2fd67c", func := "isinglass/isinglasslaw01.CursorOnly", spec := "cursorOnly", unfollowed := true, recurses := true, apart := false, narrowed := true }
def CursorOnlyUptoSaid : Prop := cursorOnlyUptoRow.holds Try.pinned (OpenSpec.upto cursorOnlySpec)

/-- 'isinglasslaw01.CursorReads', WHERE WHAT IT READS IS OF BULK AT MOST 1048576: true; the input reads as it did. -/
def cursorReadsUptoRow : OpenClaim := { program := "ytanodmjolphpfaa", sum := "a5ecc59231feb6192f1a028696a72c37486232c264bde288fcf7e2553d2fd67c", func := "isinglass/isinglasslaw01.CursorReads", spec := "cursorReads", unfollowed := true, recurses := true, apart := false, narrowed := true }
def CursorReadsUptoSaid : Prop := cursorReadsUptoRow.holds Try.pinned (OpenSpec.upto cursorReadsSpec)

/-- 'isinglasslaw01.CursorNone', WHERE WHAT IT READS IS OF BULK AT MOST 1048576: true; the input reads as it did. -/
def cursorNoneUptoRow : OpenClaim := { program := "ytanodmjolphpfaa", sum := "a5ecc59231feb6192f1a028696a72c37486232c264bde288fcf7e2553d2fd67c", func := "isinglass/isinglasslaw01.CursorNone", spec := "cursorNone", unfollowed := true, recurses := true, apart := false, narrowed := true }
def CursorNoneUptoSaid : Prop := cursorNoneUptoRow.holds Try.pinned (OpenSpec.upto cursorNoneSpec)

/-- 'isinglasslaw01.CursorBack', WHERE WHAT IT READS IS OF BULK AT MOST 1048576: true; the input reads as it did. -/
def cursorBackUptoRow : OpenClaim := { program := "ytanodmjolphpfaa", sum := "a5ecc59231feb6192f1a028696a72c37486232c264bde288fcf7e2553d2fd67c", func := "isinglass/isinglasslaw01.CursorBack", spec := "cursorBack", unfollowed := true, recurses := true, apart := false, narrowed := true }
def CursorBackUptoSaid : Prop := cursorBackUptoRow.holds Try.pinned (OpenSpec.upto cursorBackSpec)

/-- 'isinglasslaw13.MetricReads', WHERE WHAT IT READS IS OF BULK AT MOST 1048576: true; the input reads as it did. -/
def metricReadsUptoRow : OpenClaim := { program := "ytanodmjolphpfaa", sum := "a5ecc59231feb6192f1a028696a72c37486232c264bde288fcf7e2553d2fd67c", func := "isinglass/isinglasslaw13.MetricReads", spec := "metricReads", unfollowed := true, recurses := true, apart := false, narrowed := true }
def MetricReadsUptoSaid : Prop := metricReadsUptoRow.holds Try.pinned (OpenSpec.upto metricReadsSpec)

/-- 'isinglasslaw13.MetricBack', WHERE WHAT IT READS IS OF BULK AT MOST 1048576: true; the input reads as it did. -/
def metricBackUptoRow : OpenClaim := { program := "ytanodmjolphpfaa", sum := "a5ecc59231feb6192f1a028696a72c37486232c264bde288fcf7e2553d2fd67c", func := "isinglass/isinglasslaw13.MetricBack", spec := "metricBack", unfollowed := true, recurses := true, apart := false, narrowed := true }
def MetricBackUptoSaid : Prop := metricBackUptoRow.holds Try.pinned (OpenSpec.upto metricBackSpec)

end Rows
end Go.Proofs.Ytanodmjolphpfaa
