/-
  No cell of these rows narrows 'for every input' (looked for: loops, veiled, ifaces, maps, wideKeys, modest, calm, conditions, laid).
  DERIVED. THE GIVEN ROWS OF THIS SEAT. 8 by the template 'for every input the law returns true; each argument reads behind the call as it read before'; 0 by the template 'total and deterministic' (their statements: YtegnobdablbahaaTotals.lean).
  GIVEN WITH THE SEED: the statements are not yours to turn. If you find one false, say at which input.
  Laid BY PROGRAM, IN A SANDBOX (cutbox-rows.mjs): the forced cells as the released guide's own fill.sh prints them over the translation 79a0a1b31992052a… (all of the seat's roots in one cut). By AI agents, Wed Nov 11 2026. No macro, syntax, notation, axiom, sorry.
-/
import Derived.Test.YtegnobdablbahaaChecked
import GoSem.Claim
import GoSem.ClaimJoined
import GoSem.ClaimMapViews
import Derived.JoinedTies
import Derived.KernelRfl
namespace Go.Proofs.Ytegnobdablbahaa
/- THE CELL 'sum', in the pinned program and in every row, IS THE sha256 OF THE DUMP (.gsa) THAT YtegnobdablbahaaProg.lean LOADS. Nothing in Lean hashes anything: it is a label: what it is worth is what the hold of that sum in a sandbox is worth. -/
noncomputable def Try.pinned : Pinned := { name := "ytegnobdablbahaa", sum := "79a0a1b31992052a43f371892e590211c4647212cf1a02c3fa1f47fed48bab7c", checked := Try.checked }
namespace Rows
def none {H : Type} : Left H := { results := [], args := [] }

/-- 'isinglasslaw17.SchemaMay': WHATEVER THE INPUT: true; the input reads as it did. -/
def schemaMaySpec : ChangeSpec := { name := "schemaMay", fn := fun _ => fun
  | [d1, d2, d3, d4, d5] => { results := [.lit (.bool true)], args := [d1, d2, d3, d4, d5] }
  | _ => none }
def schemaMayRow : OpenClaim := { program := "ytegnobdablbahaa", sum := "79a0a1b31992052a43f371892e590211c4647212cf1a02c3fa1f47fed48bab7c", func := "isinglass/isinglasslaw17.SchemaMay", spec := "schemaMay", unfollowed := true, recurses := true, apart := false }
def SchemaMaySaid : Prop := schemaMayRow.holds Try.pinned (OpenSpec.ofChange schemaMaySpec)

/-- ITS FALSE NEIGHBOUR: 'it returns false'. Refute it at one input. -/
def schemaMayWrong : ChangeSpec := { name := "schemaMay", fn := fun _ => fun
  | [d1, d2, d3, d4, d5] => { results := [.lit (.bool false)], args := [d1, d2, d3, d4, d5] }
  | _ => none }
def SchemaMayWrongFalsely : Prop := schemaMayRow.holds Try.pinned (OpenSpec.ofChange schemaMayWrong)

/-- 'isinglasslaw17.SchemaFinds': WHATEVER THE INPUT: true; the input reads as it did. -/
def schemaFindsSpec : ChangeSpec := { name := "schemaFinds", fn := fun _ => fun
  | [d1, d2] => { results := [.lit (.bool true)], args := [d1, d2] }
  | _ => none }
def schemaFindsRow : OpenClaim := { program := "ytegnobdablbahaa", sum := "79a0a1b31992052a43f371892e590211c4647212cf1a02c3fa1f47fed48bab7c", func := "isinglass/isinglasslaw17.SchemaFinds", spec := "schemaFinds", unfollowed := true, recurses := true, apart := false }
def SchemaFindsSaid : Prop := schemaFindsRow.holds Try.pinned (OpenSpec.ofChange schemaFindsSpec)

/-- ITS FALSE NEIGHBOUR: 'it returns false'. Refute it at one input. -/
def schemaFindsWrong : ChangeSpec := { name := "schemaFinds", fn := fun _ => fun
  | [d1, d2] => { results := [.lit (.bool false)], args := [d1, d2] }
  | _ => none }
def SchemaFindsWrongFalsely : Prop := schemaFindsRow.holds Try.pinned (OpenSpec.ofChange schemaFindsWrong)

/-- 'isinglasslaw17.SchemaBytes': WHATEVER THE INPUT: true; the input reads as it did. -/
def schemaBytesSpec : ChangeSpec := { name := "schemaBytes", fn := fun _ => fun
  | [d1, d2] => { results := [.lit (.bool true)], args := [d1, d2] }
  | _ => none }
def schemaBytesRow : OpenClaim := { program := "ytegnobdablbahaa", sum := "79a0a1b31992052a43f371892e590211c4647212cf1a02c3fa1f47fed48bab7c", func := "isinglass/isinglasslaw17.SchemaBytes", spec := "schemaBytes", unfollowed := true, recurses := true, apart := false }
def SchemaBytesSaid : Prop := schemaBytesRow.holds Try.pinned (OpenSpec.ofChange schemaBytesSpec)

/-- ITS FALSE NEIGHBOUR: 'it returns false'. Refute it at one input. -/
def schemaBytesWrong : ChangeSpec := { name := "schemaBytes", fn := fun _ => fun
  | [d1, d2] => { results := [.lit (.bool false)], args := [d1, d2] }
  | _ => none }
def SchemaBytesWrongFalsely : Prop := schemaBytesRow.holds Try.pinned (OpenSpec.ofChange schemaBytesWrong)

/-- 'isinglasslaw17.SchemaOnly': WHATEVER THE INPUT: true; the input reads as it did. -/
def schemaOnlySpec : ChangeSpec := { name := "schemaOnly", fn := fun _ => fun
  | [d1, d2] => { results := [.lit (.bool true)], args := [d1, d2] }
  | _ => none }
def schemaOnlyRow : OpenClaim := { program := "ytegnobdablbahaa", sum := "79a0a1b31992052a43f371892e590211c4647212cf1a02c3fa1f47fed48bab7c", func := "isinglass/isinglasslaw17.SchemaOnly", spec := "schemaOnly", unfollowed := true, recurses := true, apart := false }
def SchemaOnlySaid : Prop := schemaOnlyRow.holds Try.pinned (OpenSpec.ofChange schemaOnlySpec)

/-- ITS FALSE NEIGHBOUR: 'it returns false'. Refute it at one input. -/
def schemaOnlyWrong : ChangeSpec := { name := "schemaOnly", fn := fun _ => fun
  | [d1, d2] => { results := [.lit (.bool false)], args := [d1, d2] }
  | _ => none }
def SchemaOnlyWrongFalsely : Prop := schemaOnlyRow.holds Try.pinned (OpenSpec.ofChange schemaOnlyWrong)

/-- 'isinglasslaw21.SectionsWrite': WHATEVER THE INPUT: true; the input reads as it did. -/
def sectionsWriteSpec : ChangeSpec := { name := "sectionsWrite", fn := fun _ => fun
  | [d1, d2] => { results := [.lit (.bool true)], args := [d1, d2] }
  | _ => none }
def sectionsWriteRow : OpenClaim := { program := "ytegnobdablbahaa", sum := "79a0a1b31992052a43f371892e590211c4647212cf1a02c3fa1f47fed48bab7c", func := "isinglass/isinglasslaw21.SectionsWrite", spec := "sectionsWrite", unfollowed := true, recurses := true, apart := false }
def SectionsWriteSaid : Prop := sectionsWriteRow.holds Try.pinned (OpenSpec.ofChange sectionsWriteSpec)

/-- ITS FALSE NEIGHBOUR: 'it returns false'. Refute it at one input. -/
def sectionsWriteWrong : ChangeSpec := { name := "sectionsWrite", fn := fun _ => fun
  | [d1, d2] => { results := [.lit (.bool false)], args := [d1, d2] }
  | _ => none }
def SectionsWriteWrongFalsely : Prop := sectionsWriteRow.holds Try.pinned (OpenSpec.ofChange sectionsWriteWrong)

/-- 'isinglasslaw21.SectionsRead': WHATEVER THE INPUT: true; the input reads as it did. -/
def sectionsReadSpec : ChangeSpec := { name := "sectionsRead", fn := fun _ => fun
  | [d] => { results := [.lit (.bool true)], args := [d] }
  | _ => none }
def sectionsReadRow : OpenClaim := { program := "ytegnobdablbahaa", sum := "79a0a1b31992052a43f371892e590211c4647212cf1a02c3fa1f47fed48bab7c", func := "isinglass/isinglasslaw21.SectionsRead", spec := "sectionsRead", unfollowed := true, recurses := true, apart := false }
def SectionsReadSaid : Prop := sectionsReadRow.holds Try.pinned (OpenSpec.ofChange sectionsReadSpec)

/-- ITS FALSE NEIGHBOUR: 'it returns false'. Refute it at one input. -/
def sectionsReadWrong : ChangeSpec := { name := "sectionsRead", fn := fun _ => fun
  | [d] => { results := [.lit (.bool false)], args := [d] }
  | _ => none }
def SectionsReadWrongFalsely : Prop := sectionsReadRow.holds Try.pinned (OpenSpec.ofChange sectionsReadWrong)

/-- 'isinglasslaw21.SectionsOnly': WHATEVER THE INPUT: true; the input reads as it did. -/
def sectionsOnlySpec : ChangeSpec := { name := "sectionsOnly", fn := fun _ => fun
  | [d1, d2, d3] => { results := [.lit (.bool true)], args := [d1, d2, d3] }
  | _ => none }
def sectionsOnlyRow : OpenClaim := { program := "ytegnobdablbahaa", sum := "79a0a1b31992052a43f371892e590211c4647212cf1a02c3fa1f47fed48bab7c", func := "isinglass/isinglasslaw21.SectionsOnly", spec := "sectionsOnly", unfollowed := true, recurses := true, apart := false }
def SectionsOnlySaid : Prop := sectionsOnlyRow.holds Try.pinned (OpenSpec.ofChange sectionsOnlySpec)

/-- ITS FALSE NEIGHBOUR: 'it returns false'. Refute it at one input. -/
def sectionsOnlyWrong : ChangeSpec := { name := "sectionsOnly", fn := fun _ => fun
  | [d1, d2, d3] => { results := [.lit (.bool false)], args := [d1, d2, d3] }
  | _ => none }
def SectionsOnlyWrongFalsely : Prop := sectionsOnlyRow.holds Try.pinned (OpenSpec.ofChange sectionsOnlyWrong)

/-- 'isinglasslaw21.SectionsApart': WHATEVER THE INPUT: true; the input reads as it did. -/
def sectionsApartSpec : ChangeSpec := { name := "sectionsApart", fn := fun _ => fun
  | [d1, d2, d3, d4] => { results := [.lit (.bool true)], args := [d1, d2, d3, d4] }
  | _ => none }
def sectionsApartRow : OpenClaim := { program := "ytegnobdablbahaa", sum := "79a0a1b31992052a43f371892e590211c4647212cf1a02c3fa1f47fed48bab7c", func := "isinglass/isinglasslaw21.SectionsApart", spec := "sectionsApart", unfollowed := true, recurses := true, apart := false }
def SectionsApartSaid : Prop := sectionsApartRow.holds Try.pinned (OpenSpec.ofChange sectionsApartSpec)

/-- ITS FALSE NEIGHBOUR: 'it returns false'. Refute it at one input. -/
def sectionsApartWrong : ChangeSpec := { name := "sectionsApart", fn := fun _ => fun
  | [d1, d2, d3, d4] => { results := [.lit (.bool false)], args := [d1, d2, d3, d4] }
  | _ => none }
def SectionsApartWrongFalsely : Prop := sectionsApartRow.holds Try.pinned (OpenSpec.ofChange sectionsApartWrong)

/- THE SECOND FORM. 'bulk': how many values and letters a reading holds, each counted each time it is reached (what is shared counts as often as it is met; a slice's spare places count too). A statement '..UptoSaid' is the law's where the arguments, and the package variables that the reading takes, are together of bulk at most 1048576: NARROWER than '..Said'. Prove '..Said' where nothing that the law and all that it calls make is longer than what came in: it says more and counts as full. Else prove '..UptoSaid'. A law counts once. -/
mutual
def uptoBulk {H : Type} : DataW H → Nat
  | .lit (.string bytes) => bytes.length + 1
  | .lit _ => 1
  | .nil => 1
  | .ptr d => uptoBulk d + 1
  | .slice elems spare => uptoBulkAll elems + uptoBulkAll spare + 1
  | .agg parts => uptoBulkAll parts + 1
  | .iface _ d => uptoBulk d + 1
  | .map entries => uptoBulkEntries entries + 1
  | .held _ => 1
def uptoBulkAll {H : Type} : List (DataW H) → Nat
  | [] => 0
  | d :: r => uptoBulk d + uptoBulkAll r
def uptoBulkEntries {H : Type} : List (Lit × DataW H) → Nat
  | [] => 0
  | x :: r => uptoBulkEntry x + uptoBulkEntries r
def uptoBulkEntry {H : Type} : Lit × DataW H → Nat
  | (.string bytes, d) => bytes.length + uptoBulk d + 1
  | (_, d) => uptoBulk d + 1
 end
def uptoSmall : (H : Type) → List (DataW H) → Bool := fun _ ds => decide (uptoBulkAll ds ≤ 1048576)
def OpenSpec.upto (s : _root_.Go.ChangeSpec) : _root_.Go.OpenSpec := { _root_.Go.OpenSpec.ofChange s with cond := some uptoSmall }

/-- 'isinglasslaw17.SchemaMay', WHERE WHAT IT READS IS OF BULK AT MOST 1048576: true; the input reads as it did. -/
def schemaMayUptoRow : OpenClaim := { program := "ytegnobdablbahaa", sum := "79a0a1b31992052a43f371892e590211c4647212cf1a02c3fa1f47fed48bab7c", func := "isinglass/isinglasslaw17.SchemaMay", spec := "schemaMay", unfollowed := true, recurses := true, apart := false, narrowed := true }
def SchemaMayUptoSaid : Prop := schemaMayUptoRow.holds Try.pinned (OpenSpec.upto schemaMaySpec)

/-- 'isinglasslaw17.SchemaFinds', WHERE WHAT IT READS IS OF BULK AT MOST 1048576: true; the input reads as it did. -/
def schemaFindsUptoRow : OpenClaim := { program := "ytegnobdablbahaa", sum := "79a0a1b31992052a43f371892e590211c4647212cf1a02c3fa1f47fed48bab7c", func := "isinglass/isinglasslaw17.SchemaFinds", spec := "schemaFinds", unfollowed := true, recurses := true, apart := false, narrowed := true }
def SchemaFindsUptoSaid : Prop := schemaFindsUptoRow.holds Try.pinned (OpenSpec.upto schemaFindsSpec)

/-- 'isinglasslaw17.SchemaBytes', WHERE WHAT IT READS IS OF BULK AT MOST 1048576: true; the input reads as it did. -/
def schemaBytesUptoRow : OpenClaim := { program := "ytegnobdablbahaa", sum := "79a0a1b31992052a43f371892e590211c4647212cf1a02c3fa1f47fed48bab7c", func := "isinglass/isinglasslaw17.SchemaBytes", spec := "schemaBytes", unfollowed := true, recurses := true, apart := false, narrowed := true }
def SchemaBytesUptoSaid : Prop := schemaBytesUptoRow.holds Try.pinned (OpenSpec.upto schemaBytesSpec)

/-- 'isinglasslaw17.SchemaOnly', WHERE WHAT IT READS IS OF BULK AT MOST 1048576: true; the input reads as it did. -/
def schemaOnlyUptoRow : OpenClaim := { program := "ytegnobdablbahaa", sum := "79a0a1b31992052a43f371892e590211c4647212cf1a02c3fa1f47fed48bab7c", func := "isinglass/isinglasslaw17.SchemaOnly", spec := "schemaOnly", unfollowed := true, recurses := true, apart := false, narrowed := true }
def SchemaOnlyUptoSaid : Prop := schemaOnlyUptoRow.holds Try.pinned (OpenSpec.upto schemaOnlySpec)

/-- 'isinglasslaw21.SectionsWrite', WHERE WHAT IT READS IS OF BULK AT MOST 1048576: true; the input reads as it did. -/
def sectionsWriteUptoRow : OpenClaim := { program := "ytegnobdablbahaa", sum := "79a0a1b31992052a43f371892e590211c4647212cf1a02c3fa1f47fed48bab7c", func := "isinglass/isinglasslaw21.SectionsWrite", spec := "sectionsWrite", unfollowed := true, recurses := true, apart := false, narrowed := true }
def SectionsWriteUptoSaid : Prop := sectionsWriteUptoRow.holds Try.pinned (OpenSpec.upto sectionsWriteSpec)

/-- 'isinglasslaw21.SectionsRead', WHERE WHAT IT READS IS OF BULK AT MOST 1048576: true; the input reads as it did. -/
def sectionsReadUptoRow : OpenClaim := { program := "ytegnobdablbahaa", sum := "79a0a1b31992052a43f371892e590211c4647212cf1a02c3fa1f47fed48bab7c", func := "isinglass/isinglasslaw21.SectionsRead", spec := "sectionsRead", unfollowed := true, recurses := true, apart := false, narrowed := true }
def SectionsReadUptoSaid : Prop := sectionsReadUptoRow.holds Try.pinned (OpenSpec.upto sectionsReadSpec)

/-- 'isinglasslaw21.SectionsOnly', WHERE WHAT IT READS IS OF BULK AT MOST 1048576: true; the input reads as it did. -/
def sectionsOnlyUptoRow : OpenClaim := { program := "ytegnobdablbahaa", sum := "79a0a1b31992052a43f371892e590211c4647212cf1a02c3fa1f47fed48bab7c", func := "isinglass/isinglasslaw21.SectionsOnly", spec := "sectionsOnly", unfollowed := true, recurses := true, apart := false, narrowed := true }
def SectionsOnlyUptoSaid : Prop := sectionsOnlyUptoRow.holds Try.pinned (OpenSpec.upto sectionsOnlySpec)

/-- 'isinglasslaw21.SectionsApart', WHERE WHAT IT READS IS OF BULK AT MOST 1048576: true; the input reads as it did. -/
def sectionsApartUptoRow : OpenClaim := { program := "ytegnobdablbahaa", sum := "79a0a1b31992052a43f371892e590211c4647212cf1a02c3fa1f47fed48bab7c", func := "isinglass/isinglasslaw21.SectionsApart", spec := "sectionsApart", unfollowed := true, recurses := true, apart := false, narrowed := true }
def SectionsApartUptoSaid : Prop := sectionsApartUptoRow.holds Try.pinned (OpenSpec.upto sectionsApartSpec)

end Rows
end Go.Proofs.Ytegnobdablbahaa
