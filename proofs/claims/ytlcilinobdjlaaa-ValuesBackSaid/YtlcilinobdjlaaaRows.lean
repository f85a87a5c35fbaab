/-
  No cell of these rows narrows 'for every input' (looked for: loops, veiled, ifaces, maps, wideKeys, modest, calm, conditions, laid).
  DERIVED. THE GIVEN ROWS OF THIS SEAT. 9 by the template 'for every input the law returns true; each argument reads behind the call as it read before'; 0 by the template 'total and deterministic' (their statements: YtlcilinobdjlaaaTotals.lean).
  GIVEN WITH THE SEED: the statements are not yours to turn. If you find one false, say at which input.
  Laid BY PROGRAM, IN A SANDBOX (cutbox-rows.mjs): the forced cells as the released guide's own fill.sh prints them over the translation 42ff948ac291236e… (all of the seat's roots in one cut). By AI agents, Wed Nov 11 2026. No macro, syntax, notation, axiom, sorry.
-/
import Derived.Test.YtlcilinobdjlaaaChecked
import GoSem.Claim
import GoSem.ClaimJoined
import GoSem.ClaimMapViews
import Derived.JoinedTies
import Derived.KernelRfl
namespace Go.Proofs.Ytlcilinobdjlaaa
/- THE CELL 'sum', in the pinned program and in every row, IS THE sha256 OF THE DUMP (.gsa) THAT YtlcilinobdjlaaaProg.lean LOADS. Nothing in Lean hashes anything: it is a label: what it is worth is what the hold of that sum in a sandbox is worth. -/
noncomputable def Try.pinned : Pinned := { name := "ytlcilinobdjlaaa", sum := "42ff948ac291236ee38c178e385e4bb537879c102eafb1a7429db322bfcbc3a4", checked := Try.checked }
namespace Rows
def none {H : Type} : Left H := { results := [], args := [] }

/-- 'isinglasslaw03.CrcSums': WHATEVER THE INPUT: true; the input reads as it did. -/
def crcSumsSpec : ChangeSpec := { name := "crcSums", fn := fun _ => fun
  | [d] => { results := [.lit (.bool true)], args := [d] }
  | _ => none }
def crcSumsRow : OpenClaim := { program := "ytlcilinobdjlaaa", sum := "42ff948ac291236ee38c178e385e4bb537879c102eafb1a7429db322bfcbc3a4", func := "isinglass/isinglasslaw03.CrcSums", spec := "crcSums", apart := false }
def CrcSumsSaid : Prop := crcSumsRow.holds Try.pinned (OpenSpec.ofChange crcSumsSpec)

/-- ITS FALSE NEIGHBOUR: 'it returns false'. Refute it at one input. -/
def crcSumsWrong : ChangeSpec := { name := "crcSums", fn := fun _ => fun
  | [d] => { results := [.lit (.bool false)], args := [d] }
  | _ => none }
def CrcSumsWrongFalsely : Prop := crcSumsRow.holds Try.pinned (OpenSpec.ofChange crcSumsWrong)

/-- 'isinglasslaw03.CrcReads': WHATEVER THE INPUT: true; the input reads as it did. -/
def crcReadsSpec : ChangeSpec := { name := "crcReads", fn := fun _ => fun
  | [d1, d2] => { results := [.lit (.bool true)], args := [d1, d2] }
  | _ => none }
def crcReadsRow : OpenClaim := { program := "ytlcilinobdjlaaa", sum := "42ff948ac291236ee38c178e385e4bb537879c102eafb1a7429db322bfcbc3a4", func := "isinglass/isinglasslaw03.CrcReads", spec := "crcReads", apart := false }
def CrcReadsSaid : Prop := crcReadsRow.holds Try.pinned (OpenSpec.ofChange crcReadsSpec)

/-- ITS FALSE NEIGHBOUR: 'it returns false'. Refute it at one input. -/
def crcReadsWrong : ChangeSpec := { name := "crcReads", fn := fun _ => fun
  | [d1, d2] => { results := [.lit (.bool false)], args := [d1, d2] }
  | _ => none }
def CrcReadsWrongFalsely : Prop := crcReadsRow.holds Try.pinned (OpenSpec.ofChange crcReadsWrong)

/-- 'isinglasslaw03.CrcBack': WHATEVER THE INPUT: true; the input reads as it did. -/
def crcBackSpec : ChangeSpec := { name := "crcBack", fn := fun _ => fun
  | [d1, d2, d3] => { results := [.lit (.bool true)], args := [d1, d2, d3] }
  | _ => none }
def crcBackRow : OpenClaim := { program := "ytlcilinobdjlaaa", sum := "42ff948ac291236ee38c178e385e4bb537879c102eafb1a7429db322bfcbc3a4", func := "isinglass/isinglasslaw03.CrcBack", spec := "crcBack", apart := false }
def CrcBackSaid : Prop := crcBackRow.holds Try.pinned (OpenSpec.ofChange crcBackSpec)

/-- ITS FALSE NEIGHBOUR: 'it returns false'. Refute it at one input. -/
def crcBackWrong : ChangeSpec := { name := "crcBack", fn := fun _ => fun
  | [d1, d2, d3] => { results := [.lit (.bool false)], args := [d1, d2, d3] }
  | _ => none }
def CrcBackWrongFalsely : Prop := crcBackRow.holds Try.pinned (OpenSpec.ofChange crcBackWrong)

/-- 'isinglasslaw03.CrcFlips': WHATEVER THE INPUT: true; the input reads as it did. -/
def crcFlipsSpec : ChangeSpec := { name := "crcFlips", fn := fun _ => fun
  | [d1, d2, d3] => { results := [.lit (.bool true)], args := [d1, d2, d3] }
  | _ => none }
def crcFlipsRow : OpenClaim := { program := "ytlcilinobdjlaaa", sum := "42ff948ac291236ee38c178e385e4bb537879c102eafb1a7429db322bfcbc3a4", func := "isinglass/isinglasslaw03.CrcFlips", spec := "crcFlips", apart := false }
def CrcFlipsSaid : Prop := crcFlipsRow.holds Try.pinned (OpenSpec.ofChange crcFlipsSpec)

/-- ITS FALSE NEIGHBOUR: 'it returns false'. Refute it at one input. -/
def crcFlipsWrong : ChangeSpec := { name := "crcFlips", fn := fun _ => fun
  | [d1, d2, d3] => { results := [.lit (.bool false)], args := [d1, d2, d3] }
  | _ => none }
def CrcFlipsWrongFalsely : Prop := crcFlipsRow.holds Try.pinned (OpenSpec.ofChange crcFlipsWrong)

/-- 'isinglasslaw03.CrcLinear': WHATEVER THE INPUT: true; the input reads as it did. -/
def crcLinearSpec : ChangeSpec := { name := "crcLinear", fn := fun _ => fun
  | [d1, d2, d3] => { results := [.lit (.bool true)], args := [d1, d2, d3] }
  | _ => none }
def crcLinearRow : OpenClaim := { program := "ytlcilinobdjlaaa", sum := "42ff948ac291236ee38c178e385e4bb537879c102eafb1a7429db322bfcbc3a4", func := "isinglass/isinglasslaw03.CrcLinear", spec := "crcLinear", apart := false }
def CrcLinearSaid : Prop := crcLinearRow.holds Try.pinned (OpenSpec.ofChange crcLinearSpec)

/-- ITS FALSE NEIGHBOUR: 'it returns false'. Refute it at one input. -/
def crcLinearWrong : ChangeSpec := { name := "crcLinear", fn := fun _ => fun
  | [d1, d2, d3] => { results := [.lit (.bool false)], args := [d1, d2, d3] }
  | _ => none }
def CrcLinearWrongFalsely : Prop := crcLinearRow.holds Try.pinned (OpenSpec.ofChange crcLinearWrong)

/-- 'isinglasslaw10.ValuesOrder': WHATEVER THE INPUT: true; the input reads as it did. -/
def valuesOrderSpec : ChangeSpec := { name := "valuesOrder", fn := fun _ => fun
  | [d1, d2] => { results := [.lit (.bool true)], args := [d1, d2] }
  | _ => none }
def valuesOrderRow : OpenClaim := { program := "ytlcilinobdjlaaa", sum := "42ff948ac291236ee38c178e385e4bb537879c102eafb1a7429db322bfcbc3a4", func := "isinglass/isinglasslaw10.ValuesOrder", spec := "valuesOrder", apart := false }
def ValuesOrderSaid : Prop := valuesOrderRow.holds Try.pinned (OpenSpec.ofChange valuesOrderSpec)

/-- ITS FALSE NEIGHBOUR: 'it returns false'. Refute it at one input. -/
def valuesOrderWrong : ChangeSpec := { name := "valuesOrder", fn := fun _ => fun
  | [d1, d2] => { results := [.lit (.bool false)], args := [d1, d2] }
  | _ => none }
def ValuesOrderWrongFalsely : Prop := valuesOrderRow.holds Try.pinned (OpenSpec.ofChange valuesOrderWrong)

/-- 'isinglasslaw10.ValuesThree': WHATEVER THE INPUT: true; the input reads as it did. -/
def valuesThreeSpec : ChangeSpec := { name := "valuesThree", fn := fun _ => fun
  | [d1, d2, d3] => { results := [.lit (.bool true)], args := [d1, d2, d3] }
  | _ => none }
def valuesThreeRow : OpenClaim := { program := "ytlcilinobdjlaaa", sum := "42ff948ac291236ee38c178e385e4bb537879c102eafb1a7429db322bfcbc3a4", func := "isinglass/isinglasslaw10.ValuesThree", spec := "valuesThree", apart := false }
def ValuesThreeSaid : Prop := valuesThreeRow.holds Try.pinned (OpenSpec.ofChange valuesThreeSpec)

/-- ITS FALSE NEIGHBOUR: 'it returns false'. Refute it at one input. -/
def valuesThreeWrong : ChangeSpec := { name := "valuesThree", fn := fun _ => fun
  | [d1, d2, d3] => { results := [.lit (.bool false)], args := [d1, d2, d3] }
  | _ => none }
def ValuesThreeWrongFalsely : Prop := valuesThreeRow.holds Try.pinned (OpenSpec.ofChange valuesThreeWrong)

/-- 'isinglasslaw10.ValuesBytes': WHATEVER THE INPUT: true; the input reads as it did. -/
def valuesBytesSpec : ChangeSpec := { name := "valuesBytes", fn := fun _ => fun
  | [d1, d2, d3] => { results := [.lit (.bool true)], args := [d1, d2, d3] }
  | _ => none }
def valuesBytesRow : OpenClaim := { program := "ytlcilinobdjlaaa", sum := "42ff948ac291236ee38c178e385e4bb537879c102eafb1a7429db322bfcbc3a4", func := "isinglass/isinglasslaw10.ValuesBytes", spec := "valuesBytes", unfollowed := true, recurses := true, apart := false }
def ValuesBytesSaid : Prop := valuesBytesRow.holds Try.pinned (OpenSpec.ofChange valuesBytesSpec)

/-- ITS FALSE NEIGHBOUR: 'it returns false'. Refute it at one input. -/
def valuesBytesWrong : ChangeSpec := { name := "valuesBytes", fn := fun _ => fun
  | [d1, d2, d3] => { results := [.lit (.bool false)], args := [d1, d2, d3] }
  | _ => none }
def ValuesBytesWrongFalsely : Prop := valuesBytesRow.holds Try.pinned (OpenSpec.ofChange valuesBytesWrong)

/-- 'isinglasslaw10.ValuesBack': WHATEVER THE INPUT: true; the input reads as it did. -/
def valuesBackSpec : ChangeSpec := { name := "valuesBack", fn := fun _ => fun
  | [d1, d2] => { results := [.lit (.bool true)], args := [d1, d2] }
  | _ => none }
def valuesBackRow : OpenClaim := { program := "ytlcilinobdjlaaa", sum := "42ff948ac291236ee38c178e385e4bb537879c102eafb1a7429db322bfcbc3a4", func := "isinglass/isinglasslaw10.ValuesBack", spec := "valuesBack", unfollowed := true, recurses := true, apart := false }
def ValuesBackSaid : Prop := valuesBackRow.holds Try.pinned (OpenSpec.ofChange valuesBackSpec)

/-- ITS FALSE NEIGHBOUR: 'it returns false'. Refute it at one input. -/
def valuesBackWrong : ChangeSpec := { name := "valuesBack", fn := fun _ => fun
  | [d1, d2] => { results := [.lit (.bool false)], args := [d1, d2] }
  | _ => none }
def ValuesBackWrongFalsely : Prop := valuesBackRow.holds Try.pinned (OpenSpec.ofChange valuesBackWrong)

/- THE SECOND FORM. 'bulk': how many values and letters a reading holds, each counted each time it is reached (what is shared counts as often as it is met; a slice's spare places count too). A statement '..UptoSaid' is the law's where the arguments, and the package variables that the reading takes, are together of bulk at most 1048576: NARROWER than '..Said'. Prove '..Said' where nothing that the law and all that it calls make is longer than what came in: it says more and counts as full. Else prove '..UptoSaid'. A law counts once. -/
mutual
def uptoBulk {H : Type} : DataW H → Nat
  | .lit (.string bytes) => bytes.length + 1
  | .lit _ => 1
  | .nil => 1
  | .ptr d => uptoBulk d + 1
  | .slice elems spare => uptoBulkAll elems + uptoBulkAll spare + 1
  | .agg parts => uptoBulkAll parts + 1
  | .iface _ d => uptoBulk d + 1
  | .map entries => uptoBulkEntries entries + 1
  | .held _ => 1
def uptoBulkAll {H : Type} : List (DataW H) → Nat
  | [] => 0
  | d :: r => uptoBulk d + uptoBulkAll r
def uptoBulkEntries {H : Type} : List (Lit × DataW H) → Nat
  | [] => 0
  | x :: r => uptoBulkEntry x + uptoBulkEntries r
def uptoBulkEntry {H : Type} : Lit × DataW H → Nat
  | (.string bytes, d) => bytes.length + uptoBulk d + 1
  | (_, d) => uptoBulk d + 1
 end
def uptoSmall : (H : Type) → List (DataW H) → Bool := fun _ ds => decide (uptoBulkAll ds ≤ 1048576)
def OpenSpec.upto (s : _root_.Go.ChangeSpec) : _root_.Go.OpenSpec := { _root_.Go.OpenSpec.ofChange s with cond := some uptoSmall }

/-- 'isinglasslaw03.CrcSums', WHERE WHAT IT READS IS OF BULK AT MOST 1048576: true; the input reads as it did. -/
def crcSumsUptoRow : OpenClaim := { program := "ytlcilinobdjlaaa", sum := "42ff948ac291236ee38c178e385e4bb537879c102eafb1a7429db322bfcbc3a4", func := "isinglass/isinglasslaw03.CrcSums", spec := "crcSums", apart := false, narrowed := true }
def CrcSumsUptoSaid : Prop := crcSumsUptoRow.holds Try.pinned (OpenSpec.upto crcSumsSpec)

/-- 'isinglasslaw03.CrcReads', WHERE WHAT IT READS IS OF BULK AT MOST 1048576: true; the input reads as it did. -/
def crcReadsUptoRow : OpenClaim := { program := "ytlcilinobdjlaaa", sum := "42ff948ac291236ee38c178e385e4bb537879c102eafb1a7429db322bfcbc3a4", func := "isinglass/isinglasslaw03.CrcReads", spec := "crcReads", apart := false, narrowed := true }
def CrcReadsUptoSaid : Prop := crcReadsUptoRow.holds Try.pinned (OpenSpec.upto crcReadsSpec)

/-- 'isinglasslaw03.CrcBack', WHERE WHAT IT READS IS OF BULK AT MOST 1048576: true; the input reads as it did. -/
def crcBackUptoRow : OpenClaim := { program := "ytlcilinobdjlaaa", sum := "42ff948ac291236ee38c178e385e4bb537879c102eafb1a7429db322bfcbc3a4", func := "isinglass/isinglasslaw03.CrcBack", spec := "crcBack", apart := false, narrowed := true }
def CrcBackUptoSaid : Prop := crcBackUptoRow.holds Try.pinned (OpenSpec.upto crcBackSpec)

/-- 'isinglasslaw03.CrcFlips', WHERE WHAT IT READS IS OF BULK AT MOST 1048576: true; the input reads as it did. -/
def crcFlipsUptoRow : OpenClaim := { program := "ytlcilinobdjlaaa", sum := "42ff948ac291236ee38c178e385e4bb537879c102eafb1a7429db322bfcbc3a4", func := "isinglass/isinglasslaw03.CrcFlips", spec := "crcFlips", apart := false, narrowed := true }
def CrcFlipsUptoSaid : Prop := crcFlipsUptoRow.holds Try.pinned (OpenSpec.upto crcFlipsSpec)

/-- 'isinglasslaw03.CrcLinear', WHERE WHAT IT READS IS OF BULK AT MOST 1048576: true; the input reads as it did. -/
def crcLinearUptoRow : OpenClaim := { program := "ytlcilinobdjlaaa", sum := "42ff948ac291236ee38c178e385e4bb537879c102eafb1a7429db322bfcbc3a4", func := "isinglass/isinglasslaw03.CrcLinear", spec := "crcLinear", apart := false, narrowed := true }
def CrcLinearUptoSaid : Prop := crcLinearUptoRow.holds Try.pinned (OpenSpec.upto crcLinearSpec)

/-- 'isinglasslaw10.ValuesOrder', WHERE WHAT IT READS IS OF BULK AT MOST 1048576: true; the input reads as it did. -/
def valuesOrderUptoRow : OpenClaim := { program := "ytlcilinobdjlaaa", sum := "42ff948ac291236ee38c178e385e4bb537879c102eafb1a7429db322bfcbc3a4", func := "isinglass/isinglasslaw10.ValuesOrder", spec := "valuesOrder", apart := false, narrowed := true }
def ValuesOrderUptoSaid : Prop := valuesOrderUptoRow.holds Try.pinned (OpenSpec.upto valuesOrderSpec)

/-- 'isinglasslaw10.ValuesThree', WHERE WHAT IT READS IS OF BULK AT MOST 1048576: true; the input reads as it did. -/
def valuesThreeUptoRow : OpenClaim := { program := "ytlcilinobdjlaaa", sum := "42ff948ac291236ee38c178e385e4bb537879c102eafb1a7429db322bfcbc3a4", func := "isinglass/isinglasslaw10.ValuesThree", spec := "valuesThree", apart := false, narrowed := true }
def ValuesThreeUptoSaid : Prop := valuesThreeUptoRow.holds Try.pinned (OpenSpec.upto valuesThreeSpec)

/-- 'isinglasslaw10.ValuesBytes', WHERE WHAT IT READS IS OF BULK AT MOST 1048576: true; the input reads as it did. -/
def valuesBytesUptoRow : OpenClaim := { program := "ytlcilinobdjlaaa", sum := "42ff948ac291236ee38c178e385e4bb537879c102eafb1a7429db322bfcbc3a4", func := "isinglass/isinglasslaw10.ValuesBytes", spec := "valuesBytes", unfollowed := true, recurses := true, apart := false, narrowed := true }
def ValuesBytesUptoSaid : Prop := valuesBytesUptoRow.holds Try.pinned (OpenSpec.upto valuesBytesSpec)

/-- 'isinglasslaw10.ValuesBack', WHERE WHAT IT READS IS OF BULK AT MOST 1048576: true; the input reads as it did. -/
def valuesBackUptoRow : OpenClaim := { program := "ytlcilinobdjlaaa", sum := "42ff948ac291236ee38c178e385e4bb537879c102eafb1a7429db322bfcbc3a4", func := "isinglass/isinglasslaw10.ValuesBack", spec := "valuesBack", unfollowed := true, recurses := true, apart := false, narrowed := true }
def ValuesBackUptoSaid : Prop := valuesBackUptoRow.holds Try.pinned (OpenSpec.upto valuesBackSpec)

end Rows
end Go.Proofs.Ytlcilinobdjlaaa
