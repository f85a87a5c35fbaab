/-
  DERIVED. GIVEN WITH THE SEED: THE CARDS: each row of YtimemehaccgmmaaGreatDoorRows.lean that lists a variable, with what it lists TIED to the program's text (the seventh form; the later family's looks); each row that meets fmt, with fmt's text TOLD by the authors' own Lean function (tested against real Go, not proved from fmt's source: count such statements apart). THE CARD IS WHAT COUNTS. Prove the row's statement (the work); the ties are given (YtimemehaccgmmaaGreatDoorTie.lean); close each card by the builder's one call (the guide's Derived/Test/ToyasCard.lean, 'card_holds'). Laid BY PROGRAM, IN A SANDBOX (cutbox-door.mjs). By AI agents, Wed Nov 11 2026. No macro, syntax, notation, axiom, sorry.
-/
import Derived.Test.YtimemehaccgmmaaGreatDoorRows
import GoSem.ClaimSeven
namespace Go.Proofs.YtimemehaccgmmaaGreatDoor
namespace Rows

/-- THE TIED CARD OF 'isinglasstop.TopBitmaps'. -/
def topBitmapsCard : Claim7 := { stood := { row := topBitmapsRow, standIns := [], harness := (true, "8c983feb572f71ce80985e782819b9f64a2b1cadcc551f1d3b674474907f5f1d"), looks := true }, kinds := [], alts := [], laidByText := true, laidKinds := [.data, .data, .data], laidTests := true, laidLooks := .later }
def TopBitmapsCardSaid : Prop := Claim7.holds Tryz.pinned (.plain (OpenSpec.ofChange topBitmapsSpec)) topBitmapsCard

/-- THE TIED CARD OF 'isinglasstop.TopSizes'. -/
def topSizesCard : Claim7 := { stood := { row := topSizesRow, standIns := [], harness := (true, "8c983feb572f71ce80985e782819b9f64a2b1cadcc551f1d3b674474907f5f1d"), looks := true }, kinds := [], alts := [], laidByText := true, laidKinds := [.data, .data, .data], laidTests := true, laidLooks := .later }
def TopSizesCardSaid : Prop := Claim7.holds Tryz.pinned (.plain (OpenSpec.ofChange topSizesSpec)) topSizesCard

/-- THE SECOND FORM's CARD OF 'isinglasstop.TopBitmaps'. -/
def topBitmapsUptoCard : Claim7 := { stood := { row := topBitmapsUptoRow, standIns := [], harness := (true, "8c983feb572f71ce80985e782819b9f64a2b1cadcc551f1d3b674474907f5f1d"), looks := true }, kinds := [], alts := [], laidByText := true, laidKinds := [.data, .data, .data], laidTests := true, laidLooks := .later }
def TopBitmapsUptoCardSaid : Prop := Claim7.holds Tryz.pinned (.plain (OpenSpec.upto topBitmapsSpec)) topBitmapsUptoCard

/-- THE SECOND FORM's CARD OF 'isinglasstop.TopSizes'. -/
def topSizesUptoCard : Claim7 := { stood := { row := topSizesUptoRow, standIns := [], harness := (true, "8c983feb572f71ce80985e782819b9f64a2b1cadcc551f1d3b674474907f5f1d"), looks := true }, kinds := [], alts := [], laidByText := true, laidKinds := [.data, .data, .data], laidTests := true, laidLooks := .later }
def TopSizesUptoCardSaid : Prop := Claim7.holds Tryz.pinned (.plain (OpenSpec.upto topSizesSpec)) topSizesUptoCard
end Rows
end Go.Proofs.YtimemehaccgmmaaGreatDoor
