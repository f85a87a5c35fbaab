/-
  What slices.Clone and the reader of package cursor tell.
-/
import Derived.Test.YthmaobmgogmaoaaBase
import Derived.Deep.QuietTactic
import Derived.BigQuiet
namespace Go.Proofs.Ythmaobmgogmaoaa
open Go.RowKit
set_option linter.unusedSimpArgs false
set_option linter.unusedVariables false
variable {L : Nat}

/-- Bytes. -/
def Bytes8 (zs : List Int) : Prop := ∀ z ∈ zs, 0 ≤ z ∧ z ≤ 255

theorem Rd.keepne {w w' : World} {k : IntKind} {ad : Option Addr} {cap : Nat} {zs : List Int} (h : Rd w k ad cap zs) {S : List Nat} (hk : Kp S w w') (hn : ∀ x, ad = some x → zs ≠ [] → x.block ∉ S) : Rd w' k ad cap zs := by
  by_cases hz : zs = []
  · subst hz; exact ⟨h.1, h.2.1, fun i hi => by simp at hi⟩
  · exact h.keep hk (fun x hx => hn x hx hz)

/-- What there is to be had. -/
def rok (bs : List Int) (a : Nat) (bad : Bool) (n : Int) : Prop := bad = false ∧ 0 ≤ n ∧ n ≤ ((bs.length - a : Nat) : Int)

end Go.Proofs.Ythmaobmgogmaoaa
