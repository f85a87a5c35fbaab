/-
  What isinglassref01's Uint and Left tell.
-/
import Derived.Test.YtgdiffabnalidaaUint
import Derived.Test.YtgdiffabnalidaaStr
namespace Go.Proofs.Ytgdiffabnalidaa
open Go.RowKit
set_option linter.unusedSimpArgs false
set_option linter.unusedVariables false
variable {L : Nat → Prop}

theorem Kp.drewN {S : List Nat} {a b : World} (h : Kp S a b) (n : Nat) : Kp S a (b.drewN n) := ⟨h.os, h.tape, h.output, h.size, h.block⟩
theorem shl7 (t k : Nat) (h : 128 ^ k * t < 18446744073709551616) : IntKind.u64.wrap ((t : Int) * 2 ^ (7 * k)) = ((128 ^ k * t : Nat) : Int) := by
  have e1 : (t : Int) * 2 ^ (7 * k) = ((128 ^ k * t : Nat) : Int) := by rw [← pow7]; simp [Int.mul_comm]
  rw [e1, IntWalk.u64_in _ (by omega)]

theorem Rdr01.c2 {w : World} {L : Nat → Prop} {p : Nat} {bs : List Int} {a : Nat} {b : Bool} (h : Rdr01 w L p bs a b) :
    w.cell? ⟨p, 1, none⟩ = some (.int .i64 a) ∧ w.cell? ⟨p, 2, none⟩ = some (.bool b) ∧ w.frozen? ⟨p, 1, none⟩ = false ∧ w.frozen? ⟨p, 2, none⟩ = false :=
  let ⟨_, _, h1, _⟩ := h; let ⟨_, c1, c2, f1, f2⟩ := rdr01_cells h1; ⟨c1, c2, f1, f2⟩

end Go.Proofs.Ytgdiffabnalidaa
