/-
  The sums of package crc and of the document.
-/
import Derived.Test.YtfacpfogdcefpaaCrcL
import Derived.Laws.Tables
import Derived.Laws.BitsAllLaws
namespace Go.Proofs.Ytfacpfogdcefpaa
open Go.RowKit
set_option linter.unusedSimpArgs false
set_option linter.unusedVariables false

/-- What a byte does. -/
def tabL : List Int := (List.range 256).map fun i => ((shN 8 i : Nat) : Int)

theorem tabL_length : tabL.length = 256 := by simp [tabL]
theorem tabL_nth (i : Nat) (h : i < 256) : nth tabL i = ((shN 8 i : Nat) : Int) := by simp [nth, tabL, h]
/-- The table, as far as it is made. -/
def tabU (k : Nat) : List Int := tabL.take k ++ List.replicate (256 - k) 0
theorem tabU_length (k : Nat) (h : k ≤ 256) : (tabU k).length = 256 := by simp [tabU, tabL_length]; omega
theorem tabU_step (k : Nat) (h : k < 256) : (tabU k).set k ((shN 8 k : Nat) : Int) = tabU (k + 1) := by
  rw [tabU, tabU, take_nth tabL k (by rw [tabL_length]; exact h), tabL_nth k h, List.set_append_right _ _ (by simp [tabL_length]; omega)]
  rw [show k - (tabL.take k).length = 0 by simp [tabL_length]; omega, show 256 - k = (256 - (k + 1)) + 1 by omega, List.replicate_succ]
  simp

theorem neg_and1 (y : Nat) (h : y < 4294967296) : bits .and .u32 3988292384 (-(bits .and .u32 (y : Int) 1) % 4294967296) = ((if y % 2 = 1 then 3988292384 else 0 : Nat) : Int) := by
  have e1 : bits .and .u32 (y : Int) 1 = ((y % 2 : Nat) : Int) := by
    rw [show (1 : Int) = ((1 : Nat) : Int) from rfl, u32_and_nat y 1 h (by omega), nat_mask1]
  rw [e1]
  rcases Nat.mod_two_eq_zero_or_one y with h0 | h0
  · rw [h0]; decide +kernel
  · rw [h0]; decide +kernel
theorem sh1_prog (y : Nat) (h : y < 4294967296) : bits .xor .u32 ((y : Int) / 2) ((if y % 2 = 1 then 3988292384 else 0 : Nat) : Int) = ((sh1 y : Nat) : Int) := by
  rw [show ((y : Int) / 2) = ((y / 2 : Nat) : Int) by omega, u32_xor_nat (y / 2) _ (by omega) (by split <;> omega)]
  unfold sh1
  split
  · rfl
  · rw [Nat.xor_zero]

end Go.Proofs.Ytfacpfogdcefpaa
