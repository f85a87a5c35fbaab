/-
  The document's Unframe.
-/
import Derived.Test.YtfacpfogdcefpaaCrc3
namespace Go.Proofs.Ytfacpfogdcefpaa
open Go.RowKit
set_option linter.unusedSimpArgs false
set_option linter.unusedVariables false

theorem fr_iff {l : List Int} (hb : Bytes8 l) (h : 4 + unN l + 4 ≤ l.length) : frB (sub l 4 (4 + unN l)) = sub l 0 (4 + unN l + 4) ↔ leN (sub l (4 + unN l) (4 + unN l + 4)) = crc (sub l 4 (4 + unN l)) := by
  have e1 : le (unN l) 4 = sub l 0 4 := by
    have := le_leN (sub l 0 4) (hb.sub 0 4)
    rwa [sub_length _ _ _ (by omega)] at this
  have e2 : (sub l 4 (4 + unN l)).length = unN l := by rw [sub_length _ _ _ (by omega)]; omega
  have e3 : sub l 0 (4 + unN l + 4) = sub l 0 4 ++ sub l 4 (4 + unN l) ++ sub l (4 + unN l) (4 + unN l + 4) := by
    rw [sub_split l 0 (4 + unN l) (4 + unN l + 4) (by omega) (by omega), sub_split l 0 4 (4 + unN l) (by omega) (by omega)]
  rw [frB, e2, e1, e3, List.append_cancel_left_eq]
  have e4 := le_leN (sub l (4 + unN l) (4 + unN l + 4)) (hb.sub _ _)
  rw [sub_length _ _ _ h, show 4 + unN l + 4 - (4 + unN l) = 4 by omega] at e4
  constructor
  · intro hh
    have := congrArg leN hh
    rw [leN_le 4 _ (crc_lt _)] at this
    exact this.symm
  · intro hh; rw [← hh]; exact e4
theorem leN4 {l : List Int} (h : 4 ≤ l.length) (hb : Bytes8 l) : ((unN l : Nat) : Int) = nth l 0 + 256 * nth l 1 + 65536 * nth l 2 + 16777216 * nth l 3 := by
  match l, h with
  | a :: b :: c :: d :: r, _ =>
    have h0 := hb a (by simp)
    have h1 := hb b (by simp)
    have h2 := hb c (by simp)
    have h3 := hb d (by simp)
    simp [unN, sub, leN, nth]
    omega

end Go.Proofs.Ytfacpfogdcefpaa
