/-
  Values: what is known.
-/
import Derived.Test.YtlcilinobdjlaaaVal5
namespace Go.Proofs.Ytlcilinobdjlaaa
open Go.RowKit
set_option linter.unusedSimpArgs false
set_option linter.unusedVariables false

theorem kn1 : cmpV 1 (-1) ⟨#[]⟩ 1 1 ⟨#[]⟩ = -1 := by simp [cmpV, orL, cmpI]
theorem kn2 : cmpV 2 0 ⟨#[98]⟩ 2 0 ⟨#[97]⟩ = 1 := by simp [cmpV, orL, cmpI, cmpS, ByteArray.toList_eq, Op.bytesLess]
theorem kn3 : cmpV 1 5 ⟨#[]⟩ 2 0 ⟨#[97]⟩ = -1 := by simp [cmpV, orL, cmpI]
theorem kn4 : valB 2 0 ⟨#[97, 98]⟩ = [2, 97, 98] := by
  have : short (ByteArray.size ⟨#[97, 98]⟩) = [2] := by rfl
  rw [valB, this]; simp [sbytes]
theorem kn5 : mayV 0 0 ⟨#[]⟩ = false := by simp [mayV]
theorem kn6 : strOfNums [2, 97, 98] = ⟨#[2, 97, 98]⟩ := by rfl
theorem kn7 (w : World) : Calls Try.prog 26 #[.slice none 0 0, .agg #[.int .u8 2, .int .i64 0, .string ⟨#[97, 98]⟩]] w fun e w' => ∃ ad cap, e = .returned (.slice ad 3 cap) ∧ Own w' w.heap.size 5 .u8 ad cap [2, 97, 98] ∧ Kp [] w w' := by
  refine (vAppend_any 2 0 ⟨#[97, 98]⟩ none 0 0 [] rfl w ⟨by simp, by omega, by simp⟩ (by omega) (by decide)).mono ?_
  rintro e w1 ⟨ad, cap, rfl, ho, kp⟩
  rw [kn4] at ho ⊢
  exact ⟨ad, cap, rfl, ho, kp⟩

theorem known10_any (w : World) : Calls Try.prog 19 #[] w fun e w' => e = .returned (.bool true) ∧ Kp [] w w' := by
  have K := Lib.hid (Kp.refl [] w)
  go_enter Try.func19, Try.ntmps19
  go_wp2_with first
    | (go_at_call 20; refine (vInt_any _ _).mono ?_; rintro e w' ⟨rfl, kp⟩; replace K := Lib.hid (K.out.tr kp); clear kp)
    | (go_at_call 21; refine (vText_any _ _).mono ?_; rintro e w' ⟨rfl, kp⟩; replace K := Lib.hid (K.out.tr kp); clear kp)
    | (go_at_call 24; refine (vCompare_any _ _ _ _ _ _ _).mono ?_; rintro e w' ⟨rfl, kp⟩; replace K := Lib.hid (K.out.tr kp); clear kp; first | rw [kn1] | rw [kn2] | rw [kn3])
    | (go_at_call 26; refine (kn7 _).mono ?_; rintro e w' ⟨ad, cap, rfl, ho, kp⟩; replace K := Lib.hid (K.out.tr kp); clear kp; have hcv := conv_str w' 22 9 5 Try.underlying22 Try.underlying5 Try.underlying9 ad cap 3 [2, 97, 98] ho.rd rfl; rw [kn6] at hcv)
    | (go_at_call 22; refine (vMay_any _ _ _ _).mono ?_; rintro e w' ⟨rfl, kp⟩; replace K := Lib.hid (K.out.tr kp); clear kp; rw [kn5])
  go_ret
  exact ⟨rfl, K.out⟩
end Go.Proofs.Ytlcilinobdjlaaa
