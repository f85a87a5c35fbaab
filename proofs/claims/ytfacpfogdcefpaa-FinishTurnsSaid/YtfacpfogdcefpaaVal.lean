/-
  Values: their order.
-/
import Derived.Test.YtfacpfogdcefpaaBase
import Derived.Laws.StructEq
import Derived.Laws.Cover1
namespace Go.Proofs.Ytfacpfogdcefpaa
open Go.RowKit
set_option linter.unusedSimpArgs false
set_option linter.unusedVariables false

theorem nanU8_any (n : Int) (w : World) : Calls Try.prog 64 #[.int .u8 n] w fun e w' => e = .returned (.bool false) ∧ w' = w := by
  go_enter Try.func64, Try.ntmps64
  go_wp2
  go_ret
  exact ⟨rfl, rfl⟩
theorem nanI64_any (n : Int) (w : World) : Calls Try.prog 65 #[.int .i64 n] w fun e w' => e = .returned (.bool false) ∧ w' = w := by
  go_enter Try.func65, Try.ntmps65
  go_wp2
  go_ret
  exact ⟨rfl, rfl⟩
theorem nanStr_any (s : ByteArray) (w : World) : Calls Try.prog 66 #[.string s] w fun e w' => e = .returned (.bool false) ∧ w' = w := by
  go_enter Try.func66, Try.ntmps66
  go_wp2
  go_ret
  exact ⟨rfl, rfl⟩

/-- -1, 0 or 1. -/
def cmpI (a b : Int) : Int := if a < b then -1 else if b < a then 1 else 0
def cmpS (a b : ByteArray) : Int := if Op.bytesLess a.toList b.toList then -1 else if a.toList == b.toList then 0 else 1

theorem cmpU8_any (a b : Int) (w : World) : Calls Try.prog 45 #[.int .u8 a, .int .u8 b] w fun e w' => e = .returned (.int .i64 (cmpI a b)) ∧ w' = w := by
  rcases Int.lt_trichotomy a b with h | h | h
  all_goals
    go_enter Try.func45, Try.ntmps45
    go_wp2_with first | (go_at_call 64; refine (nanU8_any _ _).mono ?_; rintro _ _ ⟨rfl, rfl⟩) | fail
    go_ret
    simp [cmpI]; try omega
theorem cmpI64_any (a b : Int) (w : World) : Calls Try.prog 46 #[.int .i64 a, .int .i64 b] w fun e w' => e = .returned (.int .i64 (cmpI a b)) ∧ w' = w := by
  rcases Int.lt_trichotomy a b with h | h | h
  all_goals
    go_enter Try.func46, Try.ntmps46
    go_wp2_with first | (go_at_call 65; refine (nanI64_any _ _).mono ?_; rintro _ _ ⟨rfl, rfl⟩) | fail
    go_ret
    simp [cmpI]; try omega
theorem cmpStr_any (a b : ByteArray) (w : World) : Calls Try.prog 47 #[.string a, .string b] w fun e w' => e = .returned (.int .i64 (cmpS a b)) ∧ w' = w := by
  cases h : Op.bytesLess a.toList b.toList
  · cases h2 : a.toList == b.toList
    all_goals
      go_enter Try.func47, Try.ntmps47
      go_wp2_with first | (go_at_call 66; refine (nanStr_any _ _).mono ?_; rintro _ _ ⟨rfl, rfl⟩) | fail
      go_ret
      simp [cmpS, h, h2]
  · go_enter Try.func47, Try.ntmps47
    go_wp2_with first | (go_at_call 66; refine (nanStr_any _ _).mono ?_; rintro _ _ ⟨rfl, rfl⟩) | fail
    go_ret
    simp [cmpS, h]

theorem bl_irrefl : ∀ x, Op.bytesLess x x = false
  | [] => rfl
  | a :: x => by simp [Op.bytesLess, bl_irrefl x, UInt8.lt_irrefl]
theorem bl_tri : ∀ x y, Op.bytesLess x y = true ∨ x = y ∨ Op.bytesLess y x = true
  | [], [] => by simp
  | [], _ :: _ => by simp [Op.bytesLess]
  | _ :: _, [] => by simp [Op.bytesLess]
  | a :: x, b :: y => by
    have h := bl_tri x y
    simp only [Op.bytesLess, Bool.or_eq_true, decide_eq_true_eq, Bool.and_eq_true, beq_iff_eq, List.cons.injEq, UInt8.lt_iff_toNat_lt, ← UInt8.toNat_inj]
    rcases Nat.lt_trichotomy a.toNat b.toNat with k | k | k
    · simp [k]
    · simp only [k, Nat.lt_irrefl, true_and, false_or]; exact h
    · simp [k]
theorem bl_trans : ∀ x y z, Op.bytesLess x y = true → Op.bytesLess y z = true → Op.bytesLess x z = true
  | _, [], z, h, _ => by cases ‹List UInt8› <;> simp [Op.bytesLess] at h
  | _, _ :: _, [], _, h => by simp [Op.bytesLess] at h
  | [], _ :: _, _ :: _, _, _ => by simp [Op.bytesLess]
  | a :: x, b :: y, c :: z, h, k => by
    have ih := bl_trans x y z
    simp only [Op.bytesLess, Bool.or_eq_true, decide_eq_true_eq, Bool.and_eq_true, beq_iff_eq, UInt8.lt_iff_toNat_lt, ← UInt8.toNat_inj] at h k ⊢
    rcases h with h | ⟨h, h2⟩
    · rcases k with k | ⟨k, k2⟩ <;> left <;> omega
    · rcases k with k | ⟨k, k2⟩
      · left; omega
      · exact .inr ⟨by omega, ih h2 k2⟩
theorem bl_asymm (x y : List UInt8) (h : Op.bytesLess x y = true) : Op.bytesLess y x = false := by
  cases k : Op.bytesLess y x
  · rfl
  · have := bl_trans x y x h k
    rw [bl_irrefl] at this; simp at this
end Go.Proofs.Ytfacpfogdcefpaa
