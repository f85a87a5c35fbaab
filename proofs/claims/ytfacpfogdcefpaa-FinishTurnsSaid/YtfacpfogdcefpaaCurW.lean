/-
  What package cursor's writers, and isinglassref01.Short, tell.
-/
import Derived.Test.YtfacpfogdcefpaaCursorN
import Derived.Test.YtfacpfogdcefpaaRef01
namespace Go.Proofs.Ytfacpfogdcefpaa
open Go.RowKit
set_option linter.unusedSimpArgs false
set_option linter.unusedVariables false

/-- A short number's bytes. -/
def sh : Nat → Nat → List Int
  | 0, n => [(n : Int)]
  | f + 1, n => if n < 128 then [(n : Int)] else ((n % 128 + 128 : Nat) : Int) :: sh f (n / 128)
def short (n : Nat) : List Int := sh 9 n
theorem sh_small (f n : Nat) (h : n < 128) : sh f n = [(n : Int)] := by cases f <;> simp [sh, h]
theorem sh_big (f n : Nat) (h : ¬ n < 128) : sh (f + 1) n = ((n % 128 + 128 : Nat) : Int) :: sh f (n / 128) := by rw [sh, if_neg h]
theorem sh_length (f : Nat) : ∀ n, 1 ≤ (sh f n).length ∧ (sh f n).length ≤ f + 1 := by
  induction f with
  | zero => intro n; simp [sh]
  | succ f ih =>
    intro n
    simp only [sh]
    split
    · simp
    · have := ih (n / 128); simp only [List.length_cons]; omega
theorem short_length (n : Nat) : 1 ≤ (short n).length ∧ (short n).length ≤ 10 := sh_length 9 n
theorem sh_bytes (f : Nat) : ∀ n, n < 128 ^ (f + 1) → Bytes8 (sh f n) := by
  induction f with
  | zero => intro n hn z hz; simp [sh] at hz; subst hz; simp at hn; omega
  | succ f ih =>
    intro n hn z hz
    simp only [sh] at hz
    split at hz
    · simp at hz; subst hz; omega
    · rcases List.mem_cons.1 hz with rfl | hz
      · omega
      · exact ih (n / 128) (by rw [Nat.pow_succ] at hn; omega) z hz
theorem short_bytes (n : Nat) (h : n < 18446744073709551616) : Bytes8 (short n) := sh_bytes 9 n (Nat.lt_of_lt_of_le h (by decide))

theorem or128_fin : ∀ y : Fin 256, bits BinOp.or IntKind.u8 ((y.val : Nat) : Int) 128 = ((y.val % 128 + 128 : Nat) : Int) := by decide +kernel
theorem or128 (x : Nat) : bits BinOp.or IntKind.u8 ((x : Int) % 256) 128 = ((x % 128 + 128 : Nat) : Int) := by
  have := or128_fin ⟨x % 256, Nat.mod_lt _ (by omega)⟩
  simp only at this
  rw [show ((x : Int) % 256) = ((x % 256 : Nat) : Int) by omega, this]
  congr 1; omega

/-- How far a short number is written. -/
def ShAt (m x : Nat) (pre : List Int) : Prop := ∃ f, short m = pre ++ sh f x ∧ x < 128 ^ (f + 1) ∧ pre.length + f ≤ 9 ∧ x < 18446744073709551616
theorem ShAt.start (m : Nat) (h : m < 18446744073709551616) : ShAt m m [] := ⟨9, rfl, Nat.lt_of_lt_of_le h (by decide), by simp, h⟩
theorem ShAt.step {m x : Nat} {pre : List Int} (h : ShAt m x pre) (hx : ¬ x < 128) : ShAt m (x / 128) (pre ++ [((x % 128 + 128 : Nat) : Int)]) ∧ pre.length ≤ 9 := by
  obtain ⟨f, h1, h2, h3, h4⟩ := h
  cases f with
  | zero => simp at h2; omega
  | succ f =>
    refine ⟨⟨f, ?_, ?_, ?_, by omega⟩, by omega⟩
    · rw [h1, sh_big f x hx]; simp
    · rw [Nat.pow_succ] at h2; omega
    · simp; omega
theorem ShAt.lt {m x : Nat} {pre : List Int} (h : ShAt m x pre) : x < 18446744073709551616 := let ⟨_, _, _, _, h4⟩ := h; h4
theorem ShAt.last {m x : Nat} {pre : List Int} (h : ShAt m x pre) (hx : x < 128) : short m = pre ++ [(x : Int)] ∧ pre.length ≤ 9 := by
  obtain ⟨f, h1, h2, h3, h4⟩ := h
  exact ⟨by rw [h1, sh_small f x hx], by omega⟩

end Go.Proofs.Ytfacpfogdcefpaa
