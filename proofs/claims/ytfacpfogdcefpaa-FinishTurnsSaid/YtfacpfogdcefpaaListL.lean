/-
  Plain laws on pieces of lists.
-/
import Derived.Test.YtfacpfogdcefpaaCursorN
namespace Go.Proofs.Ytfacpfogdcefpaa
open Go.RowKit
set_option linter.unusedSimpArgs false
set_option linter.unusedVariables false

theorem leN_le (s : Nat) : ∀ n, n < 256 ^ s → leN (le n s) = n := by
  induction s with
  | zero => intro n hn; simp at hn; subst hn; rfl
  | succ s ih =>
    intro n hn
    rw [Nat.pow_succ] at hn
    simp only [le, leN, ih (n / 256) (by omega), Int.toNat_natCast]
    omega
theorem sub_left (l m : List Int) (a b : Nat) (hb : b ≤ l.length) : sub (l ++ m) a b = sub l a b := by
  simp only [sub]
  by_cases ha : a ≤ l.length
  · rw [List.drop_append_of_le_length ha, List.take_append_of_le_length (by rw [List.length_drop]; omega)]
  · rw [show b - a = 0 by omega]; simp
theorem sub_right (l m : List Int) (a b : Nat) (ha : l.length ≤ a) : sub (l ++ m) a b = sub m (a - l.length) (b - l.length) := by
  simp only [sub]
  rw [List.drop_append, List.drop_eq_nil_of_le ha, List.nil_append, show b - l.length - (a - l.length) = b - a by omega]
theorem le_bytes (s : Nat) : ∀ n, Bytes8 (le n s) := by
  induction s with
  | zero => intro n z hz; simp [le] at hz
  | succ s ih =>
    intro n z hz
    simp only [le, List.mem_cons] at hz
    rcases hz with rfl | hz
    · omega
    · exact ih _ z hz
theorem bytes8_append {l m : List Int} (h1 : Bytes8 l) (h2 : Bytes8 m) : Bytes8 (l ++ m) := fun z hz => (List.mem_append.1 hz).elim (h1 z) (h2 z)
theorem sub_mid (p x r : List Int) (i k : Nat) (hi : i = p.length) (hk : k = i + x.length) : sub (p ++ (x ++ r)) i k = x := by
  subst hi; subst hk
  simp [sub]
theorem le_mod (s : Nat) : ∀ n, le (n % 256 ^ s) s = le n s := by
  induction s with
  | zero => intro n; rfl
  | succ s ih =>
    intro n
    simp only [le]
    have h1 : n % 256 ^ (s + 1) % 256 = n % 256 := by rw [Nat.pow_succ, Nat.mul_comm]; exact Nat.mod_mul_right_mod n 256 (256 ^ s)
    have h2 : n % 256 ^ (s + 1) / 256 = n / 256 % 256 ^ s := by rw [Nat.pow_succ, Nat.mul_comm]; exact Nat.mod_mul_right_div_self n 256 (256 ^ s)
    rw [h1, h2, ih]
theorem le_leN (l : List Int) (h : Bytes8 l) : le (leN l) l.length = l := by
  induction l with
  | nil => rfl
  | cons z l ih =>
    have h1 := h z (by simp)
    have h2 := ih (fun y hy => h y (List.mem_cons_of_mem _ hy))
    simp only [leN, List.length_cons, le]
    rw [show (z.toNat + 256 * leN l) / 256 = leN l by omega, h2, show ((z.toNat + 256 * leN l) % 256 : Nat) = z.toNat by omega]
    congr 1; omega
theorem sub_split (bs : List Int) (a b c : Nat) (h1 : a ≤ b) (h2 : b ≤ c) : sub bs a c = sub bs a b ++ sub bs b c := by
  simp only [sub]
  rw [show c - a = (b - a) + (c - b) by omega, List.take_add, List.drop_drop, show a + (b - a) = b by omega]
end Go.Proofs.Ytfacpfogdcefpaa
