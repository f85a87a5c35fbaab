/-
  Plain laws of packed numbers.
-/
import Derived.Test.YtgdiffabnalidaaListL
import Derived.Lib.ItoaNum
namespace Go.Proofs.Ytgdiffabnalidaa
open Go.RowKit
set_option linter.unusedSimpArgs false
set_option linter.unusedVariables false

/-- Numbers of so many bits, one behind the other, as one. -/
def vn (wd : Nat) : List Int → Nat
  | [] => 0
  | x :: l => x.toNat + 2 ^ wd * vn wd l
theorem vn_append (wd : Nat) (l m : List Int) : vn wd (l ++ m) = vn wd l + 2 ^ (l.length * wd) * vn wd m := by
  induction l with
  | nil => simp [vn]
  | cons x l ih =>
    simp only [List.cons_append, vn, ih, List.length_cons, Nat.succ_mul, Nat.pow_add]
    rw [Nat.mul_add, Nat.add_assoc, ← Nat.mul_assoc, Nat.mul_comm (2 ^ wd) (2 ^ (l.length * wd))]
def Fit (wd : Nat) (l : List Int) : Prop := ∀ x ∈ l, 0 ≤ x ∧ x.toNat < 2 ^ wd
theorem vn_lt (wd : Nat) (l : List Int) (h : Fit wd l) : vn wd l < 2 ^ (l.length * wd) := by
  induction l with
  | nil => simp [vn]
  | cons x l ih =>
    have h1 := (h x (by simp)).2
    have h2 := ih (fun y hy => h y (List.mem_cons_of_mem _ hy))
    simp only [vn, List.length_cons, Nat.succ_mul, Nat.pow_add]
    have : 2 ^ wd * (vn wd l + 1) ≤ 2 ^ wd * 2 ^ (l.length * wd) := Nat.mul_le_mul_left _ h2
    rw [Nat.mul_add, Nat.mul_one] at this
    rw [Nat.mul_comm (2 ^ (l.length * wd))]
    omega
theorem vn_take (wd : Nat) (l : List Int) (i : Nat) (h : i < l.length) : vn wd (l.take (i + 1)) = vn wd (l.take i) + 2 ^ (i * wd) * (nth l i).toNat := by
  rw [take_nth l i h, vn_append, List.length_take, Nat.min_eq_left (by omega)]
  simp [vn]
theorem Fit.take {wd : Nat} {l : List Int} (h : Fit wd l) (i : Nat) : Fit wd (l.take i) := fun x hx => h x (List.mem_of_mem_take hx)
def sizeN (n wd : Nat) : Nat := (n * wd + 7) / 8
def packs (wd : Nat) (l : List Int) : List Int := le (vn wd l) (sizeN l.length wd)
theorem packs_length (wd : Nat) (l : List Int) : (packs wd l).length = sizeN l.length wd := le_length _ _

theorem nth_le (s : Nat) : ∀ n q, q < s → nth (le n s) q = ((n / 256 ^ q % 256 : Nat) : Int) := by
  induction s with
  | zero => intro n q h; omega
  | succ s ih =>
    intro n q h
    cases q with
    | zero => simp [le, nth]
    | succ q =>
      have := ih (n / 256) q (by omega)
      rw [Nat.pow_succ, Nat.mul_comm, ← Nat.div_div_eq_div_mul, ← this]
      simp [le, nth]
theorem leN_digit (l : List Int) (h : Bytes8 l) (q : Nat) (hq : q < l.length) : leN l / 256 ^ q % 256 = (nth l q).toNat := by
  have h1 := nth_le l.length (leN l) q hq
  rw [le_leN l h] at h1
  omega
theorem p256 (q : Nat) : 256 ^ q = 2 ^ (8 * q) := by rw [Nat.pow_mul]
/-- A bit of a number is a bit of its byte. -/
theorem digit_bit (n m : Nat) : n / 2 ^ m % 2 = n / 256 ^ (m / 8) % 256 / 2 ^ (m % 8) % 2 := by
  have h1 : 2 ^ m = 256 ^ (m / 8) * 2 ^ (m % 8) := by rw [p256, ← Nat.pow_add]; congr 1; omega
  have h2 : 256 = 2 ^ (m % 8) * 2 ^ (8 - m % 8) := by rw [← Nat.pow_add, show m % 8 + (8 - m % 8) = 8 by omega]
  rw [h1, ← Nat.div_div_eq_div_mul]
  generalize n / 256 ^ (m / 8) = y
  have h3 : y % 256 / 2 ^ (m % 8) = y / 2 ^ (m % 8) % 2 ^ (8 - m % 8) := by
    conv => lhs; rw [h2]
    exact Nat.mod_mul_right_div_self y _ _
  rw [h3]
  obtain ⟨c, hc⟩ : ∃ c, 8 - m % 8 = c + 1 := ⟨7 - m % 8, by omega⟩
  rw [hc, Nat.pow_succ, Nat.mul_comm, Nat.mod_mul_right_mod]
theorem bits_beyond (n m : Nat) (h : n < 2 ^ m) : n / 2 ^ m = 0 := Nat.div_eq_of_lt h
theorem leN_bound (l : List Int) (h : Bytes8 l) : leN l < 2 ^ (8 * l.length) := by rw [← p256]; exact leN_lt l h

theorem low_step (n k : Nat) : n % 2 ^ (k + 1) = n % 2 ^ k + 2 ^ k * (n / 2 ^ k % 2) := by rw [Nat.pow_succ, Nat.mod_mul]

/-- A digit more. -/
theorem le_add (s : Nat) : ∀ n q d, q < s → n / 256 ^ q % 256 + d < 256 → le (n + d * 256 ^ q) s = (le n s).set q (((n / 256 ^ q % 256 + d : Nat)) : Int) := by
  induction s with
  | zero => intro n q d h; omega
  | succ s ih =>
    intro n q d h hd
    cases q with
    | zero =>
      simp only [Nat.pow_zero, Nat.div_one, Nat.mul_one] at hd ⊢
      simp only [le, List.set_cons_zero]
      rw [show (n + d) % 256 = n % 256 + d by omega, show (n + d) / 256 = n / 256 by omega]
    | succ q =>
      have e1 : n / 256 ^ (q + 1) = n / 256 / 256 ^ q := by rw [Nat.pow_succ, Nat.mul_comm, Nat.div_div_eq_div_mul]
      rw [e1] at hd ⊢
      have e2 : n + d * 256 ^ (q + 1) = n + 256 * (d * 256 ^ q) := by rw [Nat.pow_succ]; rw [Nat.mul_comm (256 ^ q), ← Nat.mul_assoc, Nat.mul_comm d, Nat.mul_assoc]
      rw [e2]
      simp only [le, List.set_cons_succ]
      rw [show (n + 256 * (d * 256 ^ q)) % 256 = n % 256 by omega, show (n + 256 * (d * 256 ^ q)) / 256 = n / 256 + d * 256 ^ q by omega, ih (n / 256) q d (by omega) hd]

/-- A bit more, behind all that there are. -/
theorem le_bit (s n m b : Nat) (hn : n < 2 ^ m) (hb : b ≤ 1) (hm : m / 8 < s) :
    n / 256 ^ (m / 8) % 256 < 2 ^ (m % 8) ∧ le (n + b * 2 ^ m) s = (le n s).set (m / 8) (((n / 256 ^ (m / 8) % 256 + b * 2 ^ (m % 8) : Nat)) : Int) := by
  have h1 : 2 ^ m = 256 ^ (m / 8) * 2 ^ (m % 8) := by rw [p256, ← Nat.pow_add]; congr 1; omega
  have h2 : n / 256 ^ (m / 8) < 2 ^ (m % 8) := by rw [Nat.div_lt_iff_lt_mul (Nat.pow_pos (by omega)), Nat.mul_comm, ← h1]; exact hn
  have h3 : n / 256 ^ (m / 8) % 256 < 2 ^ (m % 8) := Nat.lt_of_le_of_lt (Nat.mod_le _ _) h2
  have h4 : 2 ^ (m % 8) * 2 ≤ 256 := by
    have : 2 ^ (m % 8 + 1) ≤ 2 ^ 8 := Nat.pow_le_pow_right (by omega) (by omega)
    rwa [Nat.pow_succ] at this
  have h5 : b * 2 ^ (m % 8) ≤ 2 ^ (m % 8) := by have := Nat.mul_le_mul_right (2 ^ (m % 8)) hb; omega
  refine ⟨h3, ?_⟩
  have := le_add s n (m / 8) (b * 2 ^ (m % 8)) hm (by omega)
  rw [← this, h1, Nat.mul_assoc, Nat.mul_comm (2 ^ (m % 8))]

/-- What is told of packed numbers. -/
def gets (n i wd : Nat) : Nat := n / 2 ^ (i * wd) % 2 ^ wd
theorem gets_vn (wd : Nat) (l : List Int) (h : Fit wd l) (i : Nat) (hi : i < l.length) : gets (vn wd l) i wd = (nth l i).toNat := by
  have hs : l = l.take i ++ (nth l i :: l.drop (i + 1)) := by
    have h1 := List.drop_eq_getElem_cons hi
    have h2 := (List.take_append_drop i l).symm
    rw [h1] at h2
    rw [show nth l i = l[i] by simp [nth, hi]]; exact h2
  have hlt := vn_lt wd _ (h.take i)
  have hx := (h _ (nth_mem hi)).2
  have hl : (l.take i).length = i := by rw [List.length_take]; omega
  rw [hl] at hlt
  unfold gets
  conv => lhs; rw [hs, vn_append, hl]
  simp only [vn]
  rw [Nat.add_mul_div_left _ _ (Nat.pow_pos (by omega)), Nat.div_eq_of_lt hlt, Nat.zero_add, Nat.add_mul_mod_self_left, Nat.mod_eq_of_lt hx]
def unp (n wd c : Nat) : List Int := (List.range c).map fun i => ((gets n i wd : Nat) : Int)
theorem unp_length (n wd c : Nat) : (unp n wd c).length = c := by simp [unp]
theorem unp_step (n wd c : Nat) : unp n wd (c + 1) = unp n wd c ++ [((gets n c wd : Nat) : Int)] := by simp [unp, List.range_succ]
theorem nth_unp (n wd c i : Nat) (hi : i < c) : nth (unp n wd c) i = ((gets n i wd : Nat) : Int) := by simp [nth, unp, hi]
theorem gets_lt (n i wd : Nat) : gets n i wd < 2 ^ wd := Nat.mod_lt _ (Nat.pow_pos (by omega))
theorem unp_fit (n wd c : Nat) : Fit wd (unp n wd c) := by
  intro x hx
  obtain ⟨i, -, rfl⟩ := List.mem_map.1 hx
  exact ⟨by omega, by rw [Int.toNat_natCast]; exact gets_lt n i wd⟩
theorem vn_unp (n wd c : Nat) : vn wd (unp n wd c) = n % 2 ^ (c * wd) := by
  induction c with
  | zero => simp [unp, vn, Nat.mod_one]
  | succ c ih =>
    rw [unp_step, vn_append, ih, unp_length]
    simp only [vn, Int.toNat_natCast, Nat.mul_zero, Nat.add_zero, gets]
    rw [Nat.succ_mul, Nat.pow_add, Nat.mod_mul]
theorem unp_vn (wd : Nat) (l : List Int) (h : Fit wd l) : unp (vn wd l) wd l.length = l := by
  apply List.ext_getElem (by rw [unp_length])
  intro i h1 h2
  have e := nth_unp (vn wd l) wd l.length i h2
  rw [gets_vn wd l h i h2, Int.toNat_of_nonneg (h _ (nth_mem h2)).1] at e
  simpa [nth, h1, h2] using e

theorem sizeN_ge (n wd : Nat) : n * wd ≤ 8 * sizeN n wd := by unfold sizeN; omega
theorem sizeN_lt (n wd : Nat) : 8 * sizeN n wd < n * wd + 8 := by unfold sizeN; omega
theorem leN_packs (wd : Nat) (l : List Int) (h : Fit wd l) : leN (packs wd l) = vn wd l := by
  refine leN_le _ _ ?_
  rw [p256]
  exact Nat.lt_of_lt_of_le (vn_lt wd l h) (Nat.pow_le_pow_right (by omega) (sizeN_ge _ _))
theorem packs_bytes (wd : Nat) (l : List Int) : Bytes8 (packs wd l) := le_bytes _ _

/-- bits.Len64 against a width. -/
theorem bitLen_fit (x wd : Nat) (hx : x < 18446744073709551616) (hw : wd ≤ 64) : Lib.bitLen x ≤ wd ↔ x < 2 ^ wd := by
  constructor
  · intro h
    by_cases h0 : x = 0
    · subst h0; exact Nat.pow_pos (by omega)
    · obtain ⟨-, -, h3⟩ := Lib.bitLenAux_bounds 64 x hx h0
      exact Nat.lt_of_lt_of_le h3 (Nat.pow_le_pow_right (by omega) h)
  · exact Lib.bitLen_le x wd hw
end Go.Proofs.Ytgdiffabnalidaa
