/-
  The sum of bytes: plain laws.
-/
import Derived.Test.YtfacpfogdcefpaaListL
namespace Go.Proofs.Ytfacpfogdcefpaa
open Go.RowKit
set_option linter.unusedSimpArgs false
set_option linter.unusedVariables false

/-- One bit of a sum. -/
def sh1 (x : Nat) : Nat := if x % 2 = 1 then (x / 2) ^^^ 3988292384 else x / 2
def shN : Nat → Nat → Nat
  | 0, x => x
  | k + 1, x => shN k (sh1 x)
theorem shN_snoc (k : Nat) : ∀ x, shN (k + 1) x = sh1 (shN k x) := by
  induction k with
  | zero => intro x; rfl
  | succ k ih => intro x; rw [shN, ih]; rfl

theorem xor_ac (a b c d : Nat) : (a ^^^ b) ^^^ (c ^^^ d) = (a ^^^ c) ^^^ (b ^^^ d) := by
  apply Nat.eq_of_testBit_eq; intro i; simp only [Nat.testBit_xor]
  cases a.testBit i <;> cases b.testBit i <;> cases c.testBit i <;> cases d.testBit i <;> rfl
theorem xor_flip (a b c : Nat) : (a ^^^ c) ^^^ (b ^^^ c) = a ^^^ b := by
  rw [xor_ac, Nat.xor_self, Nat.xor_zero]
theorem xor_zero_eq {a b : Nat} (h : a ^^^ b = 0) : a = b := by
  have : a ^^^ b ^^^ b = b := by rw [h, Nat.zero_xor]
  rwa [Nat.xor_assoc, Nat.xor_self, Nat.xor_zero] at this

theorem sh1_xor (a b : Nat) : sh1 (a ^^^ b) = sh1 a ^^^ sh1 b := by
  have hm := @Nat.xor_mod_two_eq_one a b
  unfold sh1
  rw [Nat.xor_div_two]
  by_cases ha : a % 2 = 1 <;> by_cases hb : b % 2 = 1
  · rw [if_neg (by rw [hm]; simp [ha, hb]), if_pos ha, if_pos hb, xor_flip]
  · rw [if_pos (by rw [hm]; simp [ha, hb]), if_pos ha, if_neg hb, Nat.xor_assoc, Nat.xor_comm (b / 2), ← Nat.xor_assoc]
  · rw [if_pos (by rw [hm]; simp [ha, hb]), if_neg ha, if_pos hb, Nat.xor_assoc]
  · rw [if_neg (by rw [hm]; simp [ha, hb]), if_neg ha, if_neg hb]
theorem shN_xor (k : Nat) : ∀ a b, shN k (a ^^^ b) = shN k a ^^^ shN k b := by
  induction k with
  | zero => intro a b; rfl
  | succ k ih => intro a b; rw [shN, sh1_xor, ih]; rfl
theorem sh1_lt {x : Nat} (h : x < 4294967296) : sh1 x < 4294967296 := by
  unfold sh1
  split
  · exact Nat.xor_lt_two_pow (n := 32) (by omega) (by omega)
  · omega
theorem shN_lt (k : Nat) : ∀ {x : Nat}, x < 4294967296 → shN k x < 4294967296 := by
  induction k with
  | zero => intro x h; exact h
  | succ k ih => intro x h; exact ih (sh1_lt h)
theorem sh1_zero {x : Nat} (h : x < 4294967296) (h0 : sh1 x = 0) : x = 0 := by
  unfold sh1 at h0
  split at h0
  · have := xor_zero_eq h0; omega
  · omega
theorem shN_zero (k : Nat) : ∀ {x : Nat}, x < 4294967296 → shN k x = 0 → x = 0 := by
  induction k with
  | zero => intro x _ h; exact h
  | succ k ih => intro x h h0; exact sh1_zero h (ih (sh1_lt h) h0)
theorem shN_of_zero (k : Nat) : shN k 0 = 0 := by
  induction k with
  | zero => rfl
  | succ k ih => rw [shN]; exact ih
theorem shN_mul (k : Nat) : ∀ h, shN k (2 ^ k * h) = h := by
  induction k with
  | zero => intro h; simp [shN]
  | succ k ih =>
    intro h
    rw [shN, sh1, if_neg (by rw [Nat.pow_succ, Nat.mul_right_comm, Nat.mul_mod_left]; omega), show 2 ^ (k + 1) * h / 2 = 2 ^ k * h by rw [Nat.pow_succ, Nat.mul_right_comm, Nat.mul_div_cancel _ (by omega)], ih]
theorem xor_split (x : Nat) : x = (256 * (x / 256)) ^^^ (x % 256) := by
  have h := Nat.div_add_mod x 256
  have e1 : (256 * (x / 256) ^^^ x % 256) / 256 = x / 256 := by
    rw [show (256 : Nat) = 2 ^ 8 from rfl, Nat.xor_div_two_pow, Nat.mul_div_cancel_left _ (by omega), Nat.div_eq_of_lt (a := x % 2 ^ 8) (Nat.mod_lt _ (by omega)), Nat.xor_zero]
  have e2 : (256 * (x / 256) ^^^ x % 256) % 256 = x % 256 := by
    rw [show (256 : Nat) = 2 ^ 8 from rfl, Nat.xor_mod_two_pow, Nat.mul_mod_right, Nat.zero_xor, Nat.mod_mod]
  have h2 := Nat.div_add_mod (256 * (x / 256) ^^^ x % 256) 256
  rw [e1, e2] at h2
  omega
theorem step_eq (x c : Nat) : (x / 256) ^^^ shN 8 ((x % 256) ^^^ c) = shN 8 (x ^^^ c) := by
  have := shN_mul 8 (x / 256)
  conv => rhs; rw [xor_split x, Nat.xor_assoc, shN_xor]
  rw [show (2 : Nat) ^ 8 = 256 from rfl] at this
  rw [this]

/-- A sum's state behind bytes. -/
def crcS (x : Nat) (zs : List Int) : Nat := zs.foldl (fun x z => shN 8 (x ^^^ z.toNat)) x
def crc (zs : List Int) : Nat := 4294967295 - crcS 4294967295 zs
theorem crcS_snoc (x : Nat) (zs : List Int) (z : Int) : crcS x (zs ++ [z]) = shN 8 (crcS x zs ^^^ z.toNat) := by simp [crcS]
theorem crcS_app (x : Nat) (a b : List Int) : crcS x (a ++ b) = crcS (crcS x a) b := by simp [crcS]
theorem crcS_lt : ∀ (zs : List Int) {x : Nat}, x < 4294967296 → Bytes8 zs → crcS x zs < 4294967296
  | [], x, h, _ => h
  | z :: l, x, h, hb => by
    rw [crcS, List.foldl_cons]
    refine crcS_lt l (shN_lt 8 (Nat.xor_lt_two_pow (n := 32) h ?_)) (fun y hy => hb y (List.mem_cons_of_mem _ hy))
    have := hb z (by simp); omega
theorem crc_lt (zs : List Int) : crc zs < 4294967296 := by unfold crc; omega
theorem not32 {x : Nat} (h : x < 4294967296) : 4294967295 ^^^ x = 4294967295 - x := by
  have e : (4294967295 : Nat) = 2 ^ 32 - 1 := rfl
  apply Nat.eq_of_testBit_eq
  intro i
  rw [Nat.testBit_xor, show 4294967295 - x = 2 ^ 32 - (x + 1) by omega, Nat.testBit_two_pow_sub_succ (by omega), e, Nat.testBit_two_pow_sub_one]
  by_cases hi : i < 32
  · simp [hi]
  · have : x.testBit i = false := Nat.testBit_lt_two_pow (Nat.lt_of_lt_of_le (show x < 2 ^ 32 by omega) (Nat.pow_le_pow_right (by omega) (by omega)))
    simp [hi, this]

/-- Bytes, xored one by one. -/
def xorL (a b : List Int) : List Int := List.zipWith (fun x y => ((x.toNat ^^^ y.toNat : Nat) : Int)) a b
theorem crcS_xor : ∀ (a b : List Int), a.length = b.length → ∀ x y, crcS (x ^^^ y) (xorL a b) = crcS x a ^^^ crcS y b
  | [], [], _, x, y => rfl
  | [], _ :: _, h, _, _ => by simp at h
  | _ :: _, [], h, _, _ => by simp at h
  | a :: l, b :: r, h, x, y => by
    have := crcS_xor l r (by simpa using h) (shN 8 (x ^^^ a.toNat)) (shN 8 (y ^^^ b.toNat))
    simp only [crcS, xorL, List.zipWith_cons_cons, List.foldl_cons, Int.toNat_natCast] at this ⊢
    rw [xor_ac, shN_xor]; exact this
theorem crcS_zeros (n : Nat) : ∀ x, crcS x (List.replicate n 0) = shN (8 * n) x := by
  have add : ∀ j k x, shN (j + k) x = shN k (shN j x) := by
    intro j
    induction j with
    | zero => intro k x; simp [shN]
    | succ j ih => intro k x; rw [Nat.add_right_comm, shN, ih, shN]
  induction n with
  | zero => intro x; rfl
  | succ n ih =>
    intro x
    rw [List.replicate_succ, crcS, List.foldl_cons]
    have := ih (shN 8 (x ^^^ Int.toNat 0))
    rw [crcS] at this
    rw [this, show 8 * (n + 1) = 8 + 8 * n by omega, add]; simp

/-- A byte that is changed changes the sum. -/
theorem crcS_set (zs : List Int) (hb : Bytes8 zs) (i : Nat) (hi : i < zs.length) (d : Nat) (hd : 0 < d) (hd2 : d < 256) (x : Nat) (hx : x < 4294967296) :
    crcS x (zs.set i ((nth zs i).toNat ^^^ d : Nat)) ≠ crcS x zs := by
  have e1 : zs = zs.take i ++ nth zs i :: zs.drop (i + 1) := by
    rw [show nth zs i = zs[i] by simp [nth, hi]]; simp
  have e2 : zs.set i (((nth zs i).toNat ^^^ d : Nat) : Int) = zs.take i ++ (((nth zs i).toNat ^^^ d : Nat) : Int) :: zs.drop (i + 1) := by
    rw [List.set_eq_take_append_cons_drop, if_pos hi]
  rw [e2]
  conv => rhs; rw [e1]
  have hx2 : crcS x (zs.take i) < 4294967296 := crcS_lt _ hx (fun z hz => hb z (List.mem_of_mem_take hz))
  rw [crcS_app, crcS_app]
  generalize crcS x (zs.take i) = y at hx2 ⊢
  have hz := hb _ (nth_mem hi)
  generalize nth zs i = z at hz ⊢
  have hb2 : Bytes8 (zs.drop (i + 1)) := fun z hz => hb z (List.mem_of_mem_drop hz)
  generalize zs.drop (i + 1) = r at hb2 ⊢
  intro h
  rw [crcS, List.foldl_cons, ← crcS] at h
  conv at h => rhs; rw [crcS, List.foldl_cons, ← crcS]
  rw [Int.toNat_natCast] at h
  have inj : ∀ (l : List Int) (u v : Nat), u < 4294967296 → v < 4294967296 → Bytes8 l → crcS u l = crcS v l → u = v := by
    intro l
    induction l with
    | nil => intro u v _ _ _ h; exact h
    | cons a l ih =>
      intro u v hu hv hl h
      rw [crcS, List.foldl_cons, ← crcS] at h
      conv at h => rhs; rw [crcS, List.foldl_cons, ← crcS]
      have ha := hl a (by simp)
      have := ih _ _ (shN_lt 8 (Nat.xor_lt_two_pow (n := 32) hu (by omega))) (shN_lt 8 (Nat.xor_lt_two_pow (n := 32) hv (by omega))) (fun z hz => hl z (List.mem_cons_of_mem _ hz)) h
      have h2 : shN 8 (u ^^^ v) = 0 := by
        have e := shN_xor 8 (u ^^^ a.toNat) (v ^^^ a.toNat)
        rw [this, Nat.xor_self, xor_flip] at e; exact e
      exact xor_zero_eq (shN_zero 8 (Nat.xor_lt_two_pow (n := 32) hu hv) h2)
  have hl1 : y ^^^ (z.toNat ^^^ d) < 4294967296 := Nat.xor_lt_two_pow (n := 32) hx2 (Nat.xor_lt_two_pow (n := 32) (by omega) (by omega))
  have hl2 : y ^^^ z.toNat < 4294967296 := Nat.xor_lt_two_pow (n := 32) hx2 (by omega)
  have := inj r _ _ (shN_lt 8 hl1) (shN_lt 8 hl2) hb2 h
  have h2 : shN 8 d = 0 := by
    have e := shN_xor 8 (y ^^^ (z.toNat ^^^ d)) (y ^^^ z.toNat)
    have key : (y ^^^ (z.toNat ^^^ d)) ^^^ (y ^^^ z.toNat) = d := by
      apply Nat.eq_of_testBit_eq; intro i; simp only [Nat.testBit_xor]
      cases y.testBit i <;> cases z.toNat.testBit i <;> cases d.testBit i <;> rfl
    rw [this, Nat.xor_self, key] at e
    exact e
  have := shN_zero 8 (show d < 4294967296 by omega) h2
  omega
end Go.Proofs.Ytfacpfogdcefpaa
