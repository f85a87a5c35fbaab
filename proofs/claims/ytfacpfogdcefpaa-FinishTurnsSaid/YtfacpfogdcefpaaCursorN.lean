/-
  What the reader's number, U8, U16, U32, U64 and Bytes tell.
-/
import Derived.Test.YtfacpfogdcefpaaCursor
namespace Go.Proofs.Ytfacpfogdcefpaa
open Go.RowKit
set_option linter.unusedSimpArgs false
set_option linter.unusedVariables false
variable {L : Nat}

/-- The number whose bytes these are, the lowest first. -/
def leN : List Int → Nat
  | [] => 0
  | z :: l => z.toNat + 256 * leN l
theorem leN_append (l m : List Int) : leN (l ++ m) = leN l + 256 ^ l.length * leN m := by
  induction l with
  | nil => simp [leN]
  | cons z l ih => simp only [List.cons_append, leN, ih, List.length_cons, Nat.pow_succ]; rw [Nat.mul_add, Nat.add_assoc, ← Nat.mul_assoc, Nat.mul_comm 256 (256 ^ l.length)]
theorem leN_lt (l : List Int) (h : Bytes8 l) : leN l < 256 ^ l.length := by
  induction l with
  | nil => simp [leN]
  | cons z l ih =>
    have h1 := h z (by simp)
    have h2 := ih (fun x hx => h x (List.mem_cons_of_mem _ hx))
    simp only [leN, List.length_cons, Nat.pow_succ]
    omega
theorem Bytes8.sub {l : List Int} (h : Bytes8 l) (a b : Nat) : Bytes8 (sub l a b) := fun z hz => h z (List.mem_of_mem_drop (List.mem_of_mem_take hz))

theorem pow_8 (k : Nat) : 2 ^ (8 * k) = 256 ^ k := by rw [Nat.pow_mul]
theorem or_step (m x k : Nat) (hm : m < 256 ^ k) (hx : x ≤ 255) (hk : k < 8) : bits BinOp.or IntKind.u64 (m : Int) (IntKind.u64.wrap ((x : Int) * 2 ^ (8 * k))) = ((m + 256 ^ k * x : Nat) : Int) := by
  have hp : 256 ^ k * 256 ≤ 18446744073709551616 := by
    have : 256 ^ (k + 1) ≤ 256 ^ 8 := Nat.pow_le_pow_right (by omega) (by omega)
    rw [Nat.pow_succ] at this; exact Nat.le_trans this (by decide)
  have hp0 : 0 < 256 ^ k := Nat.pow_pos (by omega)
  have hxk : x * 256 ^ k ≤ 255 * 256 ^ k := Nat.mul_le_mul_right _ hx
  have e1 : (x : Int) * 2 ^ (8 * k) = ((x * 256 ^ k : Nat) : Int) := by rw [← pow_8]; simp
  rw [e1, IntWalk.u64_in _ (by omega), bits_or_u64_nat m (x * 256 ^ k) (by omega) (by omega)]
  congr 1
  have h2 := Nat.two_pow_add_eq_or_of_lt (i := 8 * k) (b := m) (by rw [pow_8]; exact hm) x
  rw [pow_8] at h2
  rw [Nat.or_comm, Nat.mul_comm x, ← h2, Nat.add_comm]

def rdN (bs : List Int) (a : Nat) (b : Bool) (n : Nat) : Nat := if b = false ∧ a + n ≤ bs.length then leN (sub bs a (a + n)) else 0
def rdA (bs : List Int) (a : Nat) (b : Bool) (n : Nat) : Nat := if b = false ∧ a + n ≤ bs.length then a + n else a
def rdB (bs : List Int) (a : Nat) (b : Bool) (n : Nat) : Bool := !decide (b = false ∧ a + n ≤ bs.length)

theorem rdN_lt (bs : List Int) (a : Nat) (b : Bool) (n : Nat) (hb : Bytes8 bs) : rdN bs a b n < 256 ^ n := by
  unfold rdN
  split
  · rename_i h
    have := leN_lt (sub bs a (a + n)) (hb.sub _ _)
    rwa [sub_length _ _ _ h.2, Nat.add_sub_cancel_left] at this
  · exact Nat.pow_pos (by omega)
/-- The next bytes: what is told. -/
def rdS (bs : List Int) (a : Nat) (b : Bool) (n : Int) : List Int := if b = false ∧ 0 ≤ n ∧ a + n.toNat ≤ bs.length then sub bs a (a + n.toNat) else []
def rdSA (bs : List Int) (a : Nat) (b : Bool) (n : Int) : Nat := if b = false ∧ 0 ≤ n ∧ a + n.toNat ≤ bs.length then a + n.toNat else a
def rdSB (bs : List Int) (a : Nat) (b : Bool) (n : Int) : Bool := !decide (b = false ∧ 0 ≤ n ∧ a + n.toNat ≤ bs.length)

theorem rd_yes {bs : List Int} {a n : Nat} (h : a + n ≤ bs.length) : rdN bs a false n = leN (sub bs a (a + n)) ∧ rdA bs a false n = a + n ∧ rdB bs a false n = false := by
  have hc : false = false ∧ a + n ≤ bs.length := ⟨rfl, h⟩
  exact ⟨if_pos hc, if_pos hc, by unfold rdB; rw [decide_eq_true hc]; rfl⟩
theorem rd_no {bs : List Int} {a n : Nat} {b : Bool} (hc : ¬ (b = false ∧ a + n ≤ bs.length)) : rdN bs a b n = 0 ∧ rdA bs a b n = a ∧ rdB bs a b n = true :=
  ⟨if_neg hc, if_neg hc, by unfold rdB; rw [decide_eq_false hc]; rfl⟩
theorem rdS_yes {bs : List Int} {a n : Nat} (h : a + n ≤ bs.length) : rdS bs a false n = sub bs a (a + n) ∧ rdSA bs a false n = a + n ∧ rdSB bs a false n = false := by
  have hc : false = false ∧ 0 ≤ (n : Int) ∧ a + (n : Int).toNat ≤ bs.length := ⟨rfl, by omega, by simpa using h⟩
  exact ⟨by unfold rdS; rw [if_pos hc, Int.toNat_natCast], by unfold rdSA; rw [if_pos hc, Int.toNat_natCast], by unfold rdSB; rw [decide_eq_true hc]; rfl⟩
theorem rdS_no {bs : List Int} {a : Nat} {b : Bool} {n : Int} (hc : ¬ (b = false ∧ 0 ≤ n ∧ a + n.toNat ≤ bs.length)) : rdS bs a b n = [] ∧ rdSA bs a b n = a ∧ rdSB bs a b n = true :=
  ⟨if_neg hc, if_neg hc, by unfold rdSB; rw [decide_eq_false hc]; rfl⟩
end Go.Proofs.Ytfacpfogdcefpaa
