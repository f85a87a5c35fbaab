/-
  What the readers' Uint tell: cursor's, and isinglassref01's.
-/
import Derived.Test.YtgdiffabnalidaaCurW
import Derived.Test.YtgdiffabnalidaaRef01R
namespace Go.Proofs.Ytgdiffabnalidaa
open Go.RowKit
set_option linter.unusedSimpArgs false
set_option linter.unusedVariables false
variable {L : Nat}

/-- A short number stands at a place. -/
def Stands (bs : List Int) (a n : Nat) : Prop := n < 18446744073709551616 ∧ a + (short n).length ≤ bs.length ∧ sub bs a (a + (short n).length) = short n

def v7 : List Int → Nat
  | [] => 0
  | z :: l => z.toNat % 128 + 128 * v7 l
theorem v7_append (l m : List Int) : v7 (l ++ m) = v7 l + 128 ^ l.length * v7 m := by
  induction l with
  | nil => simp [v7]
  | cons z l ih => simp only [List.cons_append, v7, ih, List.length_cons, Nat.pow_succ]; rw [Nat.mul_add, Nat.add_assoc, ← Nat.mul_assoc, Nat.mul_comm 128 (128 ^ l.length)]
theorem v7_lt (l : List Int) : v7 l < 128 ^ l.length := by
  induction l with
  | nil => simp [v7]
  | cons z l ih => simp only [v7, List.length_cons, Nat.pow_succ]; omega
theorem sh_of (x : Int) (h0 : 0 ≤ x) (h1 : x < 128) : ∀ (l : List Int) (f : Nat), l.length ≤ f → (∀ z ∈ l, 128 ≤ z ∧ z ≤ 255) → (l ≠ [] → 0 < x) → sh f (v7 (l ++ [x])) = l ++ [x] ∧ (l ≠ [] → 128 ≤ v7 (l ++ [x])) := by
  intro l
  induction l with
  | nil =>
    intro f _ _ _
    have e : v7 [x] = x.toNat := by simp [v7]; omega
    refine ⟨?_, fun h => (h rfl).elim⟩
    rw [List.nil_append, e, sh_small _ _ (by omega)]
    simp; omega
  | cons z l ih =>
    intro f hf hz hx
    obtain ⟨f, rfl⟩ : ∃ g, f = g + 1 := ⟨f - 1, by simp at hf; omega⟩
    obtain ⟨i1, i2⟩ := ih f (by simp at hf; omega) (fun y hy => hz y (List.mem_cons_of_mem _ hy)) (fun _ => hx (by simp))
    have hz0 := hz z (by simp)
    have hp : 1 ≤ v7 (l ++ [x]) := by
      by_cases hl : l = []
      · subst hl; have := hx (by simp); simp [v7]; omega
      · have := i2 hl; omega
    have e : v7 (z :: l ++ [x]) = z.toNat % 128 + 128 * v7 (l ++ [x]) := rfl
    refine ⟨?_, fun _ => by rw [e]; omega⟩
    rw [e, sh_big _ _ (by omega), show (z.toNat % 128 + 128 * v7 (l ++ [x])) / 128 = v7 (l ++ [x]) by omega, i1, show (z.toNat % 128 + 128 * v7 (l ++ [x])) % 128 + 128 = z.toNat by omega]
    simp; omega

theorem sub_snoc (bs : List Int) (a k : Nat) (h : a + k < bs.length) : sub bs a (a + k + 1) = sub bs a (a + k) ++ [nth bs (a + k)] := by
  simp only [sub]
  rw [show a + k + 1 - a = k + 1 by omega, show a + k - a = k by omega, take_nth _ _ (by simp; omega)]
  simp [nth, List.getD]
theorem mem_sub {bs : List Int} {a b : Nat} {z : Int} (h : z ∈ sub bs a b) : ∃ i, i < b - a ∧ a + i < bs.length ∧ z = nth bs (a + i) := by
  obtain ⟨i, hi, rfl⟩ := List.getElem_of_mem h
  have hl : (sub bs a b).length ≤ b - a ∧ a + i < bs.length := by simp [sub] at hi ⊢; omega
  refine ⟨i, by omega, hl.2, ?_⟩
  simp [sub, nth, hl.2]

theorem stands_of (bs : List Int) (a k : Nat) (hk : k ≤ 9) (hl : a + k < bs.length) (hpre : ∀ j, j < k → 128 ≤ nth bs (a + j)) (hb : Bytes8 bs) (hx : nth bs (a + k) < 128) (h9 : ¬ (k = 9 ∧ 1 < nth bs (a + k))) (h0 : ¬ (0 < k ∧ nth bs (a + k) = 0)) :
    ∃ n, Stands bs a n := by
  have hxb := hb _ (nth_mem hl)
  have hs := sub_snoc bs a k hl
  have hsl : (sub bs a (a + k)).length = k := by rw [sub_length _ _ _ (by omega)]; omega
  obtain ⟨e1, -⟩ := sh_of (nth bs (a + k)) hxb.1 hx (sub bs a (a + k)) 9 (by omega) (fun z hz => by
    obtain ⟨i, hi, hi2, rfl⟩ := mem_sub hz
    exact ⟨hpre i (by omega), (hb _ (nth_mem hi2)).2⟩) (fun hne => by
      have : 0 < k := by cases k with | zero => exact (hne (by simp [sub])).elim | succ k => omega
      omega)
  rw [← hs] at e1
  have e2 : short (v7 (sub bs a (a + k + 1))) = sub bs a (a + k + 1) := e1
  have hl2 : (sub bs a (a + k + 1)).length = k + 1 := by rw [sub_length _ _ _ (by omega)]; omega
  refine ⟨v7 (sub bs a (a + k + 1)), ?_, by rw [e2, hl2]; omega, by rw [e2, hl2]; congr 1⟩
  by_cases hk9 : k = 9
  · subst hk9
    rw [hs, v7_append, hsl]
    have := v7_lt (sub bs a (a + 9))
    rw [hsl] at this
    simp only [v7]
    have hx1 : (nth bs (a + 9)).toNat ≤ 1 := by omega
    have e9 : (128 : Nat) ^ 9 = 9223372036854775808 := by decide
    rw [e9] at this ⊢
    omega
  · have := v7_lt (sub bs a (a + k + 1))
    rw [hl2] at this
    exact Nat.lt_of_lt_of_le this (Nat.le_trans (Nat.pow_le_pow_right (by omega) (show k + 1 ≤ 9 by omega)) (by decide))

theorem sh_nth (f : Nat) : ∀ n k, n < 128 ^ (f + 1) → k < (sh f n).length → (k + 1 < (sh f n).length ∧ nth (sh f n) k = ((n / 128 ^ k % 128 + 128 : Nat) : Int) ∧ 128 ≤ n / 128 ^ k) ∨ (k + 1 = (sh f n).length ∧ nth (sh f n) k = ((n / 128 ^ k : Nat) : Int) ∧ n / 128 ^ k < 128 ∧ (0 < k → 0 < n / 128 ^ k)) := by
  induction f with
  | zero => intro n k hn hk; simp [sh] at hk hn ⊢; subst hk; simp [nth]; omega
  | succ f ih =>
    intro n k hn hk
    by_cases h : n < 128
    · rw [sh_small _ _ h] at hk ⊢
      simp at hk; subst hk; simp [nth, h]
    · rw [sh_big _ _ h] at hk ⊢
      cases k with
      | zero => have := (sh_length f (n / 128)).1; simp [nth]; omega
      | succ k =>
        have hd : n / 128 ^ (k + 1) = n / 128 / 128 ^ k := by rw [Nat.pow_succ, Nat.mul_comm, Nat.div_div_eq_div_mul]
        rcases ih (n / 128) k (by rw [Nat.pow_succ] at hn; omega) (by simp at hk; omega) with ⟨i1, i2, i3⟩ | ⟨i1, i2, i3, i4⟩
        · refine .inl ⟨by simp; omega, ?_, by rw [hd]; exact i3⟩
          rw [hd, ← i2]; simp [nth]
        · refine .inr ⟨by simp; omega, ?_, by rw [hd]; exact i3, fun _ => ?_⟩
          · rw [hd, ← i2]; simp [nth]
          · rw [hd]
            cases k with
            | zero => simp; omega
            | succ k => exact i4 (by omega)
theorem short_nth (n k : Nat) (hn : n < 18446744073709551616) (hk : k < (short n).length) : (k + 1 < (short n).length ∧ nth (short n) k = ((n / 128 ^ k % 128 + 128 : Nat) : Int) ∧ 128 ≤ n / 128 ^ k) ∨ (k + 1 = (short n).length ∧ nth (short n) k = ((n / 128 ^ k : Nat) : Int) ∧ n / 128 ^ k < 128 ∧ (0 < k → 0 < n / 128 ^ k)) :=
  sh_nth 9 n k (Nat.lt_of_lt_of_le hn (by decide)) hk

/-- What stands at a place, byte by byte. -/
theorem Stands.at' {bs : List Int} {a n k : Nat} (h : Stands bs a n) (hk : k < (short n).length) : nth bs (a + k) = nth (short n) k := by
  rw [← h.2.2, nth_sub _ _ _ _ (by omega)]

/-- The low bits of a number, seven by seven. -/
theorem pow7 (k : Nat) : 2 ^ (7 * k) = 128 ^ k := by rw [Nat.pow_mul]
theorem or7 (m x k : Nat) (hm : m < 128 ^ k) (hx : m + 128 ^ k * x < 18446744073709551616) : bits BinOp.or IntKind.u64 (m : Int) (IntKind.u64.wrap ((x : Int) * 2 ^ (7 * k))) = ((m + 128 ^ k * x : Nat) : Int) := by
  have e1 : (x : Int) * 2 ^ (7 * k) = ((128 ^ k * x : Nat) : Int) := by rw [← pow7]; simp [Int.mul_comm]
  rw [e1, IntWalk.u64_in _ (by omega), bits_or_u64_nat m (128 ^ k * x) (by omega) (by omega)]
  congr 1
  have h2 := Nat.two_pow_add_eq_or_of_lt (i := 7 * k) (b := m) (by rw [pow7]; exact hm) x
  rw [pow7] at h2
  rw [Nat.or_comm, ← h2, Nat.add_comm]
theorem and127_fin : ∀ y : Fin 256, bits BinOp.and IntKind.u8 ((y.val : Nat) : Int) 127 = ((y.val % 128 : Nat) : Int) := by decide +kernel
theorem and127 (x : Nat) (h : x ≤ 255) : bits BinOp.and IntKind.u8 (x : Int) 127 = ((x % 128 : Nat) : Int) := and127_fin ⟨x, by omega⟩
theorem low7 (n k : Nat) : n % 128 ^ (k + 1) = n % 128 ^ k + 128 ^ k * (n / 128 ^ k % 128) := by
  rw [Nat.pow_succ, Nat.mod_mul]

theorem leN_one {bs : List Int} {i : Nat} (h : i < bs.length) : leN (sub bs i (i + 1)) = (nth bs i).toNat := by
  have : sub bs i (i + 1) = [nth bs i] := by
    have := sub_snoc bs i 0 h
    simpa [sub] using this
  rw [this]; simp [leN]

/-- U8 at a byte. -/
theorem cu8_at (p : Nat) (bs : List Int) (i y : Nat) (w : World) (h : Rdr w L p bs i false) (hb : Bytes8 bs) (hi : i < bs.length) (hy : nth bs i = (y : Int)) :
    Calls Try.prog 51 #[.pointer (some ⟨p, 0, none⟩)] w fun e w' => e = .returned (.int .u8 (y : Int)) ∧ Rdr w' L p bs (i + 1) false ∧ Kp [p] w w' := by
  have hu := cu8_any p bs i false w h hb
  obtain ⟨q1, q2, q3⟩ := rd_yes (bs := bs) (a := i) (n := 1) (by omega)
  rw [q1, q2, q3, leN_one hi, hy, Int.toNat_natCast] at hu
  exact hu
theorem cu8_end (p : Nat) (bs : List Int) (i : Nat) (w : World) (h : Rdr w L p bs i false) (hb : Bytes8 bs) (hi : ¬ i < bs.length) :
    Calls Try.prog 51 #[.pointer (some ⟨p, 0, none⟩)] w fun e w' => e = .returned (.int .u8 0) ∧ Rdr w' L p bs i true ∧ Kp [p] w w' := by
  have hu := cu8_any p bs i false w h hb
  obtain ⟨q1, q2, q3⟩ := rd_no (bs := bs) (a := i) (n := 1) (b := false) (by omega)
  rw [q1, q2, q3] at hu
  exact hu

theorem Rdr.c2 {w : World} {L p : Nat} {bs : List Int} {a : Nat} {b : Bool} (h : Rdr w L p bs a b) :
    w.cell? ⟨p, 1, none⟩ = some (.int .i64 a) ∧ w.cell? ⟨p, 2, none⟩ = some (.bool b) ∧ w.frozen? ⟨p, 1, none⟩ = false ∧ w.frozen? ⟨p, 2, none⟩ = false :=
  let ⟨_, _, h1, _⟩ := h; let ⟨_, c1, c2, f1, f2⟩ := rdr_cells h1; ⟨c1, c2, f1, f2⟩
theorem Rdr.reset {w : World} {L p : Nat} {bs : List Int} {a a' : Nat} {b : Bool} (h : Rdr w L p bs a' b) (ha : a ≤ bs.length) :
    Rdr ((w.setCell ⟨p, 2, none⟩ (.bool true)).setCell ⟨p, 1, none⟩ (.int .i64 a)) L p bs a true ∧ Kp [p] w ((w.setCell ⟨p, 2, none⟩ (.bool true)).setCell ⟨p, 1, none⟩ (.int .i64 a)) := by
  obtain ⟨ad, cap, h1, h2, h3, h4, h5⟩ := h
  have kp := ((Kp.refl [p] w).setCell ⟨p, 2, none⟩ (.bool true) (by simp)).setCell ⟨p, 1, none⟩ (.int .i64 a) (by simp)
  exact ⟨⟨ad, cap, heap_setCell_same _ p 1 _ _ _ (heap_setCell_same w p 2 _ _ (.bool true) h1), h2.keepne kp (by simpa using h3), h3, ha, h5⟩, kp⟩

/-- How the bytes go on that are no short number yet. -/
def Runs (bs : List Int) (a k : Nat) : Prop := a + k ≤ bs.length ∧ ∀ j, j < k → 128 ≤ nth bs (a + j)
theorem Runs.step {bs : List Int} {a k : Nat} (h : Runs bs a k) (hl : a + k < bs.length) (hx : 128 ≤ nth bs (a + k)) : Runs bs a (k + 1) :=
  ⟨by omega, fun j hj => by by_cases e : j = k; (subst e; exact hx); exact h.2 j (by omega)⟩

end Go.Proofs.Ytgdiffabnalidaa
