/-
  Schema: the bytes, plain.
-/
import Derived.Test.YtegnobdablbahaaSch5
namespace Go.Proofs.Ytegnobdablbahaa
open Go.RowKit
set_option linter.unusedSimpArgs false
set_option linter.unusedVariables false

/-- What is known of what fits. -/
structure CFit (l : List Col) (c : Cfg) : Prop where
  n : 1 ≤ l.length ∧ l.length ≤ 256
  col : ∀ i, i < l.length → 1 ≤ (atC l i).nm.size ∧ (atC l i).nm.size ≤ 64 ∧ 1 ≤ (atC l i).kd ∧ (atC l i).kd ≤ 3
  srt : -1 ≤ c.srt ∧ c.srt < l.length
  inv : c.inv.length = 0 ∨ c.inv.length = l.length
  rng : c.rng.length = 0 ∨ c.rng.length = l.length
  spl : ∀ i, i < c.spl.length → 0 ≤ nth c.spl i ∧ nth c.spl i < l.length
  ns : c.spl.length ≤ 8
  leaf : 1 ≤ c.leaf ∧ c.leaf ≤ 1000000
theorem isNmC_size {s : ByteArray} (h : isNmC s = true) : 1 ≤ s.size ∧ s.size ≤ 64 := by
  simp only [isNmC, isNmG, Bool.and_eq_true, decide_eq_true_eq] at h; exact h.2
theorem dimC_rng {l : List Col} {p : Int} (h : dimC l p = true) : 0 ≤ p ∧ p < l.length := by
  simp only [dimC, Bool.and_eq_true, decide_eq_true_eq] at h; exact h.1
theorem mayC_ok {l : List Col} (h : mayC l = true) : (1 ≤ l.length ∧ l.length ≤ 256) ∧ ∀ i, i < l.length → isNmC (atC l i).nm = true ∧ 1 ≤ (atC l i).kd ∧ (atC l i).kd ≤ 3 ∧ fndC l (atC l i).nm = i := by
  rw [mayC, Bool.and_eq_true, nupto, decide_eq_true_eq] at h
  refine ⟨h.2, fun i hi => ?_⟩
  have := h.1 i hi
  simp only [badK, dupC, Bool.or_eq_false_iff, Bool.not_eq_false', decide_eq_false_iff_not, decide_eq_true_eq] at this
  obtain ⟨⟨⟨h1, h2⟩, h3⟩, h4⟩ := this
  exact ⟨h1, by omega, by omega, h4⟩
theorem fitsC_ok {l : List Col} {c : Cfg} (h : fitsC l c = true) : CFit l c := by
  simp only [fitsC, Bool.and_eq_true, tailC, decide_eq_true_eq, nupto] at h
  obtain ⟨h1, h2, h3, h4, h5, h6⟩ := h
  obtain ⟨g1, g2⟩ := mayC_ok h1
  have f1 := (flag_iff l c.inv).1 h3
  have f2 := (flag_iff l c.rng).1 h4
  simp only [lenR, Bool.or_eq_true, decide_eq_true_eq] at f1 f2
  refine ⟨g1, fun i hi => ?_, ?_, f1.1, f2.1, fun i hi => ?_, h6.1, h6.2⟩
  · have := g2 i hi
    have h7 := isNmC_size this.1
    exact ⟨h7.1, h7.2, this.2.1, this.2.2.1⟩
  · simp only [srtC, Bool.or_eq_true, decide_eq_true_eq] at h2
    rcases h2 with h2 | h2
    · omega
    · have := dimC_rng h2; omega
  · have := h5 i hi
    simp only [badS, Bool.or_eq_false_iff, Bool.not_eq_false'] at this
    exact dimC_rng this.1

/-- A column's bytes. -/
def colB (x : Col) : List Int := [x.kd, (x.nm.size : Int)] ++ sbytes x.nm
/-- A column's flags. -/
def flagN (c : Cfg) (i : Nat) : Int := (bif hasB c.inv (i : Nat) then 1 else 0) + (bif hasB c.rng (i : Nat) then 2 else 0)
def bytA (l : List Col) (k : Nat) : List Int := le l.length 2 ++ (l.take k).flatMap colB
def bytB (l : List Col) (c : Cfg) (k : Nat) : List Int := bytA l l.length ++ le (c.srt + 1).toNat 2 ++ (List.range k).map (flagN c)
def bytS (l : List Col) (c : Cfg) (k : Nat) : List Int := bytB l c l.length ++ [(c.spl.length : Int)] ++ (c.spl.take k).flatMap (fun z => le z.toNat 2)
/-- The bytes. -/
def bytC (l : List Col) (c : Cfg) : List Int := bytS l c c.spl.length ++ le c.leaf.toNat 4
theorem colB_length (x : Col) : (colB x).length = 2 + x.nm.size := by simp [colB, sbytes_length]; omega
theorem bytA_step (l : List Col) (k : Nat) (h : k < l.length) : bytA l (k + 1) = bytA l k ++ colB (atC l k) := by
  rw [bytA, List.take_succ_eq_append_getElem h, atC_eq l k h, List.flatMap_append]; simp [bytA]
theorem bytB_step (l : List Col) (c : Cfg) (k : Nat) : bytB l c (k + 1) = bytB l c k ++ [flagN c k] := by
  rw [bytB, List.range_succ, List.map_append]; simp [bytB]
theorem bytS_step (l : List Col) (c : Cfg) (k : Nat) (h : k < c.spl.length) : bytS l c (k + 1) = bytS l c k ++ le (nth c.spl k).toNat 2 := by
  rw [bytS, List.take_succ_eq_append_getElem h, List.flatMap_append]; simp [bytS, nth, h]
theorem bytA_zero (l : List Col) : bytA l 0 = le l.length 2 := by simp [bytA]
theorem bytB_zero (l : List Col) (c : Cfg) : bytB l c 0 = bytA l l.length ++ le (c.srt + 1).toNat 2 := by simp [bytB]
theorem bytS_zero (l : List Col) (c : Cfg) : bytS l c 0 = bytB l c l.length ++ [(c.spl.length : Int)] := by simp [bytS]
theorem bytA_length (l : List Col) (c : Cfg) (h : CFit l c) : ∀ k, k ≤ l.length → 2 + 3 * k ≤ (bytA l k).length ∧ (bytA l k).length ≤ 2 + 66 * k := by
  intro k
  induction k with
  | zero => intro _; simp [bytA, le_length]
  | succ k ih =>
    intro hk
    have h1 := ih (by omega)
    have h2 := h.col k (by omega)
    rw [bytA_step l k hk, List.length_append, colB_length]; omega
theorem bytB_length (l : List Col) (c : Cfg) (k : Nat) : (bytB l c k).length = (bytA l l.length).length + 2 + k := by simp [bytB, le_length]; omega
theorem bytS_length (l : List Col) (c : Cfg) : ∀ k, k ≤ c.spl.length → (bytS l c k).length = (bytB l c l.length).length + 1 + 2 * k := by
  intro k
  induction k with
  | zero => intro _; rw [bytS_zero]; simp
  | succ k ih => intro hk; rw [bytS_step l c k hk, List.length_append, ih (by omega), le_length]; omega

/-- What package schema tells. -/
def wrC (l : List Col) (c : Cfg) : List Int := if fitsC l c = true then bytC l c else []
def errC (l : List Col) (c : Cfg) : Int := if fitsC l c = true then 0 else 2
end Go.Proofs.Ytegnobdablbahaa
