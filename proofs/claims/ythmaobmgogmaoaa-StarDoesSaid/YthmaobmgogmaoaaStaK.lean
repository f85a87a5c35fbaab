/-
  Star-trees: how great they are (plain).
-/
import Derived.Test.YthmaobmgogmaoaaStaE
namespace Go.Proofs.Ythmaobmgogmaoaa
open Go.RowKit
set_option linter.unusedSimpArgs false
set_option linter.unusedVariables false

theorem put_len (l : List PR) (x : PR) : (putP l x).length ≤ l.length + 1 := by
  induction l with
  | nil => simp [putP]
  | cons a t ih =>
    unfold putP
    split
    · simp
    · split
      · simp
      · simp; exact ih
theorem fold_len : ∀ (l out : List PR), (l.foldl putP out).length ≤ out.length + l.length
  | [], out => by simp
  | x :: l, out => by
    have h1 := fold_len l (putP out x)
    have h2 := put_len out x
    simp only [List.foldl_cons, List.length_cons]; omega
theorem togP_len (l : List PR) : (togP l).length ≤ l.length := by have := fold_len l []; simpa [togP] using this
theorem star_len (R : List PR) (d p q : Nat) : (starRecs R d p q).length ≤ q - p := by
  have := togP_len (((R.take q).drop p).map (starAt d))
  rw [List.length_map, List.length_drop, List.length_take] at this
  unfold starRecs
  omega
theorem kids_bound {g : Nat → Nat → St → St} {c C : Nat} (hg : ∀ a e T, a < e → (g a e T).R.length ≤ T.R.length + c * (e - a) ∧ (g a e T).N.length ≤ T.N.length + C * (e - a + 1)) (R : List PR) (d q : Nat) :
    ∀ n a S ks, q - a ≤ n → (kidsP g R d q n a S ks).1.R.length ≤ S.R.length + c * (q - a) ∧ (kidsP g R d q n a S ks).1.N.length ≤ S.N.length + C * (2 * (q - a))
  | 0, a, S, ks, h => by unfold kidsP; exact ⟨Nat.le_add_right _ _, Nat.le_add_right _ _⟩
  | n + 1, a, S, ks, h => by
    unfold kidsP
    split
    · next hlt =>
      have h1 := runEnd_gt R d (q - a) a (by omega)
      have h2 := (runEnd_bd R d (idAt R a d) (q - a) a).2
      generalize runEnd R d (idAt R a d) (q - a) a = e at *
      obtain ⟨i1, i2⟩ := kids_bound hg R d q n e (g a e S) (ks ++ [(idAt R a d, S.N.length)]) (by omega)
      obtain ⟨j1, j2⟩ := hg a e S h1
      have e1 : c * (e - a) + c * (q - e) = c * (q - a) := by rw [← Nat.mul_add]; congr 1; omega
      have e2 : C * (e - a + 1) + C * (2 * (q - e)) ≤ C * (2 * (q - a)) := by rw [← Nat.mul_add]; exact Nat.mul_le_mul_left _ (by omega)
      refine ⟨Nat.le_trans i1 ?_, Nat.le_trans i2 ?_⟩
      · omega
      · omega
    · exact ⟨Nat.le_add_right _ _, Nat.le_add_right _ _⟩
theorem grow_bound (leaf k : Nat) : ∀ f st p q S, p ≤ q → (growP leaf k f st p q S).R.length ≤ S.R.length + (if st then 0 else f) * (q - p) ∧ (growP leaf k f st p q S).N.length ≤ S.N.length + 4 ^ f * (q - p + 1)
  | 0, st, p, q, S, h => by
    unfold growP
    refine ⟨by simp, ?_⟩
    simp
  | f + 1, st, p, q, S, h => by
    have hC : 1 ≤ 4 ^ f := Nat.one_le_pow _ _ (by omega)
    have hCs : 4 ^ (f + 1) = 4 * 4 ^ f := by rw [Nat.pow_succ, Nat.mul_comm]
    rw [hCs]
    have hk := kids_bound (g := fun a e T => growP leaf k f st a e T) (c := if st then 0 else f) (C := 4 ^ f) (fun a e T hae => grow_bound leaf k f st a e T (by omega)) S.R (k - (f + 1)) q (q - p) p ⟨S.R, S.N ++ [⟨k - (f + 1), p, q, []⟩]⟩ [] (Nat.le_refl _)
    have hT := fun (r : St × List (Int × Nat)) => grow_bound leaf k f true r.1.R.length (r.1.R.length + (starRecs r.1.R (k - (f + 1)) p q).length) ⟨r.1.R ++ starRecs r.1.R (k - (f + 1)) p q, r.1.N⟩ (by omega)
    generalize 4 ^ f = C at *
    have hm : C * 1 ≤ C * (q - p + 1) := Nat.mul_le_mul_left _ (by omega)
    unfold growP
    split
    · refine ⟨by simp, ?_⟩
      simp only [List.length_append, List.length_singleton]
      have : 1 ≤ 4 * C * (q - p + 1) := by
        have := Nat.mul_le_mul (Nat.mul_le_mul (Nat.le_refl 4) hC) (show 1 ≤ q - p + 1 by omega)
        omega
      omega
    · generalize kidsP (fun a e T => growP leaf k f st a e T) S.R (k - (f + 1)) q (q - p) p ⟨S.R, S.N ++ [⟨k - (f + 1), p, q, []⟩]⟩ [] = r at *
      obtain ⟨h1, h2⟩ := hk
      simp only [List.length_append, List.length_singleton] at h1 h2
      obtain ⟨h3, h4⟩ := hT r
      have h5 := star_len r.1.R (k - (f + 1)) p q
      simp only [List.length_append, Nat.add_sub_cancel_left, if_true, Nat.zero_mul, Nat.add_zero] at h3 h4
      have h6 : C * ((starRecs r.1.R (k - (f + 1)) p q).length + 1) ≤ C * (q - p + 1) := Nat.mul_le_mul_left _ (by omega)
      have h7 : C * (2 * (q - p)) + C * (q - p + 1) + 1 ≤ 4 * C * (q - p + 1) := by
        have e1 : C * (2 * (q - p)) + C * (q - p + 1) + C * 1 ≤ 4 * C * (q - p + 1) := by
          rw [← Nat.mul_add, ← Nat.mul_add, Nat.mul_comm 4 C, Nat.mul_assoc]
          exact Nat.mul_le_mul_left _ (by omega)
        omega
      dsimp only
      cases st
      · simp only [Bool.false_eq_true, if_false, setKids_len] at h1 ⊢
        have e2 : (f + 1) * (q - p) = f * (q - p) + (q - p) := Nat.succ_mul _ _
        exact ⟨by omega, by omega⟩
      · simp only [if_true, setKids_len, Nat.zero_mul] at h1 ⊢
        have : 0 ≤ C * (q - p + 1) := Nat.zero_le _
        exact ⟨by omega, by omega⟩
def rowPR (S M : List (List Int)) (i : Nat) : PR := ⟨S.map (fun l => nth l i), 1, M.map (fun l => ⟨nth l i, nth l i, nth l i⟩)⟩
/-- All rows. -/
def rowsP (S M : List (List Int)) : List PR := (List.range (S.getD 0 []).length).map (rowPR S M)
def ofP (S M : List (List Int)) (leaf : Nat) : St := growP leaf S.length S.length false 0 (togP (rowsP S M)).length ⟨togP (rowsP S M), []⟩
theorem ofP_bound (S M : List (List Int)) (leaf : Nat) (hk : S.length ≤ 8) (hr : (S.getD 0 []).length ≤ 80) : (ofP S M leaf).R.length ≤ 100000 ∧ (ofP S M leaf).N.length ≤ 100000000 := by
  obtain ⟨h1, h2⟩ := grow_bound leaf S.length S.length false 0 (togP (rowsP S M)).length ⟨togP (rowsP S M), []⟩ (by omega)
  have h3 := togP_len (rowsP S M)
  have h0 : (rowsP S M).length = (S.getD 0 []).length := by unfold rowsP; rw [List.length_map, List.length_range]
  rw [h0] at h3
  unfold ofP
  generalize growP leaf S.length S.length false 0 (togP (rowsP S M)).length ⟨togP (rowsP S M), []⟩ = g at *
  simp only [Bool.false_eq_true, if_false, Nat.sub_zero, List.length_nil, Nat.zero_add] at h1 h2
  generalize (togP (rowsP S M)).length = t at *
  have h4 : S.length * t ≤ 8 * 80 := Nat.mul_le_mul hk (by omega)
  have h5 : 4 ^ S.length * (t + 1) ≤ 4 ^ 8 * 81 := Nat.mul_le_mul (Nat.pow_le_pow_right (by omega) hk) (by omega)
  have h6 : (4 : Nat) ^ 8 * 81 = 5308416 := by decide
  exact ⟨by omega, by omega⟩
end Go.Proofs.Ythmaobmgogmaoaa
