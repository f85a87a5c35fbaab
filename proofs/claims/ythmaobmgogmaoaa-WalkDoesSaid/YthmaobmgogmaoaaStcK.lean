/-
  Star-trees: only the last kid may be a star (plain).
-/
import Derived.Test.YthmaobmgogmaoaaStcJ
import Derived.Test.YthmaobmgogmaoaaStbM
namespace Go.Proofs.Ythmaobmgogmaoaa
open Go.RowKit Go.Shelf
set_option linter.unusedSimpArgs false
set_option linter.unusedVariables false
set_option maxRecDepth 100000

theorem node_last {leaf k : Nat} {R : List PR} {N : List PN} {i : Nat} (h : NodeAt leaf k R N i) : ∀ y, N[i]? = some y → ∀ (s : Nat) (kid : Int × Nat), y.kids[s]? = some kid → kid.1 = -1 → s + 1 = y.kids.length := by
  intro y hy s kid hs hst
  obtain ⟨f, st, p, q, n', r, r', hf, h, hr1, hr2, hr3⟩ := h
  cases f with
  | zero =>
    have h1 := h.1
    rw [hy] at h1
    cases h1
    simp at hs
  | succ f =>
    rcases h with ⟨h1, h2, -⟩ | ⟨h1, ks, m, b, hk, h⟩
    · rw [hy] at h2
      cases h2
      simp at hs
    · have e : k - (f + 1) + 1 = k - f := by omega
      have hge : ∀ j, p ≤ j → j < q → 0 ≤ idAt R j (k - (f + 1)) := fun j hj1 hj2 => by
        have hj : R[j]? = some (R[j]'(by omega)) := List.getElem?_eq_getElem _
        have := (hr3.1 _ (seg_mem hj1 hj2 hj)).2.1 (k - (f + 1)) (Nat.le_refl _) (by omega)
        rw [idAt_get hj]; exact this
      obtain ⟨k1, k0, k2⟩ := kids_list (N := N) (hk.imp (P' := fun a e m m1 _ _ => m < m1 ∧ ∃ ks, N[m]? = some ⟨k - (f + 1) + 1, a, e, ks⟩) (Nat.le_refl _) (fun a e' m m1 r r1 _ _ _ h => ⟨(node_mono leaf k R N f st a e' m m1 r r1 h).1, by rw [e]; exact node_at h⟩)) hr2 hge
      rcases h with ⟨rfl, h2, -, -⟩ | ⟨rfl, h2, hb, he, h⟩
      · rw [hy] at h2
        cases h2
        have := (k2 s kid hs).2.2.1
        omega
      · rw [hy] at h2
        cases h2
        dsimp only at hs ⊢
        by_cases hsl : s < ks.length
        · rw [List.getElem?_append_left hsl] at hs
          have := (k2 s kid hs).2.2.1
          omega
        · have := (List.getElem?_eq_some_iff.1 hs).1
          rw [List.length_append, List.length_singleton] at this ⊢
          omega
theorem last_law {S M : List (List Int)} {leaf n : Nat} (hn : (S.getD 0 []).length = n) (hb : n ≤ 80) (hge : ∀ l ∈ S, ∀ x ∈ l, 0 ≤ x) :
    ∀ (i : Nat) (y : PN), (ofP S M leaf).N[i]? = some y → ∀ (s : Nat) (kid : Int × Nat), y.kids[s]? = some kid → kid.1 = -1 → s + 1 = y.kids.length := by
  obtain ⟨h1, h2⟩ := base_ok (M := M) hn hb hge
  obtain ⟨E, h3, h4⟩ := ofP_node S M leaf
  have hseg : seg (ofP S M leaf).R 0 (togP (rowsP S M)).length = togP (rowsP S M) := by
    unfold seg; rw [h3, List.take_left' rfl]; rfl
  intro i y hy
  refine node_last (node_all leaf S.length _ _ S.length false 0 _ 0 _ _ _ (Nat.le_refl _) ⟨Nat.zero_le _, by rw [h3, List.length_append]; omega, ?_⟩ h4 i (Nat.zero_le _) (List.getElem?_eq_some_iff.1 hy).1) y hy
  rw [hseg, Nat.sub_self]; exact h1
/-- The star's number among kids. -/
def starF (ks : List (Int × Nat)) : Int := ks.foldl (fun a x => if x.1 = -1 then (x.2 : Int) else a) (-1)
theorem starF_snoc (l : List (Int × Nat)) (x : Int × Nat) : starF (l ++ [x]) = if x.1 = -1 then (x.2 : Int) else starF l := by simp [starF]
theorem starF_none {l : List (Int × Nat)} (h : ∀ x ∈ l, x.1 ≠ -1) : starF l = -1 := by
  have : ∀ (l : List (Int × Nat)) (a : Int), (∀ x ∈ l, x.1 ≠ -1) → l.foldl (fun a x => if x.1 = -1 then (x.2 : Int) else a) a = a := fun l => by
    induction l with
    | nil => intros; rfl
    | cons x t ih =>
      intro a h
      rw [List.foldl_cons, if_neg (h x (by simp))]
      exact ih a (fun y hy => h y (by simp [hy]))
  exact this l (-1) h
theorem starF_last {ks : List (Int × Nat)} (hne : ks ≠ []) (hl : ∀ (s : Nat) (kid : Int × Nat), ks[s]? = some kid → kid.1 = -1 → s + 1 = ks.length) : starF ks = if (lastK ks).1 = -1 then ((lastK ks).2 : Int) else -1 := by
  rcases List.eq_nil_or_concat ks with h | ⟨l, x, h⟩
  · exact (hne h).elim
  · rw [List.concat_eq_append] at h
    subst h
    have hlk : lastK (l ++ [x]) = x := by
      unfold lastK
      rw [List.length_append, List.length_singleton, Nat.add_sub_cancel, List.getD_eq_getElem?_getD, List.getElem?_append_right (Nat.le_refl _), Nat.sub_self]; rfl
    rw [hlk, starF_snoc]
    split
    · rfl
    · refine starF_none fun y hy hy1 => ?_
      obtain ⟨s, hs, rfl⟩ := List.getElem_of_mem hy
      have := hl s l[s] (by rw [List.getElem?_append_left hs, List.getElem?_eq_getElem hs]) hy1
      rw [List.length_append, List.length_singleton] at this
      omega
theorem askflat_le {α : Type} (f : Nat → List α) : ∀ (l : List Nat) (c : Nat), c ∈ l → (f c).length ≤ (l.flatMap f).length
  | [], c, h => by simp at h
  | a :: t, c, h => by
    rw [List.flatMap_cons, List.length_append]
    rcases List.mem_cons.1 h with rfl | h
    · omega
    · have := askflat_le f t c h; omega
theorem askflat_pre {α : Type} (f : Nat → List α) (a b : List Nat) : (a.flatMap f).length ≤ ((a ++ b).flatMap f).length := by
  rw [List.flatMap_append, List.length_append]; omega
theorem someK_pre (m : List Bool) (l : List (Int × Nat)) (s : Nat) (f : Nat → List Nat) : ((someK m (l.take s)).flatMap f).length ≤ ((someK m l).flatMap f).length := by
  have : someK m l = someK m (l.take s) ++ someK m (l.drop s) := by
    unfold someK
    rw [← List.map_append, ← List.filter_append, List.take_append_drop]
  rw [this]; exact askflat_pre f _ _
end Go.Proofs.Ythmaobmgogmaoaa
