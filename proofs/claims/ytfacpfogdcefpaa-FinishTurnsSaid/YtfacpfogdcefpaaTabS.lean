/-
  Tables: which row each row becomes (plain), one row of a slice of rows.
-/
import Derived.Test.YtfacpfogdcefpaaTabP
namespace Go.Proofs.Ytfacpfogdcefpaa
open Go.RowKit Go.Shelf
set_option linter.unusedSimpArgs false
set_option linter.unusedVariables false
set_option maxRecDepth 100000

section
variable {α : Type}
theorem rank_le (p : α → Bool) (R : List α) (c : Nat) : ∀ k : Nat, k ≤ R.length → (∀ j (hj : j < R.length), j < k → p R[j] = true → (R.take j).countP p < c) → (R.take k).countP p ≤ c
  | 0, _, _ => by simp
  | k + 1, hk, h => by
    have ih := rank_le p R c k (by omega) (fun j hj hjk => h j hj (by omega))
    rw [List.take_succ_eq_append_getElem (by omega), List.countP_append]
    cases hp : p R[k] with
    | false => simp [hp]; exact ih
    | true => have := h k (by omega) (by omega) hp; simp [hp]; omega
theorem rank_at (p : α → Bool) (R : List α) (k : Nat) (hk : k < R.length) (hp : p R[k] = true) : (R.filter p)[(R.take k).countP p]? = some R[k] := by
  have e : R = R.take k ++ R[k] :: R.drop (k + 1) := by
    conv => lhs; rw [← List.take_append_drop k R, List.drop_eq_getElem_cons hk]
  have e2 : R.filter p = (R.take k).filter p ++ R[k] :: (R.drop (k + 1)).filter p := by
    conv => lhs; rw [e]
    rw [List.filter_append, List.filter_cons_of_pos hp]
  rw [e2, List.countP_eq_length_filter, List.getElem?_append_right (Nat.le_refl _), Nat.sub_self]
  rfl
theorem rank_mono (p : α → Bool) (R : List α) {j k : Nat} (h : j ≤ k) : (R.take j).countP p ≤ (R.take k).countP p := by
  have e : R.take j = (R.take k).take j := by rw [List.take_take, Nat.min_eq_left h]
  rw [e]
  exact (List.take_sublist _ _).countP_le
theorem rank_next (p : α → Bool) (R : List α) {k : Nat} (hk : k < R.length) (hp : p R[k] = true) : (R.take (k + 1)).countP p = (R.take k).countP p + 1 := by
  rw [List.take_succ_eq_append_getElem hk, List.countP_append]; simp [hp]
theorem rank_skip (p : α → Bool) (R : List α) {k : Nat} (hk : k < R.length) (hp : p R[k] = false) : (R.take (k + 1)).countP p = (R.take k).countP p := by
  rw [List.take_succ_eq_append_getElem hk, List.countP_append]; simp [hp]
/-- Where each class is the same list, the first of the class whose rank is free is the row itself. -/
theorem match_row {p : α → Bool} {A R : List α} (hf : R.filter p = A.filter p) {i k : Nat} (hi : i < A.length) (hpi : p A[i] = true) (hk : k < R.length) (hpk : p R[k] = true)
    (h1 : ∀ j (hj : j < R.length), j < k → p R[j] = true → (R.take j).countP p < (A.take i).countP p) (h2 : ¬ (R.take k).countP p < (A.take i).countP p) : R[k] = A[i] ∧ (R.take k).countP p = (A.take i).countP p := by
  have e := rank_le p R _ k (by omega) h1
  have e2 : (R.take k).countP p = (A.take i).countP p := by omega
  refine ⟨?_, e2⟩
  have a1 := rank_at p R k hk hpk
  have a2 := rank_at p A i hi hpi
  rw [hf, e2, a2] at a1
  exact (Option.some.inj a1).symm
theorem match_some {p : α → Bool} {A R : List α} (hf : R.filter p = A.filter p) {i : Nat} (hi : i < A.length) (hpi : p A[i] = true)
    (h1 : ∀ j (hj : j < R.length), p R[j] = true → (R.take j).countP p < (A.take i).countP p) : False := by
  have e := rank_le p R _ R.length (Nat.le_refl _) (fun j hj _ => h1 j hj)
  rw [List.take_length, List.countP_eq_length_filter, hf, ← List.countP_eq_length_filter] at e
  have a := rank_next p A hi hpi
  have b := rank_mono p A (j := i + 1) (k := A.length) (by omega)
  rw [List.take_length] at b
  omega
end

/-- The rows with this value in a column. -/
def kb (s : Nat) (v : V3) (r : List V3) : Bool := eqV (atV r s) v
theorem cV_self (v : V3) : cV v v = 0 := by have := cV_anti v v; omega
theorem stab_kb {s : Nat} {A R : List (List V3)} (h : Stab (ltr s) A R) (v : V3) : R.filter (kb s v) = A.filter (kb s v) := by
  have hx : atV (List.replicate (s + 1) v) s = v := by rw [atV_eq _ _ (by simp)]; simp
  have h1 := congrArg (List.filter (kb s v)) (h.2 (List.replicate (s + 1) v))
  unfold alk at h1
  rw [List.filter_filter, List.filter_filter] at h1
  have e : (fun y => kb s v y && (!ltr s (List.replicate (s + 1) v) y && !ltr s y (List.replicate (s + 1) v))) = kb s v := by
    funext y
    cases hk : kb s v y with
    | false => rfl
    | true =>
      have hv : atV y s = v := eqV_iff.1 hk
      unfold ltr
      rw [hx, hv, cV_self]; rfl
  rw [e] at h1
  exact h1
/-- Is row k of R taken when i rows of A have been matched? -/
def tk (s : Nat) (A R : List (List V3)) (i k : Nat) : Bool := decide ((R.take k).countP (kb s (atV (R.getD k []) s)) < (A.take i).countP (kb s (atV (R.getD k []) s)))
theorem tk_zero (s : Nat) (A R : List (List V3)) (k : Nat) : tk s A R 0 k = false := by simp [tk]
/-- One of the rows is free, and of the value. -/
def fr (s : Nat) (A R : List (List V3)) (i k : Nat) : Bool := !tk s A R i k && eqV (atV (R.getD k []) s) (atV (A.getD i []) s)
theorem getD_at {α : Type} {l : List α} {i : Nat} {d : α} (h : i < l.length) : l.getD i d = l[i] := by simp [h]
theorem fr_none {s : Nat} {A R : List (List V3)} (h : Stab (ltr s) A R) {i : Nat} (hi : i < A.length) (hf : ∀ k, k < R.length → fr s A R i k = false) : False := by
  have hAi : A.getD i [] = A[i] := getD_at hi
  refine match_some (stab_kb h (atV A[i] s)) hi (eqV_iff.2 rfl) (fun j hj hp => ?_)
  have h1 := hf j hj
  have hv := eqV_iff.1 hp
  unfold fr tk at h1
  rw [hAi, getD_at hj, hv] at h1
  simpa [eqV_iff.2 rfl] using h1
theorem fr_row {s : Nat} {A R : List (List V3)} (h : Stab (ltr s) A R) {i k : Nat} (hi : i < A.length) (hk : k < R.length) (hf : ∀ j, j < k → fr s A R i j = false) (hfk : fr s A R i k = true) :
    R.getD k [] = A.getD i [] ∧ ∀ j, j < R.length → tk s A R (i + 1) j = (tk s A R i j || decide (j = k)) := by
  have hAi : A.getD i [] = A[i] := getD_at hi
  have hRk : R.getD k [] = R[k] := getD_at hk
  have hfk' := hfk
  unfold fr tk at hfk
  rw [Bool.and_eq_true, hAi, hRk] at hfk
  obtain ⟨h1, h2⟩ := hfk
  have hv := eqV_iff.1 h2
  rw [hv] at h1
  have hpk : kb s (atV A[i] s) R[k] = true := h2
  have h3 := match_row (stab_kb h (atV A[i] s)) hi (eqV_iff.2 rfl) hk hpk (fun j hj hjk hp => by
    have h1 := hf j hjk
    have hv := eqV_iff.1 hp
    unfold fr tk at h1
    rw [hAi, getD_at hj, hv] at h1
    simpa [eqV_iff.2 rfl] using h1) (by simpa using h1)
  refine ⟨by rw [hAi, hRk]; exact h3.1, fun j hj => ?_⟩
  have hRj : R.getD j [] = R[j] := getD_at hj
  unfold tk
  rw [hRj]
  by_cases hw : atV R[j] s = atV A[i] s
  · have hpj : kb s (atV A[i] s) R[j] = true := eqV_iff.2 hw
    rw [hw, rank_next (kb s (atV A[i] s)) A hi (eqV_iff.2 rfl), ← h3.2]
    rcases Nat.lt_trichotomy j k with hjk | hjk | hjk
    · have a1 := rank_mono (kb s (atV A[i] s)) R (j := j + 1) (k := k) (by omega)
      rw [rank_next _ R hj hpj] at a1
      rw [decide_eq_true (by omega), decide_eq_true (by omega)]; rfl
    · subst hjk
      simp
    · have a1 := rank_mono (kb s (atV A[i] s)) R (j := k + 1) (k := j) (by omega)
      rw [rank_next _ R hk hpk] at a1
      rw [decide_eq_false (by omega), decide_eq_false (by omega), decide_eq_false (by omega)]; rfl
  · have hq : kb s (atV R[j] s) A[i] = false := by
      cases hq : kb s (atV R[j] s) A[i] with
      | false => rfl
      | true => exact (hw (eqV_iff.1 hq).symm).elim
    rw [rank_skip _ A hi hq]
    have hjk : ¬ j = k := by
      intro e; subst e; exact hw hv
    simp [hjk]

theorem rowA_get (hs : List Hd) (i : Nat) : rowA hs i = (hs.map (·.row)).getD i [] := by
  unfold rowA
  rw [List.getD_eq_getElem?_getD, List.getD_eq_getElem?_getD, List.getElem?_map]
  cases hs[i]? with
  | none => rfl
  | some x => rfl
theorem mid_rows (w : World) (ad : Option Addr) (cap n a : Nat) (l : List Hd) (hn : n = l.length) (ha : a < n) (hr : RdR w ad cap l) :
    ∃ (ad' : Option Addr) (cap' : Nat) (x : Hd), (∀ wx : World, (Instr.slice 27 (.slice ad n cap) (some (.int .i64 a)) (some (.int .i64 ((a : Int) + 1))) none).run Try.prog wx = .ok (.slice ad' 1 cap') wx) ∧ RdR w ad' cap' [x] ∧ x.row = rowA l a := by
  subst hn
  have h1 := hr.1.1
  have h2 := hr.1.2.1
  refine ⟨ad.map (·.add (a * 1)), cap - a, l[a], fun wx => ?_, ⟨?_, ?_⟩, (rowA_eq l a ha).symm⟩
  · rw [run_slice_lh (P := Try.prog) (w := wx) 27 ad l.length cap (by kernel_rfl) .i64 .i64 (a : Int) ((a : Int) + 1) (by omega) (by omega) (by omega), size_row]
    have e : ((a : Int) + 1).toNat = a + 1 := by omega
    simp [Result.andThen, sliced, e]
    omega
  · have h3 := hr.1.tail (a := a) (by omega)
    have h4 := h3.head (b := 1) (by simp; omega)
    rwa [show (l.drop a).take 1 = [l[a]] by rw [List.drop_eq_getElem_cons ha]; rfl] at h4
  · intro x hx
    simp at hx
    subst hx
    exact hr.2 _ (List.getElem_mem ha)
/-- What is sorted may be sorted again, and stays. -/
theorem mayT_perm {l : List Col} {a b : List Hd} (h : (a.map (·.row)).Perm (b.map (·.row))) : mayT l a = mayT l b := by
  have e : ∀ p : List V3 → Bool, (a.any fun h => p h.row) = b.any fun h => p h.row := by
    intro p
    rw [Bool.eq_iff_iff, List.any_eq_true, List.any_eq_true]
    constructor
    · rintro ⟨x, hx, hp⟩
      obtain ⟨y, hy, e⟩ := List.mem_map.1 (h.mem_iff.1 (List.mem_map_of_mem (f := (·.row)) hx))
      exact ⟨y, hy, by rw [e]; exact hp⟩
    · rintro ⟨x, hx, hp⟩
      obtain ⟨y, hy, e⟩ := List.mem_map.1 (h.mem_iff.2 (List.mem_map_of_mem (f := (·.row)) hx))
      exact ⟨y, hy, by rw [e]; exact hp⟩
  rw [mayT_any, mayT_any, e, e]
theorem SortedL.perm {srt : Int} {a r : List (List V3)} (h : SortedL srt a r) : r.Perm a := by
  by_cases h0 : srt < 0
  · rw [h.1 h0]
  · exact (h.2 (by omega)).perm (ltr_swo _)
theorem SortedL.again {srt : Int} {a r r2 : List (List V3)} (h : SortedL srt a r) (h2 : SortedL srt r r2) : r2 = r := by
  by_cases h0 : srt < 0
  · exact h2.1 h0
  · exact (h2.2 (by omega)).uniq (ltr_swo _) (Stab.refl (h.2 (by omega)).1)
theorem stab_le {s : Nat} {A R : List (List V3)} (h : Stab (ltr s) A R) {i : Nat} (hi : i + 1 < R.length) : cV (atV (R.getD i []) s) (atV (R.getD (i + 1) []) s) ≤ 0 := by
  rw [getD_at hi, getD_at (by omega : i < R.length)]
  have h1 := List.pairwise_iff_getElem.1 h.1 i (i + 1) (by omega) hi (by omega)
  rw [ltr, decide_eq_false_iff_not] at h1
  have := cV_anti (atV R[i] s) (atV R[i + 1] s)
  omega
theorem infoIntT : (Try.prog.info? 3).map (fun i => (i.zero, i.size, i.bytes)) = some (some (.int .i64 0), 1, 8) := by kernel_rfl
end Go.Proofs.Ytfacpfogdcefpaa
