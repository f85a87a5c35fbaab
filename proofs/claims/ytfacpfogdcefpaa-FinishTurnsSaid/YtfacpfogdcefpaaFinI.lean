/-
  Finishing: rows the other way round.
-/
import Derived.Test.YtfacpfogdcefpaaFinH
import Derived.Test.YtfacpfogdcefpaaTabS
namespace Go.Proofs.Ytfacpfogdcefpaa
open Go.RowKit Go.Shelf
set_option linter.unusedSimpArgs false
set_option linter.unusedVariables false
set_option maxRecDepth 100000

theorem orL_two (x y : Int) (l : List Int) (h : orL l = y) : orL (x :: l) = if x = 0 then y else x := by rw [orL, h]
/-- By one key, then by what comes behind it. -/
theorem cmpW_one (n : Nat) (q : Int) (o : Int) (d : Bool) (a b : List V3) : cmpW n q [⟨o, d⟩] a b = if atW n o a b = 0 then cmpW n q [] a b else (if d then - atW n o a b else atW n o a b) := by
  unfold cmpW
  rw [List.map_cons, List.map_nil, List.cons_append, orL]
  simp only [keyW, List.nil_append, List.map_nil]
  cases d
  · simp
  · by_cases h : atW n o a b = 0
    · simp [h]
    · rw [if_neg (by simpa using h), if_neg h]

def ltK (n : Nat) (q o : Int) (d : Bool) : List V3 → List V3 → Bool := fun x y => decide (cmpW n q [⟨o, d⟩] x y < 0)
theorem ltK_swo (n : Nat) (q o : Int) (d : Bool) : Swo (ltK n q o d) := cmpW_swo n q [⟨o, d⟩]
theorem alkK (n : Nat) (q o : Int) (x : List V3) (l : List (List V3)) : alk (ltK n q o true) x l = alk (ltK n q o false) x l := by
  unfold alk
  congr 1
  funext y
  have h1 := (cmpW_anti n q [⟨o, true⟩] x y).1
  have h2 := (cmpW_anti n q [⟨o, false⟩] x y).1
  have e1 := cmpW_one n q o true x y
  have e2 := cmpW_one n q o false x y
  simp only [ltK, h1, h2]
  generalize cmpW n q [⟨o, true⟩] x y = u at *
  generalize cmpW n q [⟨o, false⟩] x y = v at *
  generalize cmpW n q [] x y = z at *
  generalize atW n o x y = t at *
  by_cases ht : t = 0
  · rw [if_pos ht] at e1 e2
    rw [e1, e2]
  · rw [if_neg ht] at e1 e2
    simp at e1 e2
    subst e1 e2
    rw [Bool.eq_iff_iff]
    simp
    omega
theorem pair_of {α : Type} (f : α → α → Int) (ht : ∀ x y z, f x y < 0 → f y z < 0 → f x z < 0) : ∀ l : List α, (∀ i (h : i + 1 < l.length), f l[i] l[i + 1] < 0) → l.Pairwise fun x y => f x y < 0
  | [], _ => List.Pairwise.nil
  | [a], _ => List.pairwise_singleton _ _
  | a :: b :: t, h => by
    have ih := pair_of f ht (b :: t) (fun i hi => h (i + 1) (by simpa using hi))
    have h0 := h 0 (by simp)
    simp at h0
    refine List.pairwise_cons.2 ⟨fun y hy => ?_, ih⟩
    rcases List.mem_cons.1 hy with rfl | hy
    · exact h0
    · exact ht a b y h0 ((List.pairwise_cons.1 ih).1 y hy)
theorem rev_short {α : Type} : ∀ l : List α, l.length ≤ 1 → l.reverse = l
  | [], _ => rfl
  | [a], _ => rfl
  | _ :: _ :: _, h => by simp at h
/-- By one key falling: the other way round. -/
theorem turned {n : Nat} {q o : Int} {A U D : List (List V3)} (hu : Stab (ltK n q o false) A U) (hd : Stab (ltK n q o true) A D) (hne : ∀ i (h : i + 1 < U.length), cmpW n 0 [⟨o, false⟩] U[i] U[i + 1] ≠ 0) : D = U.reverse := by
  have ht : ∀ x y z, atW n o x y < 0 → atW n o y z < 0 → atW n o x z < 0 := by
    intro x y z h1 h2
    have := atW_T3 n o x y z
    unfold T3 at this
    omega
  have hp : U.Pairwise fun x y => atW n o x y < 0 := by
    refine pair_of _ ht U fun i hi => ?_
    have h1 := hne i hi
    have h0 : cmpW n 0 [] U[i] U[i + 1] = 0 := by unfold cmpW; simp [orL]
    rw [cmpW_one, h0] at h1
    have h2 : ltK n q o false U[i + 1] U[i] = false := (List.pairwise_iff_getElem.1 hu.1) i (i + 1) (by omega) hi (by omega)
    have h3 : atW n o U[i] U[i + 1] ≠ 0 := by
      intro h; rw [if_pos h] at h1; exact h1 rfl
    simp only [ltK, decide_eq_false_iff_not] at h2
    have h4 := (atW_anti n o U[i] U[i + 1]).1
    rw [cmpW_one, if_neg (by omega)] at h2
    simp at h2
    omega
  refine hd.uniq (ltK_swo n q o true) ⟨?_, fun x => ?_⟩
  · refine List.pairwise_reverse.2 (hp.imp fun {a b} h => ?_)
    simp only [ltK, decide_eq_false_iff_not]
    rw [cmpW_one, if_neg (by omega)]
    simp
    omega
  · rw [alkK, alkK, ← hu.2 x]
    have e : alk (ltK n q o false) x U.reverse = (alk (ltK n q o false) x U).reverse := by unfold alk; rw [List.filter_reverse]
    rw [e]
    refine rev_short _ ?_
    have hp2 : (alk (ltK n q o false) x U).Pairwise fun x y => atW n o x y < 0 := hp.sublist List.filter_sublist
    have hz : ∀ y ∈ alk (ltK n q o false) x U, atW n o x y = 0 := by
      intro y hy
      obtain ⟨-, h1, h2⟩ := mem_alk.1 hy
      simp only [ltK, decide_eq_false_iff_not] at h1 h2
      rw [(cmpW_anti n q [⟨o, false⟩] x y).1] at h2
      have e := cmpW_one n q o false x y
      by_cases h : atW n o x y = 0
      · exact h
      · rw [if_neg h] at e; simp at e; omega
    generalize alk (ltK n q o false) x U = l at *
    match l, hp2, hz with
    | [], _, _ => simp
    | [a], _, _ => simp
    | a :: b :: t, hp2, hz =>
      exfalso
      have h1 := (List.pairwise_cons.1 hp2).1 b (by simp)
      have h2 := hz a (by simp)
      have h3 := hz b (by simp)
      have h4 := atW_T3 n o x a b
      have h5 := atW_T3 n o a x b
      have h6 := (atW_anti n o x a).1
      unfold T3 at h4 h5
      omega

/-- What Finish tells where nothing is left out. -/
theorem fin_all {N : Nat} {q o : Int} {d : Bool} {rows : List (List V3)} {w : World} {e : Ending} {w' : World} (h : FinPost N q [⟨o, d⟩] (-1) rows w e w') :
    Kp [] w w' ∧ ∃ oa oc R, e = .returned (.slice oa rows.length oc) ∧ rows.length = R.length ∧ RdR w' oa oc R ∧ Stab (ltK N q o d) rows (R.map (·.row)) := by
  obtain ⟨kp, oa, oc, k, R, S, rfl, hk, hR, hst, hmap⟩ := h
  rw [if_pos (by decide)] at hmap
  subst hmap
  have hl := hst.len (ltK_swo N q o d)
  simp at hl
  exact ⟨kp, oa, oc, R, by rw [hk, hl], hl.symm, hR, hst⟩
theorem turned_same {n : Nat} {q o : Int} {A : List (List V3)} {U D : List Hd} (hu : Stab (ltK n q o false) A (U.map (·.row))) (hd : Stab (ltK n q o true) A (D.map (·.row))) (hne : ∀ i, i + 1 < U.length → cmpW n 0 [⟨o, false⟩] (rowA U i) (rowA U (i + 1)) ≠ 0) (hl : U.length = D.length) (i t : Nat) (hi : i + t + 1 = U.length) : rowA U i = rowA D t := by
  have h := turned hu hd (fun j hj => by
    simp at hj
    have := hne j hj
    rw [rowA_eq U j (by omega), rowA_eq U (j + 1) hj] at this
    simpa using this)
  rw [rowA_get, rowA_get, h]
  rw [List.getD_eq_getElem?_getD, List.getD_eq_getElem?_getD, List.getElem?_reverse (by simp; omega)]
  simp only [List.length_map]
  rw [show U.length - 1 - t = i by omega]
end Go.Proofs.Ytfacpfogdcefpaa
