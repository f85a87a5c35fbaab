/-
  Star-trees: counts and stars of a grown tree (plain).
-/
import Derived.Test.YthmaobmgogmaoaaStbP
namespace Go.Proofs.Ythmaobmgogmaoaa
open Go.RowKit
set_option linter.unusedSimpArgs false
set_option linter.unusedVariables false

section
variable {P P' : Nat → Nat → Nat → Nat → Nat → Nat → Prop} {R : List PR} {d q : Nat}
theorem KidsOk.bd {a m r : Nat} {ks : List (Int × Nat)} {m' r' : Nat} (h : KidsOk P R d q a m r ks m' r') : a ≤ q := by
  cases h with
  | nil => exact Nat.le_refl _
  | cons h1 h2 _ _ _ => omega
theorem KidsOk.imp {a m r : Nat} {ks : List (Int × Nat)} {m' r' : Nat} (h : KidsOk P R d q a m r ks m' r') {lo : Nat} (hlo : lo ≤ a) (hP : ∀ a e m m1 r r1, lo ≤ a → a < e → e ≤ q → P a e m m1 r r1 → P' a e m m1 r r1) : KidsOk P' R d q a m r ks m' r' := by
  induction h with
  | nil => exact .nil _ _
  | cons h1 h2 h3 h4 _ ih => exact .cons h1 h2 h3 (hP _ _ _ _ _ _ hlo h1 h2 h4) (ih (by omega))
theorem KidsOk.mono {a m r : Nat} {ks : List (Int × Nat)} {m' r' : Nat} (h : KidsOk (fun _ _ m m1 r r1 => m < m1 ∧ r ≤ r1) R d q a m r ks m' r') : m ≤ m' ∧ r ≤ r' := by
  induction h with
  | nil => omega
  | cons _ _ _ h4 _ ih => omega
theorem KidsOk.same {a m r : Nat} {ks : List (Int × Nat)} {m' r' : Nat} (h : KidsOk (fun _ _ _ _ r r1 => r1 = r) R d q a m r ks m' r') : r' = r := by
  induction h with
  | nil => rfl
  | cons _ _ _ h4 _ ih => omega
end
theorem node_mono (leaf k : Nat) (R : List PR) (N : List PN) : ∀ f st p q n n' r r', NodeOk leaf k R N f st p q n n' r r' → n < n' ∧ r ≤ r' ∧ (st = true → r' = r)
  | 0, st, p, q, n, n', r, r', h => by
    obtain ⟨-, h2, h3⟩ := h
    exact ⟨by omega, by omega, fun _ => h3⟩
  | f + 1, st, p, q, n, n', r, r', h => by
    rcases h with ⟨-, -, h2, h3⟩ | ⟨-, ks, m, b, hk, h⟩
    · exact ⟨by omega, by omega, fun _ => h3⟩
    · have h1 := (hk.imp (P' := fun _ _ m m1 r r1 => m < m1 ∧ r ≤ r1) (Nat.le_refl _) (fun a e m m1 r r1 _ _ _ h => ⟨(node_mono leaf k R N f st a e m m1 r r1 h).1, (node_mono leaf k R N f st a e m m1 r r1 h).2.1⟩)).mono
      rcases h with ⟨rfl, -, rfl, rfl⟩ | ⟨rfl, -, -, -, h⟩
      · have h2 := (hk.imp (P' := fun _ _ _ _ r r1 => r1 = r) (Nat.le_refl _) (fun a e m m1 r r1 _ _ _ h => (node_mono leaf k R N f true a e m m1 r r1 h).2.2 rfl)).same
        exact ⟨by omega, by omega, fun _ => h2⟩
      · have h2 := node_mono leaf k R N f true _ _ _ _ _ _ h
        exact ⟨by omega, by omega, fun h => by cases h⟩
/-- What stands at the node itself. -/
theorem node_at {leaf k : Nat} {R : List PR} {N : List PN} {f : Nat} {st : Bool} {p q n n' r r' : Nat} (h : NodeOk leaf k R N f st p q n n' r r') : ∃ ks, N[n]? = some ⟨k - f, p, q, ks⟩ := by
  cases f with
  | zero => exact ⟨[], h.1⟩
  | succ f =>
    rcases h with ⟨-, h, -⟩ | ⟨-, ks, m, b, -, ⟨-, h, -⟩ | ⟨-, h, -⟩⟩
    · exact ⟨_, h⟩
    · exact ⟨_, h⟩
    · exact ⟨_, h⟩

def csum (L : List PR) : Int := (L.map (·.cnt)).sum
theorem csum_cons (x : PR) (L : List PR) : csum (x :: L) = x.cnt + csum L := by simp [csum]
theorem csum_append (A B : List PR) : csum (A ++ B) = csum A + csum B := by simp [csum]
def seg (R : List PR) (p q : Nat) : List PR := (R.take q).drop p
theorem seg_split (R : List PR) {p e q : Nat} (h1 : p ≤ e) (h2 : e ≤ q) (h3 : q ≤ R.length) : seg R p q = seg R p e ++ seg R e q := by
  unfold seg
  have e1 : R.take e = (R.take q).take e := by rw [List.take_take, Nat.min_eq_left h2]
  have hl : e ≤ (R.take q).length := by rw [List.length_take]; omega
  rw [e1]
  generalize R.take q = L at *
  conv => lhs; rw [← List.take_append_drop e L]
  rw [List.drop_append_of_le_length (by rw [List.length_take]; omega)]
theorem seg_length (R : List PR) {p q : Nat} (h : q ≤ R.length) : (seg R p q).length = q - p := by
  unfold seg; rw [List.length_drop, List.length_take]; omega
theorem seg_get (R : List PR) {p q j : Nat} (hp : p ≤ j) (hq : j < q) : (seg R p q)[j - p]? = R[j]? := by
  unfold seg
  rw [List.getElem?_drop, List.getElem?_take, if_pos (by omega)]
  congr 1; omega
theorem mem_seg {R : List PR} {p q : Nat} {x : PR} (h : x ∈ seg R p q) : ∃ j, p ≤ j ∧ j < q ∧ R[j]? = some x := by
  obtain ⟨i, hi, rfl⟩ := List.getElem_of_mem h
  have hi2 : i < min q R.length - p := by
    have := hi
    unfold seg at this
    rwa [List.length_drop, List.length_take] at this
  refine ⟨p + i, by omega, by omega, ?_⟩
  rw [← seg_get R (p := p) (q := q) (by omega) (by omega), show p + i - p = i by omega, List.getElem?_eq_getElem hi]
theorem seg_mem {R : List PR} {p q j : Nat} {x : PR} (hp : p ≤ j) (hq : j < q) (h : R[j]? = some x) : x ∈ seg R p q := by
  rw [← seg_get R hp hq] at h
  obtain ⟨hi, rfl⟩ := List.getElem?_eq_some_iff.1 h
  exact List.getElem_mem _
theorem csum_nonneg {L : List PR} (h : ∀ x ∈ L, 1 ≤ x.cnt) : (L.length : Int) ≤ csum L := by
  induction L with
  | nil => simp [csum]
  | cons a t ih =>
    have h1 := h a (by simp)
    have h2 := ih (fun x hx => h x (by simp [hx]))
    rw [csum_cons, List.length_cons]; omega
/-- Records of k ids, from column d on without a star; few rows. -/
def ListOk (k d : Nat) (L : List PR) : Prop := (∀ x ∈ L, x.ids.length = k ∧ (∀ c, d ≤ c → c < k → 0 ≤ x.ids.getD c 0) ∧ 1 ≤ x.cnt) ∧ csum L ≤ 80
theorem ListOk.sub {k d : Nat} {R : List PR} {p q a e : Nat} (h : ListOk k d (seg R p q)) (h1 : p ≤ a) (h2 : a ≤ e) (h3 : e ≤ q) (h4 : q ≤ R.length) : ListOk k d (seg R a e) := by
  have e1 := seg_split R h1 (Nat.le_trans h2 h3) h4
  have e2 := seg_split R h2 h3 h4
  rw [e2] at e1
  rw [e1] at h
  obtain ⟨h5, h6⟩ := h
  refine ⟨fun x hx => h5 x (by simp [hx]), ?_⟩
  rw [csum_append, csum_append] at h6
  have g1 := csum_nonneg (L := seg R p a) (fun x hx => (h5 x (by simp [hx])).2.2)
  have g2 := csum_nonneg (L := seg R e q) (fun x hx => (h5 x (by simp [hx])).2.2)
  omega
theorem ListOk.down {k d : Nat} {L : List PR} (h : ListOk k d L) {d' : Nat} (hd : d ≤ d') : ListOk k d' L := ⟨fun x hx => ⟨(h.1 x hx).1, fun c h1 h2 => (h.1 x hx).2.1 c (by omega) h2, (h.1 x hx).2.2⟩, h.2⟩
theorem csum_put {x : PR} : ∀ {L : List PR}, (∀ y ∈ L, 1 ≤ y.cnt) → 1 ≤ x.cnt → csum L + x.cnt ≤ 1000000 → csum (putP L x) = csum L + x.cnt ∧ ∀ y ∈ putP L x, 1 ≤ y.cnt
  | [], _, hx, _ => by
    unfold putP
    refine ⟨by simp [csum], fun y hy => ?_⟩
    simp at hy; subst hy; exact hx
  | a :: t, h, hx, hb => by
    have ha := h a (by simp)
    have ht : ∀ y ∈ t, 1 ≤ y.cnt := fun y hy => h y (by simp [hy])
    have hn := csum_nonneg ht
    rw [csum_cons] at hb
    unfold putP
    split
    · have hm : (mrg a x).cnt = a.cnt + x.cnt := by
        show IntKind.i64.wrap (a.cnt + x.cnt) = _
        exact IntWalk.i64_in _ (by omega)
      refine ⟨by rw [csum_cons, csum_cons, hm]; omega, fun y hy => ?_⟩
      rcases List.mem_cons.1 hy with rfl | hy
      · rw [hm]; omega
      · exact ht y hy
    · split
      · refine ⟨by rw [csum_cons, csum_cons]; omega, fun y hy => ?_⟩
        rcases List.mem_cons.1 hy with rfl | hy
        · exact hx
        · exact h y hy
      · obtain ⟨i1, i2⟩ := csum_put (L := t) (x := x) ht hx (by omega)
        refine ⟨by rw [csum_cons, csum_cons, i1]; omega, fun y hy => ?_⟩
        rcases List.mem_cons.1 hy with rfl | hy
        · exact ha
        · exact i2 y hy
theorem csum_fold : ∀ (l out : List PR), (∀ y ∈ out, 1 ≤ y.cnt) → (∀ y ∈ l, 1 ≤ y.cnt) → csum out + csum l ≤ 1000000 → csum (l.foldl putP out) = csum out + csum l ∧ ∀ y ∈ l.foldl putP out, 1 ≤ y.cnt
  | [], out, h1, h2, h3 => ⟨by simp [csum], h1⟩
  | x :: l, out, h1, h2, h3 => by
    rw [csum_cons] at h3 ⊢
    have hl : ∀ y ∈ l, 1 ≤ y.cnt := fun y hy => h2 y (by simp [hy])
    have hn := csum_nonneg hl
    obtain ⟨i1, i2⟩ := csum_put (L := out) (x := x) h1 (h2 x (by simp)) (by omega)
    obtain ⟨j1, j2⟩ := csum_fold l (putP out x) i2 hl (by omega)
    exact ⟨by rw [List.foldl_cons, j1, i1]; omega, j2⟩
theorem csum_tog {l : List PR} (h : ∀ y ∈ l, 1 ≤ y.cnt) (hb : csum l ≤ 1000000) : csum (togP l) = csum l ∧ ∀ y ∈ togP l, 1 ≤ y.cnt := by
  obtain ⟨h1, h2⟩ := csum_fold l [] (by simp) h (by simpa [csum] using hb)
  exact ⟨by simpa [csum, togP] using h1, h2⟩
theorem csum_star (d : Nat) (L : List PR) : csum (L.map (starAt d)) = csum L := by
  unfold csum; rw [List.map_map]; rfl
theorem getI_set {l : List Int} {d c : Nat} {v : Int} : (l.set d v).getD c 0 = if c = d ∧ d < l.length then v else l.getD c 0 := by
  rw [List.getD_eq_getElem?_getD, List.getD_eq_getElem?_getD, List.getElem?_set]
  by_cases h : d = c
  · subst h
    by_cases h2 : d < l.length
    · simp [h2]
    · simp [h2]
  · rw [if_neg h, if_neg (fun e => h e.1.symm)]
theorem ListOk.star {k d : Nat} {L : List PR} (h : ListOk k d L) : ListOk k (d + 1) (togP (L.map (starAt d))) := by
  have hc : ∀ y ∈ L.map (starAt d), 1 ≤ y.cnt := fun y hy => by
    obtain ⟨x, hx, rfl⟩ := List.mem_map.1 hy
    exact (h.1 x hx).2.2
  have hs := csum_star d L
  have hb := h.2
  obtain ⟨h1, h2⟩ := csum_tog hc (by omega)
  refine ⟨fun y hy => ?_, by omega⟩
  obtain ⟨z, hz, e⟩ := mem_togP hy
  obtain ⟨x, hx, rfl⟩ := List.mem_map.1 hz
  have e2 : y.ids = x.ids.set d (-1) := e.symm
  refine ⟨by rw [e2, List.length_set]; exact (h.1 x hx).1, fun c hc1 hc2 => ?_, h2 y hy⟩
  rw [e2, getI_set, if_neg (by omega)]
  exact (h.1 x hx).2.1 c (by omega) hc2
/-- A record of a star's: which it came of. -/
theorem star_of {d : Nat} {L : List PR} {y : PR} (h : y ∈ togP (L.map (starAt d))) : ∃ x ∈ L, y.ids = x.ids.set d (-1) := by
  obtain ⟨z, hz, e⟩ := mem_togP h
  obtain ⟨x, hx, rfl⟩ := List.mem_map.1 hz
  exact ⟨x, hx, e.symm⟩

/-- Where records of stars come from. -/
def FromStar (k : Nat) (R : List PR) (p q j : Nat) : Prop := ∃ d p' q' x, d < k ∧ p ≤ p' ∧ p' ≤ q' ∧ q' ≤ q ∧ R[j]? = some x ∧ x ∈ togP ((seg R p' q').map (starAt d))
theorem FromStar.wide {k : Nat} {R : List PR} {p q j p0 q0 : Nat} (h : FromStar k R p q j) (h1 : p0 ≤ p) (h2 : q ≤ q0) : FromStar k R p0 q0 j := by
  obtain ⟨d, p', q', x, g1, g2, g3, g4, g5⟩ := h
  exact ⟨d, p', q', x, g1, by omega, g3, by omega, g5⟩
theorem kids_blocks {k : Nat} {R : List PR} {d q lo : Nat} {a m r : Nat} {ks : List (Int × Nat)} {m' r' : Nat} (h : KidsOk (fun a e _ _ r r1 => ∀ j, r ≤ j → j < r1 → FromStar k R a e j) R d q a m r ks m' r') (hlo : lo ≤ a) : ∀ j, r ≤ j → j < r' → FromStar k R lo q j := by
  induction h with
  | nil => intro j h1 h2; omega
  | cons h1 h2 h3 h4 h5 ih =>
    rename_i a e m m1 r r1 m' r' id ks
    intro j hj1 hj2
    by_cases hj : j < r1
    · exact (h4 j hj1 hj).wide hlo h2
    · exact ih (by omega) j (by omega) hj2
theorem node_blocks (leaf k : Nat) (R : List PR) (N : List PN) : ∀ f st p q n n' r r', f ≤ k → p ≤ q → NodeOk leaf k R N f st p q n n' r r' → ∀ j, r ≤ j → j < r' → FromStar k R p q j
  | 0, st, p, q, n, n', r, r', hf, hpq, h, j, h1, h2 => by have := h.2.2; omega
  | f + 1, st, p, q, n, n', r, r', hf, hpq, h, j, h1, h2 => by
    rcases h with ⟨-, -, -, h3⟩ | ⟨-, ks, m, b, hk, h⟩
    · omega
    · have h3 := kids_blocks (hk.imp (P' := fun a e _ _ r r1 => ∀ j, r ≤ j → j < r1 → FromStar k R a e j) (Nat.le_refl _) (fun a e m m1 r r1 _ hae _ h => node_blocks leaf k R N f st a e m m1 r r1 (by omega) (by omega) h)) (Nat.le_refl _)
      rcases h with ⟨rfl, -, rfl, rfl⟩ | ⟨rfl, -, hb, he, h⟩
      · exact h3 j h1 h2
      · have h4 := (node_mono leaf k R N f true _ _ _ _ _ _ h).2.2 rfl
        by_cases hj : j < b
        · exact h3 j h1 hj
        · subst h4
          have hl : (seg R p q).map (starAt (k - (f + 1))) = ((R.take q).drop p).map (starAt (k - (f + 1))) := rfl
          have hget : R[j]? = (starRecs R (k - (f + 1)) p q)[j - b]? := by
            rw [← he, List.getElem?_take, if_pos (by omega), List.getElem?_drop]
            congr 1; omega
          have hjb : j - b < (starRecs R (k - (f + 1)) p q).length := by omega
          rw [List.getElem?_eq_getElem hjb] at hget
          exact ⟨k - (f + 1), p, q, _, by omega, Nat.le_refl _, hpq, Nat.le_refl _, hget, List.getElem_mem hjb⟩

/-- How the whole tree stands. -/
theorem ofP_node (S M : List (List Int)) (leaf : Nat) : ∃ E, (ofP S M leaf).R = togP (rowsP S M) ++ E ∧ NodeOk leaf S.length (ofP S M leaf).R (ofP S M leaf).N S.length false 0 (togP (rowsP S M)).length 0 (ofP S M leaf).N.length (togP (rowsP S M)).length (ofP S M leaf).R.length := by
  obtain ⟨⟨E, h1⟩, -, h3⟩ := grow_ok leaf S.length S.length false 0 (togP (rowsP S M)).length ⟨togP (rowsP S M), []⟩ (Nat.le_refl _) (Nat.zero_le _) (Nat.le_refl _)
  exact ⟨E, h1, h3 _ _ ⟨[], by simp [ofP]⟩ (fun i _ _ => rfl)⟩
theorem ids_row (S M : List (List Int)) (i : Nat) : (rowPR S M i).ids = S.map (fun l => nth l i) := rfl
/-- Rows that may be. -/
theorem rows_ok {S M : List (List Int)} {n : Nat} (hn : (S.getD 0 []).length = n) (hb : n ≤ 80) (hge : ∀ l ∈ S, ∀ x ∈ l, 0 ≤ x) : ListOk S.length 0 (rowsP S M) ∧ csum (rowsP S M) = n := by
  have hc : csum (rowsP S M) = n := by
    unfold csum rowsP
    rw [hn, List.map_map]
    have : ∀ n : Nat, ((List.range n).map ((·.cnt) ∘ rowPR S M)).sum = (n : Int) := fun n => by
      induction n with
      | zero => rfl
      | succ n ih => rw [List.range_succ, List.map_append, List.sum_append, ih]; simp [rowPR]
    exact this n
  refine ⟨⟨fun x hx => ?_, by omega⟩, hc⟩
  obtain ⟨i, hi, rfl⟩ := List.mem_map.1 hx
  refine ⟨by rw [ids_row, List.length_map], fun c _ hc2 => ?_, by simp [rowPR]⟩
  rw [ids_row, List.getD_eq_getElem?_getD, List.getElem?_map, List.getElem?_eq_getElem hc2]
  simp only [Option.map_some, Option.getD_some, nth]
  by_cases h : i < S[c].length
  · rw [List.getD_eq_getElem?_getD, List.getElem?_eq_getElem h]
    exact hge _ (List.getElem_mem hc2) _ (List.getElem_mem h)
  · rw [List.getD_eq_getElem?_getD, List.getElem?_eq_none (by omega)]; simp
theorem base_ok {S M : List (List Int)} {n : Nat} (hn : (S.getD 0 []).length = n) (hb : n ≤ 80) (hge : ∀ l ∈ S, ∀ x ∈ l, 0 ≤ x) : ListOk S.length 0 (togP (rowsP S M)) ∧ csum (togP (rowsP S M)) = n := by
  obtain ⟨h1, h2⟩ := rows_ok (M := M) hn hb hge
  obtain ⟨h3, h4⟩ := csum_tog (fun y hy => (h1.1 y hy).2.2) (by have := h1.2; omega)
  refine ⟨⟨fun y hy => ?_, by rw [h3]; exact h1.2⟩, by rw [h3, h2]⟩
  obtain ⟨x, hx, e⟩ := mem_togP hy
  have := h1.1 x hx
  rw [e] at this
  exact ⟨this.1, this.2.1, h4 y hy⟩
def starsOf (l : List Int) : Nat := l.count (-1)
theorem stars_none {l : List Int} (h : ∀ c, c < l.length → 0 ≤ l.getD c 0) : starsOf l = 0 := by
  unfold starsOf
  rw [List.count_eq_zero]
  intro hm
  obtain ⟨c, hc, e⟩ := List.getElem_of_mem hm
  have := h c hc
  rw [List.getD_eq_getElem?_getD, List.getElem?_eq_getElem hc, e] at this
  simp at this
theorem stars_set {l : List Int} {d : Nat} (h : ∀ c, c < l.length → 0 ≤ l.getD c 0) (hd : d < l.length) : starsOf (l.set d (-1)) = 1 := by
  have h0 := stars_none h
  unfold starsOf at h0 ⊢
  have hne : ¬ (l[d] == -1) = true := by
    intro e
    have := h d hd
    rw [List.getD_eq_getElem?_getD, List.getElem?_eq_getElem hd] at this
    simp at e this; omega
  rw [List.count_set hd, h0, if_neg hne]; simp
/-- What StarBound says. -/
theorem bound_law {S M : List (List Int)} {leaf n : Nat} (hn : (S.getD 0 []).length = n) (hb : n ≤ 80) (hge : ∀ l ∈ S, ∀ x ∈ l, 0 ≤ x) :
    ∃ B, B ≤ 80 ∧ B ≤ (ofP S M leaf).R.length ∧ (ofP S M leaf).R.length ≤ (S.length + 1) * B ∧ csum ((ofP S M leaf).R.take B) = n ∧
      (∀ i, i ≤ B → 0 ≤ csum ((ofP S M leaf).R.take i) ∧ csum ((ofP S M leaf).R.take i) ≤ 80) ∧
      ∀ i x, (ofP S M leaf).R[i]? = some x → 1 ≤ x.cnt ∧ x.ids.length = S.length ∧ starsOf x.ids = if i < B then 0 else 1 := by
  obtain ⟨h1, h2⟩ := base_ok (M := M) hn hb hge
  obtain ⟨E, h3, h4⟩ := ofP_node S M leaf
  have h5 := (grow_bound leaf S.length S.length false 0 (togP (rowsP S M)).length ⟨togP (rowsP S M), []⟩ (Nat.zero_le _)).1
  have h6 : (ofP S M leaf).R.length ≤ (S.length + 1) * (togP (rowsP S M)).length := by
    unfold ofP
    refine Nat.le_trans h5 ?_
    simp only [Bool.false_eq_true, if_false, Nat.sub_zero, Nat.add_mul, Nat.one_mul]
    omega
  have hlen : (togP (rowsP S M)).length ≤ 80 := by
    have h7 := csum_nonneg (fun x hx => (h1.1 x hx).2.2)
    have := h1.2; omega
  have hnb := node_blocks leaf S.length _ _ S.length false 0 _ 0 _ _ _ (Nat.le_refl _) (Nat.zero_le _) h4
  have hseg : seg (ofP S M leaf).R 0 (togP (rowsP S M)).length = togP (rowsP S M) := by
    unfold seg; rw [h3, List.take_left' rfl]; rfl
  refine ⟨(togP (rowsP S M)).length, hlen, by rw [h3, List.length_append]; omega, h6, ?_, fun i hi => ?_, fun i x hx => ?_⟩
  · rw [h3, List.take_left' rfl, h2]
  · have e1 : (ofP S M leaf).R.take i = (togP (rowsP S M)).take i := by rw [h3, List.take_append_of_le_length hi]
    rw [e1]
    have e2 := csum_append ((togP (rowsP S M)).take i) ((togP (rowsP S M)).drop i)
    rw [List.take_append_drop] at e2
    have g1 := csum_nonneg (L := (togP (rowsP S M)).take i) (fun x hx => (h1.1 x (List.mem_of_mem_take hx)).2.2)
    have g2 := csum_nonneg (L := (togP (rowsP S M)).drop i) (fun x hx => (h1.1 x (List.mem_of_mem_drop hx)).2.2)
    have := h1.2; omega
  · by_cases hi : i < (togP (rowsP S M)).length
    · rw [if_pos hi]
      have hm : x ∈ togP (rowsP S M) := by
        rw [h3, List.getElem?_append_left hi] at hx
        exact List.mem_of_getElem? hx
      obtain ⟨g1, g2, g3⟩ := h1.1 x hm
      exact ⟨g3, g1, stars_none (fun c hc => g2 c (Nat.zero_le _) (by rw [← g1]; exact hc))⟩
    · rw [if_neg hi]
      obtain ⟨hil, -⟩ := List.getElem?_eq_some_iff.1 hx
      obtain ⟨d, p', q', y, f1, f2, f3, f4, f5, f6⟩ := hnb i (by omega) hil
      rw [hx] at f5
      cases f5
      have hsub : ListOk S.length 0 (seg (ofP S M leaf).R p' q') := by
        have h0 : ListOk S.length 0 (seg (ofP S M leaf).R 0 (togP (rowsP S M)).length) := by rw [hseg]; exact h1
        exact h0.sub (Nat.zero_le _) f3 f4 (by rw [h3, List.length_append]; omega)
      have hst := (hsub.down (d' := d) (Nat.zero_le _)).star
      obtain ⟨g1, -, g3⟩ := hst.1 x f6
      obtain ⟨z, hz, ez⟩ := star_of f6
      obtain ⟨z1, z2, z3⟩ := hsub.1 z hz
      refine ⟨g3, g1, ?_⟩
      rw [ez]
      exact stars_set (fun c hc => z2 c (Nat.zero_le _) (by rw [← z1]; exact hc)) (by rw [z1]; exact f1)
end Go.Proofs.Ythmaobmgogmaoaa
