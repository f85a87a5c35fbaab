/-
  Star-trees: what nodes say of each other (plain).
-/
import Derived.Test.YthmaobmgogmaoaaStbQ
namespace Go.Proofs.Ythmaobmgogmaoaa
open Go.RowKit
set_option linter.unusedSimpArgs false
set_option linter.unusedVariables false

/-- Records that a node may be of. -/
def Rng (k : Nat) (R : List PR) (d p q : Nat) : Prop := p ≤ q ∧ q ≤ R.length ∧ ListOk k d (seg R p q)
theorem seg_block {R l : List PR} {b : Nat} (h1 : b + l.length ≤ R.length) (h2 : (R.drop b).take l.length = l) : seg R b (b + l.length) = l := by
  unfold seg
  rw [List.drop_take, Nat.add_sub_cancel_left]; exact h2
theorem idAt_get {R : List PR} {j : Nat} {x : PR} (h : R[j]? = some x) (c : Nat) : idAt R j c = x.ids.getD c 0 := by
  have e : R.getD j default = x := by rw [List.getD_eq_getElem?_getD, h]; rfl
  unfold idAt; rw [e]
/-- Each node below one stands. -/
def NodeAt (leaf k : Nat) (R : List PR) (N : List PN) (i : Nat) : Prop := ∃ f st p q n' r r', f ≤ k ∧ NodeOk leaf k R N f st p q i n' r r' ∧ Rng k R (k - f) p q
theorem kids_all {leaf k : Nat} {R : List PR} {N : List PN} {d q : Nat} {a m r : Nat} {ks : List (Int × Nat)} {m' r' : Nat} (h : KidsOk (fun _ _ m m1 _ _ => ∀ i, m ≤ i → i < m1 → NodeAt leaf k R N i) R d q a m r ks m' r') : ∀ i, m ≤ i → i < m' → NodeAt leaf k R N i := by
  induction h with
  | nil => intro i h1 h2; omega
  | cons h1 h2 h3 h4 h5 ih =>
    rename_i a e m m1 r r1 m' r' id ks
    intro i hi1 hi2
    by_cases hi : i < m1
    · exact h4 i hi1 hi
    · exact ih i (by omega) hi2
theorem node_all (leaf k : Nat) (R : List PR) (N : List PN) : ∀ f st p q n n' r r', f ≤ k → Rng k R (k - f) p q → NodeOk leaf k R N f st p q n n' r r' → ∀ i, n ≤ i → i < n' → NodeAt leaf k R N i
  | 0, st, p, q, n, n', r, r', hf, hr, h, i, h1, h2 => by
    obtain rfl : i = n := by have := h.2.1; omega
    exact ⟨0, st, p, q, n', r, r', hf, h, hr⟩
  | f + 1, st, p, q, n, n', r, r', hf, hr, h, i, h1, h2 => by
    by_cases hi : i = n
    · subst hi
      exact ⟨f + 1, st, p, q, n', r, r', hf, h, hr⟩
    · rcases h with ⟨-, -, h3, -⟩ | ⟨-, ks, m, b, hk, h⟩
      · omega
      · have hd : k - (f + 1) ≤ k - f := by omega
        have h3 := kids_all (hk.imp (P' := fun _ _ m m1 _ _ => ∀ i, m ≤ i → i < m1 → NodeAt leaf k R N i) (Nat.le_refl _) (fun a e m m1 r r1 hpa hae heq h => node_all leaf k R N f st a e m m1 r r1 (by omega) ⟨by omega, by have := hr.2.1; omega, (hr.2.2.sub hpa (by omega) heq hr.2.1).down hd⟩ h))
        rcases h with ⟨rfl, -, rfl, rfl⟩ | ⟨rfl, -, hb, he, h⟩
        · exact h3 i (by omega) h2
        · by_cases hm : i < m
          · exact h3 i (by omega) hm
          · have hs := hr.2.2.star
            have e : k - (f + 1) + 1 = k - f := by omega
            rw [e] at hs
            refine node_all leaf k R N f true _ _ m n' _ r' (by omega) ⟨by omega, hb, ?_⟩ h i (by omega) h2
            rw [seg_block hb he]
            exact hs

def atN (N : List PN) (ks : List (Int × Nat)) (a : Nat) : Nat := ks.foldl (fun a kid => if kid.1 = -1 then a else (N.getD kid.2 default).t) a
theorem atN_snoc (N : List PN) (ks : List (Int × Nat)) (a : Nat) (kid : Int × Nat) : atN N (ks ++ [kid]) a = if kid.1 = -1 then atN N ks a else (N.getD kid.2 default).t := by simp [atN]
theorem take_snoc {α : Type} {l : List α} {s : Nat} {x : α} (h : l[s]? = some x) : l.take (s + 1) = l.take s ++ [x] := by
  obtain ⟨hs, rfl⟩ := List.getElem?_eq_some_iff.1 h
  exact List.take_succ_eq_append_getElem hs
/-- What a kid is. -/
structure KidIs (k : Nat) (R : List PR) (N : List PN) (i : Nat) (y : PN) (s : Nat) (kid : Int × Nat) (z : PN) : Prop where
  gt : i < kid.2
  at' : N[kid.2]? = some z
  d : z.d = y.d + 1
  dk : y.d < k
  ft : z.f ≤ z.t
  tR : z.t ≤ R.length
  ok : ListOk k z.d (seg R z.f z.t)
  star : kid.1 = -1 → csum (seg R z.f z.t) = csum (seg R y.f y.t)
  next : kid.1 ≠ -1 → z.f = atN N (y.kids.take s) y.f
  ids : ∀ j, z.f ≤ j → j < z.t → idAt R j y.d = kid.1
theorem kids_list {R : List PR} {N : List PN} {d q : Nat} {a m r : Nat} {ks : List (Int × Nat)} {m' r' : Nat} (h : KidsOk (fun a e m m1 _ _ => m < m1 ∧ ∃ ks, N[m]? = some ⟨d + 1, a, e, ks⟩) R d q a m r ks m' r') (hq : q ≤ R.length) (hge : ∀ j, a ≤ j → j < q → 0 ≤ idAt R j d) :
    atN N ks a = q ∧ m ≤ m' ∧ ∀ s kid, ks[s]? = some kid → m ≤ kid.2 ∧ kid.2 < m' ∧ 0 ≤ kid.1 ∧ ∃ z, N[kid.2]? = some z ∧ z.d = d + 1 ∧ z.f = atN N (ks.take s) a ∧ a ≤ z.f ∧ z.f < z.t ∧ z.t ≤ q ∧ ∀ j, z.f ≤ j → j < z.t → idAt R j d = kid.1 := by
  induction h with
  | nil => exact ⟨rfl, Nat.le_refl _, fun s kid h => by simp at h⟩
  | cons h1 h2 h3 h4 h5 ih =>
    rename_i a e m m1 r r1 m' r' id ks
    obtain ⟨h6, ks', h7⟩ := h4
    obtain ⟨i1, i0, i2⟩ := ih (fun j hj1 hj2 => hge j (by omega) hj2)
    have hid : 0 ≤ id := by rw [← h3 a (Nat.le_refl _) h1]; exact hge a (Nat.le_refl _) (by omega)
    have hN : N.getD m default = ⟨d + 1, a, e, ks'⟩ := by rw [List.getD_eq_getElem?_getD, h7]; rfl
    have hat : ∀ l, atN N ((id, m) :: l) a = atN N l e := fun l => by
      unfold atN
      rw [List.foldl_cons, if_neg (by dsimp only; omega), hN]
    refine ⟨by rw [hat]; exact i1, by omega, fun s kid hs => ?_⟩
    cases s with
    | zero =>
      simp at hs; subst hs
      exact ⟨Nat.le_refl _, by dsimp only; omega, hid, _, h7, rfl, rfl, Nat.le_refl _, h1, h2, fun j hj1 hj2 => h3 j hj1 hj2⟩
    | succ s =>
      rw [List.getElem?_cons_succ] at hs
      obtain ⟨g1, g2, g3, z, g4, g5, g6, g7, g8, g9, g10⟩ := i2 s kid hs
      exact ⟨by omega, g2, g3, z, g4, g5, by rw [List.take_succ_cons, hat]; exact g6, by omega, g8, g9, g10⟩
/-- What is said of each node. -/
structure NodeIs (leaf k : Nat) (R : List PR) (N : List PN) (i : Nat) (y : PN) : Prop where
  ft : y.f ≤ y.t
  tR : y.t ≤ R.length
  dk : y.d ≤ k
  ok : ListOk k y.d (seg R y.f y.t)
  small : (y.d = k ∨ y.t - y.f ≤ leaf) ↔ y.kids = []
  kid : ∀ s kid, y.kids[s]? = some kid → ∃ z, KidIs k R N i y s kid z
  all : y.kids ≠ [] → atN N y.kids y.f = y.t
  few : y.kids.length ≤ y.t - y.f + 1
theorem KidsOk.few {P : Nat → Nat → Nat → Nat → Nat → Nat → Prop} {R : List PR} {d q a m r : Nat} {ks : List (Int × Nat)} {m' r' : Nat} (h : KidsOk P R d q a m r ks m' r') : ks.length ≤ q - a := by
  induction h with
  | nil => simp
  | cons h1 h2 _ _ _ ih => rw [List.length_cons]; omega
theorem node_is {leaf k : Nat} {R : List PR} {N : List PN} {i : Nat} (h : NodeAt leaf k R N i) : ∃ y, N[i]? = some y ∧ NodeIs leaf k R N i y := by
  obtain ⟨f, st, p, q, n', r, r', hf, h, hr1, hr2, hr3⟩ := h
  cases f with
  | zero => exact ⟨_, h.1, hr1, hr2, Nat.le_refl _, hr3, ⟨fun _ => rfl, fun _ => .inl rfl⟩, fun s kid h => by simp at h, fun h => (h rfl).elim, by simp⟩
  | succ f =>
    rcases h with ⟨h1, h2, -⟩ | ⟨h1, ks, m, b, hk, h⟩
    · exact ⟨_, h2, hr1, hr2, by dsimp only; omega, hr3, ⟨fun _ => rfl, fun _ => .inr h1⟩, fun s kid h => by simp at h, fun h => (h rfl).elim, by simp⟩
    · have e : k - (f + 1) + 1 = k - f := by omega
      have hge : ∀ j, p ≤ j → j < q → 0 ≤ idAt R j (k - (f + 1)) := fun j hj1 hj2 => by
        have hj : R[j]? = some (R[j]'(by omega)) := List.getElem?_eq_getElem _
        have := (hr3.1 _ (seg_mem hj1 hj2 hj)).2.1 (k - (f + 1)) (Nat.le_refl _) (by omega)
        rw [idAt_get hj]; exact this
      obtain ⟨k1, k0, k2⟩ := kids_list (N := N) (hk.imp (P' := fun a e m m1 _ _ => m < m1 ∧ ∃ ks, N[m]? = some ⟨k - (f + 1) + 1, a, e, ks⟩) (Nat.le_refl _) (fun a e' m m1 r r1 _ _ _ h => ⟨(node_mono leaf k R N f st a e' m m1 r r1 h).1, by rw [e]; exact node_at h⟩)) hr2 hge
      have hne : ks ≠ [] := by
        cases hk with
        | nil => omega
        | cons => simp
      have hkid : ∀ (y : PN), y.d = k - (f + 1) → y.f = p → y.t = q → (∃ l, y.kids = ks ++ l) → ∀ s kid, ks[s]? = some kid → ∃ z, KidIs k R N i y s kid z := fun y e1 e2 e3 ⟨l, e4⟩ s kid hs => by
        obtain ⟨g1, g2, g3, z, g4, g5, g6, g7, g8, g9, g10⟩ := k2 s kid hs
        have hsl := (List.getElem?_eq_some_iff.1 hs).1
        refine ⟨z, by omega, g4, by rw [e1]; exact g5, by rw [e1]; omega, by omega, by omega, ?_, fun h => by omega, fun _ => ?_, by rw [e1]; exact g10⟩
        · rw [g5]; exact (hr3.sub g7 (by omega) g9 hr2).down (by omega)
        · rw [e4, List.take_append_of_le_length (by omega), e2]; exact g6
      rcases h with ⟨rfl, h2, -, -⟩ | ⟨rfl, h2, hb, he, h⟩
      · refine ⟨_, h2, hr1, hr2, by dsimp only; omega, hr3, ⟨fun h => by dsimp only at h; omega, fun h => (hne h).elim⟩, fun s kid hs => hkid _ rfl rfl rfl ⟨[], by simp⟩ s kid hs, fun _ => k1, by dsimp only; have := hk.few; omega⟩
      · refine ⟨_, h2, hr1, hr2, by dsimp only; omega, hr3, ⟨fun h => by dsimp only at h; omega, fun h => by simp at h⟩, fun s kid hs => ?_, fun _ => ?_, by dsimp only; rw [List.length_append, List.length_singleton]; have := hk.few; omega⟩
        · by_cases hsl : s < ks.length
          · refine hkid _ rfl rfl rfl ⟨_, rfl⟩ s kid ?_
            dsimp only at hs
            rwa [List.getElem?_append_left hsl] at hs
          · dsimp only at hs
            rw [List.getElem?_append_right (by omega)] at hs
            obtain ⟨hz, hs⟩ := List.getElem?_eq_some_iff.1 hs
            simp at hz
            have hz0 : s - ks.length = 0 := by omega
            simp at hs
            subst hs
            obtain ⟨ks', hm⟩ := node_at h
            have hseg := seg_block hb he
            have hst := hr3.star
            have hcs : csum (togP ((seg R p q).map (starAt (k - (f + 1))))) = csum (seg R p q) := by
              have h1 := csum_tog (l := (seg R p q).map (starAt (k - (f + 1)))) (fun y hy => by
                obtain ⟨x, hx, rfl⟩ := List.mem_map.1 hy
                exact (hr3.1 x hx).2.2) (by rw [csum_star]; have := hr3.2; omega)
              rw [h1.1, csum_star]
            refine ⟨_, by dsimp only; omega, hm, by dsimp only; omega, by dsimp only; omega, by dsimp only; omega, hb, ?_, fun _ => ?_, fun h => (h rfl).elim, fun j hj1 hj2 => ?_⟩
            · dsimp only; rw [hseg, ← e]; exact hst
            · dsimp only; rw [hseg]; exact hcs
            · dsimp only at hj1 hj2 ⊢
              have hjl : j < R.length := by omega
              have hj : R[j]? = some R[j] := List.getElem?_eq_getElem hjl
              have hm2 := seg_mem hj1 hj2 hj
              rw [hseg] at hm2
              obtain ⟨x, hx, ex⟩ := star_of hm2
              rw [idAt_get hj, ex, getI_set, if_pos ⟨rfl, by rw [(hr3.1 x hx).1]; omega⟩]
        · dsimp only
          rw [atN_snoc, if_pos rfl]; exact k1

/-- Numbers of kids. -/
def kidNs (y : PN) : List Nat := y.kids.map (·.2)
def flatK (N : List PN) (a b : Nat) : List Nat := ((N.take b).drop a).flatMap kidNs
theorem flatK_split (N : List PN) {a e b : Nat} (h1 : a ≤ e) (h2 : e ≤ b) (h3 : b ≤ N.length) : flatK N a b = flatK N a e ++ flatK N e b := by
  unfold flatK
  rw [← List.flatMap_append]
  congr 1
  have e1 : N.take e = (N.take b).take e := by rw [List.take_take, Nat.min_eq_left h2]
  have hl : e ≤ (N.take b).length := by rw [List.length_take]; omega
  rw [e1]
  generalize N.take b = L at *
  conv => lhs; rw [← List.take_append_drop e L]
  rw [List.drop_append_of_le_length (by rw [List.length_take]; omega)]
theorem flatK_one {N : List PN} {n : Nat} {y : PN} (h : N[n]? = some y) : flatK N n (n + 1) = kidNs y := by
  obtain ⟨hn, rfl⟩ := List.getElem?_eq_some_iff.1 h
  unfold flatK
  rw [List.drop_take, Nat.add_sub_cancel_left, List.drop_eq_getElem_cons hn, List.take_succ_cons, List.take_zero, List.flatMap_cons, List.flatMap_nil, List.append_nil]
theorem flatK_nil (N : List PN) (n : Nat) : flatK N n n = [] := by
  unfold flatK
  rw [List.drop_take, Nat.sub_self]; rfl
theorem kids_count {R : List PR} {N : List PN} {d q : Nat} {a m r : Nat} {ks : List (Int × Nat)} {m' r' : Nat} (h : KidsOk (fun _ _ m m1 _ _ => m < m1 ∧ (m1 ≤ N.length → ∀ j, (flatK N m m1).count j = if m < j ∧ j < m1 then 1 else 0)) R d q a m r ks m' r') : m ≤ m' ∧ (m' ≤ N.length → ∀ j, (ks.map (·.2)).count j + (flatK N m m').count j = if m ≤ j ∧ j < m' then 1 else 0) := by
  induction h with
  | nil =>
    rename_i m r
    exact ⟨Nat.le_refl _, fun _ j => by rw [flatK_nil, if_neg (by omega)]; rfl⟩
  | cons h1 h2 h3 h4 h5 ih =>
    rename_i a e m m1 r r1 m' r' id ks
    refine ⟨by omega, fun hm j => ?_⟩
    have i1 := ih.2 hm j
    have i2 := h4.2 (by omega) j
    rw [flatK_split N (show m ≤ m1 by omega) ih.1 hm, List.count_append, List.map_cons, List.count_cons]
    dsimp only
    rw [i2]
    have e : (if (m == j) = true then 1 else 0) = if m = j then 1 else 0 := by simp
    rw [e]
    have hlt := h4.1
    have hle := ih.1
    split at i1 <;> split <;> split <;> split <;> omega
theorem node_count (leaf k : Nat) (R : List PR) (N : List PN) : ∀ f st p q n n' r r', NodeOk leaf k R N f st p q n n' r r' → n < n' ∧ (n' ≤ N.length → ∀ j, (flatK N n n').count j = if n < j ∧ j < n' then 1 else 0)
  | 0, st, p, q, n, n', r, r', h => by
    obtain ⟨h1, rfl, -⟩ := h
    refine ⟨by omega, fun _ j => ?_⟩
    rw [flatK_one h1, if_neg (by omega)]; rfl
  | f + 1, st, p, q, n, n', r, r', h => by
    rcases h with ⟨-, h1, rfl, -⟩ | ⟨-, ks, m, b, hk, h⟩
    · refine ⟨by omega, fun _ j => ?_⟩
      rw [flatK_one h1, if_neg (by omega)]; rfl
    · obtain ⟨hm, hkc⟩ := kids_count (N := N) (hk.imp (P' := fun _ _ m m1 _ _ => m < m1 ∧ (m1 ≤ N.length → ∀ j, (flatK N m m1).count j = if m < j ∧ j < m1 then 1 else 0)) (Nat.le_refl _) (fun a e m m1 r r1 _ _ _ h => node_count leaf k R N f st a e m m1 r r1 h))
      rcases h with ⟨rfl, h2, rfl, -⟩ | ⟨rfl, h2, -, -, h⟩
      · refine ⟨by omega, fun hN j => ?_⟩
        rw [flatK_split N (show n ≤ n + 1 by omega) hm hN, flatK_one h2, List.count_append]
        have := hkc hN j
        unfold kidNs
        dsimp only
        rw [this]
        split <;> split <;> omega
      · obtain ⟨h3, h4⟩ := node_count leaf k R N f true _ _ _ _ _ _ h
        refine ⟨by omega, fun hN j => ?_⟩
        rw [flatK_split N (show n ≤ n + 1 by omega) (show n + 1 ≤ n' by omega) hN, flatK_split N hm (by omega) hN, flatK_one h2, List.count_append, List.count_append, h4 hN j]
        have i1 := hkc (by omega) j
        unfold kidNs
        dsimp only
        rw [List.map_append, List.count_append, List.map_cons, List.map_nil, List.count_singleton]
        have e : (if (m == j) = true then 1 else 0) = if m = j then 1 else 0 := by simp
        rw [e]
        split at i1 <;> split <;> split <;> split <;> omega
/-- The whole tree. -/
theorem nodes_law {S M : List (List Int)} {leaf n : Nat} (hn : (S.getD 0 []).length = n) (hb : n ≤ 80) (hge : ∀ l ∈ S, ∀ x ∈ l, 0 ≤ x) :
    0 < (ofP S M leaf).N.length ∧ (∀ i, i < (ofP S M leaf).N.length → ∃ y, (ofP S M leaf).N[i]? = some y ∧ NodeIs leaf S.length (ofP S M leaf).R (ofP S M leaf).N i y) ∧
      ∀ j, (flatK (ofP S M leaf).N 0 (ofP S M leaf).N.length).count j = if 0 < j ∧ j < (ofP S M leaf).N.length then 1 else 0 := by
  obtain ⟨h1, h2⟩ := base_ok (M := M) hn hb hge
  obtain ⟨E, h3, h4⟩ := ofP_node S M leaf
  have hc := node_count _ _ _ _ _ _ _ _ _ _ _ _ h4
  have hseg : seg (ofP S M leaf).R 0 (togP (rowsP S M)).length = togP (rowsP S M) := by
    unfold seg; rw [h3, List.take_left' rfl]; rfl
  refine ⟨hc.1, fun i hi => ?_, hc.2 (Nat.le_refl _)⟩
  refine node_is (node_all leaf S.length _ _ S.length false 0 _ 0 _ _ _ (Nat.le_refl _) ⟨Nat.zero_le _, by rw [h3, List.length_append]; omega, ?_⟩ h4 i (Nat.zero_le _) hi)
  rw [hseg, Nat.sub_self]; exact h1
end Go.Proofs.Ythmaobmgogmaoaa
