/-
  Star-trees: what stands in a grown tree (plain).
  Star-trees: counts and stars of a grown tree (plain).
  Star-trees: what nodes say of each other (plain).
-/
import Derived.Test.YthmaobmgogmaoaaStaK
namespace Go.Proofs.Ythmaobmgogmaoaa
open Go.RowKit
set_option linter.unusedSimpArgs false
set_option linter.unusedVariables false

/-- The kids of a node by ids: ranges one behind the other; P: what is said of each. -/
inductive KidsOk (P : Nat → Nat → Nat → Nat → Nat → Nat → Prop) (R : List PR) (d q : Nat) : Nat → Nat → Nat → List (Int × Nat) → Nat → Nat → Prop
  | nil (m r : Nat) : KidsOk P R d q q m r [] m r
  | cons {a e m m1 r r1 m' r' : Nat} {id : Int} {ks : List (Int × Nat)} (h1 : a < e) (h2 : e ≤ q) (h3 : ∀ j, a ≤ j → j < e → idAt R j d = id) (h4 : P a e m m1 r r1) (h5 : KidsOk P R d q e m1 r1 ks m' r') : KidsOk P R d q a m r ((id, m) :: ks) m' r'
/-- The node n of the records from p to q, and all below it (up to node n'; records of stars from r to r'). -/
def NodeOk (leaf k : Nat) (R : List PR) (N : List PN) : Nat → Bool → Nat → Nat → Nat → Nat → Nat → Nat → Prop
  | 0, st, p, q, n, n', r, r' => N[n]? = some ⟨k, p, q, []⟩ ∧ n' = n + 1 ∧ r' = r
  | f + 1, st, p, q, n, n', r, r' =>
    (q - p ≤ leaf ∧ N[n]? = some ⟨k - (f + 1), p, q, []⟩ ∧ n' = n + 1 ∧ r' = r) ∨
    (leaf < q - p ∧ ∃ ks m b, KidsOk (fun a e => NodeOk leaf k R N f st a e) R (k - (f + 1)) q p (n + 1) r ks m b ∧
      ((st = true ∧ N[n]? = some ⟨k - (f + 1), p, q, ks⟩ ∧ n' = m ∧ r' = b) ∨
       (st = false ∧ N[n]? = some ⟨k - (f + 1), p, q, ks ++ [(-1, m)]⟩ ∧ b + (starRecs R (k - (f + 1)) p q).length ≤ R.length ∧ (R.drop b).take (starRecs R (k - (f + 1)) p q).length = starRecs R (k - (f + 1)) p q ∧
        NodeOk leaf k R N f true b (b + (starRecs R (k - (f + 1)) p q).length) m n' (b + (starRecs R (k - (f + 1)) p q).length) r')))

/-- What a step of growing yields. -/
def GrowsTo (leaf k f : Nat) (st : Bool) (p q : Nat) (S G : St) : Prop :=
  (∃ E, G.R = S.R ++ E) ∧ (∃ F, G.N = S.N ++ F) ∧ ∀ Rx Nx, (∃ E, Rx = G.R ++ E) → (∀ i, S.N.length ≤ i → i < G.N.length → Nx[i]? = G.N[i]?) → NodeOk leaf k Rx Nx f st p q S.N.length G.N.length S.R.length G.R.length
theorem setKids_at {A F : List PN} {y : PN} {ks : List (Int × Nat)} : setKids (A ++ y :: F) A.length ks = A ++ ⟨y.d, y.f, y.t, ks⟩ :: F := by
  unfold setKids
  rw [List.set_append_right _ _ (Nat.le_refl _)]
  simp
theorem kids_grow {leaf k f : Nat} {st : Bool} {g : Nat → Nat → St → St} (hg : ∀ a e T, a ≤ e → e ≤ T.R.length → GrowsTo leaf k f st a e T (g a e T)) (R : List PR) (d q : Nat) (hq : q ≤ R.length) :
    ∀ n a S ks, q - a ≤ n → a ≤ q → (∃ E, S.R = R ++ E) → ∃ ks2, (kidsP g R d q n a S ks).2 = ks ++ ks2 ∧ (∃ E, (kidsP g R d q n a S ks).1.R = S.R ++ E) ∧ (∃ F, (kidsP g R d q n a S ks).1.N = S.N ++ F) ∧
      ∀ Rx Nx, (∃ E, Rx = (kidsP g R d q n a S ks).1.R ++ E) → (∀ i, S.N.length ≤ i → i < (kidsP g R d q n a S ks).1.N.length → Nx[i]? = (kidsP g R d q n a S ks).1.N[i]?) →
        KidsOk (fun a e => NodeOk leaf k Rx Nx f st a e) Rx d q a S.N.length S.R.length ks2 (kidsP g R d q n a S ks).1.N.length (kidsP g R d q n a S ks).1.R.length
  | 0, a, S, ks, hn, ha, hS => by
    obtain rfl : a = q := by omega
    exact ⟨[], by simp [kidsP], ⟨[], by simp [kidsP]⟩, ⟨[], by simp [kidsP]⟩, fun Rx Nx _ _ => KidsOk.nil _ _⟩
  | n + 1, a, S, ks, hn, ha, hS => by
    by_cases hlt : a < q
    · have h1 := runEnd_gt R d (q - a) a (by omega)
      have h2 := (runEnd_bd R d (idAt R a d) (q - a) a).2
      have h3 := fun j => runEnd_in R d (idAt R a d) (q - a) a j
      have hk : kidsP g R d q (n + 1) a S ks = kidsP g R d q n (runEnd R d (idAt R a d) (q - a) a) (g a (runEnd R d (idAt R a d) (q - a) a) S) (ks ++ [(idAt R a d, S.N.length)]) := by
        conv => lhs; unfold kidsP
        rw [if_pos hlt]
      rw [hk]
      obtain ⟨E0, hE0⟩ := hS
      have hlen := congrArg List.length hE0
      simp only [List.length_append] at hlen
      generalize runEnd R d (idAt R a d) (q - a) a = e at *
      obtain ⟨⟨E1, e1⟩, ⟨F1, f1⟩, hN⟩ := hg a e S (by omega) (by omega)
      obtain ⟨ks2, i1, ⟨E2, i2⟩, ⟨F2, i3⟩, i4⟩ := kids_grow hg R d q hq n e (g a e S) (ks ++ [(idAt R a d, S.N.length)]) (by omega) (by omega) ⟨E0 ++ E1, by rw [e1, hE0, List.append_assoc]⟩
      generalize kidsP g R d q n e (g a e S) (ks ++ [(idAt R a d, S.N.length)]) = Z at *
      refine ⟨(idAt R a d, S.N.length) :: ks2, by rw [i1]; simp, ⟨E1 ++ E2, by rw [i2, e1, List.append_assoc]⟩, ⟨F1 ++ F2, by rw [i3, f1, List.append_assoc]⟩, fun Rx Nx hR hNx => ?_⟩
      obtain ⟨E3, hE3⟩ := hR
      have hRx : ∃ E, Rx = R ++ E := ⟨E0 ++ E1 ++ E2 ++ E3, by rw [hE3, i2, e1, hE0]; simp⟩
      have hl1 : (g a e S).N.length ≤ Z.1.N.length := by rw [i3, List.length_append]; omega
      have hl0 : S.N.length ≤ (g a e S).N.length := by rw [f1, List.length_append]; omega
      refine KidsOk.cons h1 (by omega) (fun j hj1 hj2 => ?_) (hN Rx Nx ⟨E2 ++ E3, by rw [hE3, i2, List.append_assoc]⟩ (fun i hi1 hi2 => ?_)) (i4 Rx Nx ⟨E3, hE3⟩ (fun i hi1 hi2 => hNx i (by omega) hi2))
      · obtain ⟨E, hE⟩ := hRx
        rw [hE, idAt_append (by omega)]
        exact h3 j hj1 hj2
      · rw [hNx i hi1 (by omega), i3, List.getElem?_append_left hi2]
    · obtain rfl : a = q := by omega
      have hk : kidsP g R d a (n + 1) a S ks = (S, ks) := by unfold kidsP; rw [if_neg hlt]
      rw [hk]
      exact ⟨[], by simp, ⟨[], by simp⟩, ⟨[], by simp⟩, fun Rx Nx _ _ => KidsOk.nil _ _⟩
theorem grow_ok (leaf k : Nat) : ∀ f st p q S, f ≤ k → p ≤ q → q ≤ S.R.length → GrowsTo leaf k f st p q S (growP leaf k f st p q S)
  | 0, st, p, q, S, hf, hpq, hq => by
    unfold growP
    refine ⟨⟨[], by simp⟩, ⟨_, rfl⟩, fun Rx Nx hR hN => ⟨?_, by simp, rfl⟩⟩
    rw [hN _ (Nat.le_refl _) (by simp)]; simp
  | f + 1, st, p, q, S, hf, hpq, hq => by
    by_cases hl : q - p ≤ leaf
    · unfold growP
      rw [if_pos hl]
      refine ⟨⟨[], by simp⟩, ⟨_, rfl⟩, fun Rx Nx hR hN => .inl ⟨hl, ?_, by simp, rfl⟩⟩
      rw [hN _ (Nat.le_refl _) (by simp)]; simp
    · obtain ⟨ks, k1, ⟨E1, k2⟩, ⟨F1, k3⟩, k4⟩ := kids_grow (leaf := leaf) (k := k) (f := f) (st := st) (g := fun a e T => growP leaf k f st a e T) (fun a e T h1 h2 => grow_ok leaf k f st a e T (by omega) h1 h2) S.R (k - (f + 1)) q hq (q - p) p ⟨S.R, S.N ++ [⟨k - (f + 1), p, q, []⟩]⟩ [] (Nat.le_refl _) hpq ⟨[], by simp⟩
      have hT := fun (r : St × List (Int × Nat)) => grow_ok leaf k f true r.1.R.length (r.1.R.length + (starRecs r.1.R (k - (f + 1)) p q).length) ⟨r.1.R ++ starRecs r.1.R (k - (f + 1)) p q, r.1.N⟩ (by omega) (by omega) (by simp)
      unfold growP
      rw [if_neg hl]
      generalize kidsP (fun a e T => growP leaf k f st a e T) S.R (k - (f + 1)) q (q - p) p ⟨S.R, S.N ++ [⟨k - (f + 1), p, q, []⟩]⟩ [] = r at *
      have hT := hT r
      rw [List.nil_append] at k1
      simp only [List.append_assoc, List.singleton_append] at k3
      simp only [List.length_append, List.length_singleton] at k4
      dsimp only at k2 ⊢
      cases st
      · simp only [Bool.false_eq_true, if_false]
        generalize growP leaf k f true r.1.R.length (r.1.R.length + (starRecs r.1.R (k - (f + 1)) p q).length) ⟨r.1.R ++ starRecs r.1.R (k - (f + 1)) p q, r.1.N⟩ = T at *
        obtain ⟨⟨E2, t1⟩, ⟨F2, t2⟩, t3⟩ := hT
        dsimp only at t1 t2 t3
        have hN : setKids T.N S.N.length (r.2 ++ [(-1, r.1.N.length)]) = S.N ++ ⟨k - (f + 1), p, q, ks ++ [(-1, r.1.N.length)]⟩ :: (F1 ++ F2) := by
          rw [t2, k3, k1, List.append_assoc, List.cons_append, setKids_at]
        refine ⟨⟨E1 ++ starRecs r.1.R (k - (f + 1)) p q ++ E2, by rw [t1, k2]; simp⟩, ⟨_, hN⟩, fun Rx Nx hR hNx => ?_⟩
        dsimp only at hR hNx ⊢
        rw [setKids_len] at hNx ⊢
        obtain ⟨E3, hE3⟩ := hR
        have hrl : S.R.length ≤ r.1.R.length := by rw [k2, List.length_append]; omega
        have hst : starRecs Rx (k - (f + 1)) p q = starRecs r.1.R (k - (f + 1)) p q := by
          rw [hE3, t1, List.append_assoc, List.append_assoc, starRecs_append (by omega)]
        have hrN : S.N.length + 1 ≤ r.1.N.length := by rw [k3]; simp
        have hTN : r.1.N.length ≤ T.N.length := by rw [t2]; simp
        have hget : ∀ i, S.N.length + 1 ≤ i → (setKids T.N S.N.length (r.2 ++ [(-1, r.1.N.length)]))[i]? = T.N[i]? := fun i hi => by
          unfold setKids
          rw [List.getElem?_set_ne (by omega)]
        refine .inr ⟨by omega, ks, r.1.N.length, r.1.R.length, k4 Rx Nx ⟨starRecs r.1.R (k - (f + 1)) p q ++ E2 ++ E3, by rw [hE3, t1]; simp⟩ (fun i hi1 hi2 => ?_), .inr ⟨rfl, ?_, ?_, ?_, ?_⟩⟩
        · rw [hNx i (by omega) (by omega), hget i hi1, t2, List.getElem?_append_left hi2]
        · rw [hNx _ (Nat.le_refl _) (by omega), hN]; simp
        · rw [hst, hE3, t1]; simp
        · rw [hst, hE3, t1]; simp
        · rw [hst]
          have := t3 Rx Nx ⟨E3, hE3⟩ (fun i hi1 hi2 => by rw [hNx i (by omega) hi2, hget i (by omega)])
          rw [List.length_append] at this
          exact this
      · simp only [if_true]
        have hN : setKids r.1.N S.N.length r.2 = S.N ++ ⟨k - (f + 1), p, q, ks⟩ :: F1 := by
          rw [k3, k1, setKids_at]
        refine ⟨⟨E1, k2⟩, ⟨_, hN⟩, fun Rx Nx hR hNx => ?_⟩
        dsimp only at hR hNx ⊢
        rw [setKids_len] at hNx ⊢
        have hrN : S.N.length + 1 ≤ r.1.N.length := by rw [k3]; simp
        have hget : ∀ i, S.N.length + 1 ≤ i → (setKids r.1.N S.N.length r.2)[i]? = r.1.N[i]? := fun i hi => by
          unfold setKids
          rw [List.getElem?_set_ne (by omega)]
        refine .inr ⟨by omega, ks, r.1.N.length, r.1.R.length, k4 Rx Nx hR (fun i hi1 hi2 => by rw [hNx i (by omega) hi2, hget i hi1]), .inl ⟨rfl, ?_, rfl, rfl⟩⟩
        rw [hNx _ (Nat.le_refl _) (by omega), hN]; simp
end Go.Proofs.Ythmaobmgogmaoaa
namespace Go.Proofs.Ythmaobmgogmaoaa
open Go.RowKit
set_option linter.unusedSimpArgs false
set_option linter.unusedVariables false

section
variable {P P' : Nat → Nat → Nat → Nat → Nat → Nat → Prop} {R : List PR} {d q : Nat}
theorem KidsOk.bd {a m r : Nat} {ks : List (Int × Nat)} {m' r' : Nat} (h : KidsOk P R d q a m r ks m' r') : a ≤ q := by
  cases h with
  | nil => exact Nat.le_refl _
  | cons h1 h2 _ _ _ => omega
theorem KidsOk.imp {a m r : Nat} {ks : List (Int × Nat)} {m' r' : Nat} (h : KidsOk P R d q a m r ks m' r') {lo : Nat} (hlo : lo ≤ a) (hP : ∀ a e m m1 r r1, lo ≤ a → a < e → e ≤ q → P a e m m1 r r1 → P' a e m m1 r r1) : KidsOk P' R d q a m r ks m' r' := by
  induction h with
  | nil => exact .nil _ _
  | cons h1 h2 h3 h4 _ ih => exact .cons h1 h2 h3 (hP _ _ _ _ _ _ hlo h1 h2 h4) (ih (by omega))
theorem KidsOk.mono {a m r : Nat} {ks : List (Int × Nat)} {m' r' : Nat} (h : KidsOk (fun _ _ m m1 r r1 => m < m1 ∧ r ≤ r1) R d q a m r ks m' r') : m ≤ m' ∧ r ≤ r' := by
  induction h with
  | nil => omega
  | cons _ _ _ h4 _ ih => omega
theorem KidsOk.same {a m r : Nat} {ks : List (Int × Nat)} {m' r' : Nat} (h : KidsOk (fun _ _ _ _ r r1 => r1 = r) R d q a m r ks m' r') : r' = r := by
  induction h with
  | nil => rfl
  | cons _ _ _ h4 _ ih => omega
end
theorem node_mono (leaf k : Nat) (R : List PR) (N : List PN) : ∀ f st p q n n' r r', NodeOk leaf k R N f st p q n n' r r' → n < n' ∧ r ≤ r' ∧ (st = true → r' = r)
  | 0, st, p, q, n, n', r, r', h => by
    obtain ⟨-, h2, h3⟩ := h
    exact ⟨by omega, by omega, fun _ => h3⟩
  | f + 1, st, p, q, n, n', r, r', h => by
    rcases h with ⟨-, -, h2, h3⟩ | ⟨-, ks, m, b, hk, h⟩
    · exact ⟨by omega, by omega, fun _ => h3⟩
    · have h1 := (hk.imp (P' := fun _ _ m m1 r r1 => m < m1 ∧ r ≤ r1) (Nat.le_refl _) (fun a e m m1 r r1 _ _ _ h => ⟨(node_mono leaf k R N f st a e m m1 r r1 h).1, (node_mono leaf k R N f st a e m m1 r r1 h).2.1⟩)).mono
      rcases h with ⟨rfl, -, rfl, rfl⟩ | ⟨rfl, -, -, -, h⟩
      · have h2 := (hk.imp (P' := fun _ _ _ _ r r1 => r1 = r) (Nat.le_refl _) (fun a e m m1 r r1 _ _ _ h => (node_mono leaf k R N f true a e m m1 r r1 h).2.2 rfl)).same
        exact ⟨by omega, by omega, fun _ => h2⟩
      · have h2 := node_mono leaf k R N f true _ _ _ _ _ _ h
        exact ⟨by omega, by omega, fun h => by cases h⟩
/-- What stands at the node itself. -/
theorem node_at {leaf k : Nat} {R : List PR} {N : List PN} {f : Nat} {st : Bool} {p q n n' r r' : Nat} (h : NodeOk leaf k R N f st p q n n' r r') : ∃ ks, N[n]? = some ⟨k - f, p, q, ks⟩ := by
  cases f with
  | zero => exact ⟨[], h.1⟩
  | succ f =>
    rcases h with ⟨-, h, -⟩ | ⟨-, ks, m, b, -, ⟨-, h, -⟩ | ⟨-, h, -⟩⟩
    · exact ⟨_, h⟩
    · exact ⟨_, h⟩
    · exact ⟨_, h⟩

def csum (L : List PR) : Int := (L.map (·.cnt)).sum
theorem csum_cons (x : PR) (L : List PR) : csum (x :: L) = x.cnt + csum L := by simp [csum]
theorem csum_append (A B : List PR) : csum (A ++ B) = csum A + csum B := by simp [csum]
def seg (R : List PR) (p q : Nat) : List PR := (R.take q).drop p
theorem seg_split (R : List PR) {p e q : Nat} (h1 : p ≤ e) (h2 : e ≤ q) (h3 : q ≤ R.length) : seg R p q = seg R p e ++ seg R e q := by
  unfold seg
  have e1 : R.take e = (R.take q).take e := by rw [List.take_take, Nat.min_eq_left h2]
  have hl : e ≤ (R.take q).length := by rw [List.length_take]; omega
  rw [e1]
  generalize R.take q = L at *
  conv => lhs; rw [← List.take_append_drop e L]
  rw [List.drop_append_of_le_length (by rw [List.length_take]; omega)]
theorem seg_length (R : List PR) {p q : Nat} (h : q ≤ R.length) : (seg R p q).length = q - p := by
  unfold seg; rw [List.length_drop, List.length_take]; omega
theorem seg_get (R : List PR) {p q j : Nat} (hp : p ≤ j) (hq : j < q) : (seg R p q)[j - p]? = R[j]? := by
  unfold seg
  rw [List.getElem?_drop, List.getElem?_take, if_pos (by omega)]
  congr 1; omega
theorem mem_seg {R : List PR} {p q : Nat} {x : PR} (h : x ∈ seg R p q) : ∃ j, p ≤ j ∧ j < q ∧ R[j]? = some x := by
  obtain ⟨i, hi, rfl⟩ := List.getElem_of_mem h
  have hi2 : i < min q R.length - p := by
    have := hi
    unfold seg at this
    rwa [List.length_drop, List.length_take] at this
  refine ⟨p + i, by omega, by omega, ?_⟩
  rw [← seg_get R (p := p) (q := q) (by omega) (by omega), show p + i - p = i by omega, List.getElem?_eq_getElem hi]
theorem seg_mem {R : List PR} {p q j : Nat} {x : PR} (hp : p ≤ j) (hq : j < q) (h : R[j]? = some x) : x ∈ seg R p q := by
  rw [← seg_get R hp hq] at h
  obtain ⟨hi, rfl⟩ := List.getElem?_eq_some_iff.1 h
  exact List.getElem_mem _
theorem csum_nonneg {L : List PR} (h : ∀ x ∈ L, 1 ≤ x.cnt) : (L.length : Int) ≤ csum L := by
  induction L with
  | nil => simp [csum]
  | cons a t ih =>
    have h1 := h a (by simp)
    have h2 := ih (fun x hx => h x (by simp [hx]))
    rw [csum_cons, List.length_cons]; omega
/-- Records of k ids, from column d on without a star; few rows. -/
def ListOk (k d : Nat) (L : List PR) : Prop := (∀ x ∈ L, x.ids.length = k ∧ (∀ c, d ≤ c → c < k → 0 ≤ x.ids.getD c 0) ∧ 1 ≤ x.cnt) ∧ csum L ≤ 80
theorem ListOk.sub {k d : Nat} {R : List PR} {p q a e : Nat} (h : ListOk k d (seg R p q)) (h1 : p ≤ a) (h2 : a ≤ e) (h3 : e ≤ q) (h4 : q ≤ R.length) : ListOk k d (seg R a e) := by
  have e1 := seg_split R h1 (Nat.le_trans h2 h3) h4
  have e2 := seg_split R h2 h3 h4
  rw [e2] at e1
  rw [e1] at h
  obtain ⟨h5, h6⟩ := h
  refine ⟨fun x hx => h5 x (by simp [hx]), ?_⟩
  rw [csum_append, csum_append] at h6
  have g1 := csum_nonneg (L := seg R p a) (fun x hx => (h5 x (by simp [hx])).2.2)
  have g2 := csum_nonneg (L := seg R e q) (fun x hx => (h5 x (by simp [hx])).2.2)
  omega
theorem ListOk.down {k d : Nat} {L : List PR} (h : ListOk k d L) {d' : Nat} (hd : d ≤ d') : ListOk k d' L := ⟨fun x hx => ⟨(h.1 x hx).1, fun c h1 h2 => (h.1 x hx).2.1 c (by omega) h2, (h.1 x hx).2.2⟩, h.2⟩
theorem csum_put {x : PR} : ∀ {L : List PR}, (∀ y ∈ L, 1 ≤ y.cnt) → 1 ≤ x.cnt → csum L + x.cnt ≤ 1000000 → csum (putP L x) = csum L + x.cnt ∧ ∀ y ∈ putP L x, 1 ≤ y.cnt
  | [], _, hx, _ => by
    unfold putP
    refine ⟨by simp [csum], fun y hy => ?_⟩
    simp at hy; subst hy; exact hx
  | a :: t, h, hx, hb => by
    have ha := h a (by simp)
    have ht : ∀ y ∈ t, 1 ≤ y.cnt := fun y hy => h y (by simp [hy])
    have hn := csum_nonneg ht
    rw [csum_cons] at hb
    unfold putP
    split
    · have hm : (mrg a x).cnt = a.cnt + x.cnt := by
        show IntKind.i64.wrap (a.cnt + x.cnt) = _
        exact IntWalk.i64_in _ (by omega)
      refine ⟨by rw [csum_cons, csum_cons, hm]; omega, fun y hy => ?_⟩
      rcases List.mem_cons.1 hy with rfl | hy
      · rw [hm]; omega
      · exact ht y hy
    · split
      · refine ⟨by rw [csum_cons, csum_cons]; omega, fun y hy => ?_⟩
        rcases List.mem_cons.1 hy with rfl | hy
        · exact hx
        · exact h y hy
      · obtain ⟨i1, i2⟩ := csum_put (L := t) (x := x) ht hx (by omega)
        refine ⟨by rw [csum_cons, csum_cons, i1]; omega, fun y hy => ?_⟩
        rcases List.mem_cons.1 hy with rfl | hy
        · exact ha
        · exact i2 y hy
theorem csum_fold : ∀ (l out : List PR), (∀ y ∈ out, 1 ≤ y.cnt) → (∀ y ∈ l, 1 ≤ y.cnt) → csum out + csum l ≤ 1000000 → csum (l.foldl putP out) = csum out + csum l ∧ ∀ y ∈ l.foldl putP out, 1 ≤ y.cnt
  | [], out, h1, h2, h3 => ⟨by simp [csum], h1⟩
  | x :: l, out, h1, h2, h3 => by
    rw [csum_cons] at h3 ⊢
    have hl : ∀ y ∈ l, 1 ≤ y.cnt := fun y hy => h2 y (by simp [hy])
    have hn := csum_nonneg hl
    obtain ⟨i1, i2⟩ := csum_put (L := out) (x := x) h1 (h2 x (by simp)) (by omega)
    obtain ⟨j1, j2⟩ := csum_fold l (putP out x) i2 hl (by omega)
    exact ⟨by rw [List.foldl_cons, j1, i1]; omega, j2⟩
theorem csum_tog {l : List PR} (h : ∀ y ∈ l, 1 ≤ y.cnt) (hb : csum l ≤ 1000000) : csum (togP l) = csum l ∧ ∀ y ∈ togP l, 1 ≤ y.cnt := by
  obtain ⟨h1, h2⟩ := csum_fold l [] (by simp) h (by simpa [csum] using hb)
  exact ⟨by simpa [csum, togP] using h1, h2⟩
theorem csum_star (d : Nat) (L : List PR) : csum (L.map (starAt d)) = csum L := by
  unfold csum; rw [List.map_map]; rfl
theorem getI_set {l : List Int} {d c : Nat} {v : Int} : (l.set d v).getD c 0 = if c = d ∧ d < l.length then v else l.getD c 0 := by
  rw [List.getD_eq_getElem?_getD, List.getD_eq_getElem?_getD, List.getElem?_set]
  by_cases h : d = c
  · subst h
    by_cases h2 : d < l.length
    · simp [h2]
    · simp [h2]
  · rw [if_neg h, if_neg (fun e => h e.1.symm)]
theorem ListOk.star {k d : Nat} {L : List PR} (h : ListOk k d L) : ListOk k (d + 1) (togP (L.map (starAt d))) := by
  have hc : ∀ y ∈ L.map (starAt d), 1 ≤ y.cnt := fun y hy => by
    obtain ⟨x, hx, rfl⟩ := List.mem_map.1 hy
    exact (h.1 x hx).2.2
  have hs := csum_star d L
  have hb := h.2
  obtain ⟨h1, h2⟩ := csum_tog hc (by omega)
  refine ⟨fun y hy => ?_, by omega⟩
  obtain ⟨z, hz, e⟩ := mem_togP hy
  obtain ⟨x, hx, rfl⟩ := List.mem_map.1 hz
  have e2 : y.ids = x.ids.set d (-1) := e.symm
  refine ⟨by rw [e2, List.length_set]; exact (h.1 x hx).1, fun c hc1 hc2 => ?_, h2 y hy⟩
  rw [e2, getI_set, if_neg (by omega)]
  exact (h.1 x hx).2.1 c (by omega) hc2
/-- A record of a star's: which it came of. -/
theorem star_of {d : Nat} {L : List PR} {y : PR} (h : y ∈ togP (L.map (starAt d))) : ∃ x ∈ L, y.ids = x.ids.set d (-1) := by
  obtain ⟨z, hz, e⟩ := mem_togP h
  obtain ⟨x, hx, rfl⟩ := List.mem_map.1 hz
  exact ⟨x, hx, e.symm⟩

/-- Where records of stars come from. -/
def FromStar (k : Nat) (R : List PR) (p q j : Nat) : Prop := ∃ d p' q' x, d < k ∧ p ≤ p' ∧ p' ≤ q' ∧ q' ≤ q ∧ R[j]? = some x ∧ x ∈ togP ((seg R p' q').map (starAt d))
theorem FromStar.wide {k : Nat} {R : List PR} {p q j p0 q0 : Nat} (h : FromStar k R p q j) (h1 : p0 ≤ p) (h2 : q ≤ q0) : FromStar k R p0 q0 j := by
  obtain ⟨d, p', q', x, g1, g2, g3, g4, g5⟩ := h
  exact ⟨d, p', q', x, g1, by omega, g3, by omega, g5⟩
theorem kids_blocks {k : Nat} {R : List PR} {d q lo : Nat} {a m r : Nat} {ks : List (Int × Nat)} {m' r' : Nat} (h : KidsOk (fun a e _ _ r r1 => ∀ j, r ≤ j → j < r1 → FromStar k R a e j) R d q a m r ks m' r') (hlo : lo ≤ a) : ∀ j, r ≤ j → j < r' → FromStar k R lo q j := by
  induction h with
  | nil => intro j h1 h2; omega
  | cons h1 h2 h3 h4 h5 ih =>
    rename_i a e m m1 r r1 m' r' id ks
    intro j hj1 hj2
    by_cases hj : j < r1
    · exact (h4 j hj1 hj).wide hlo h2
    · exact ih (by omega) j (by omega) hj2
theorem node_blocks (leaf k : Nat) (R : List PR) (N : List PN) : ∀ f st p q n n' r r', f ≤ k → p ≤ q → NodeOk leaf k R N f st p q n n' r r' → ∀ j, r ≤ j → j < r' → FromStar k R p q j
  | 0, st, p, q, n, n', r, r', hf, hpq, h, j, h1, h2 => by have := h.2.2; omega
  | f + 1, st, p, q, n, n', r, r', hf, hpq, h, j, h1, h2 => by
    rcases h with ⟨-, -, -, h3⟩ | ⟨-, ks, m, b, hk, h⟩
    · omega
    · have h3 := kids_blocks (hk.imp (P' := fun a e _ _ r r1 => ∀ j, r ≤ j → j < r1 → FromStar k R a e j) (Nat.le_refl _) (fun a e m m1 r r1 _ hae _ h => node_blocks leaf k R N f st a e m m1 r r1 (by omega) (by omega) h)) (Nat.le_refl _)
      rcases h with ⟨rfl, -, rfl, rfl⟩ | ⟨rfl, -, hb, he, h⟩
      · exact h3 j h1 h2
      · have h4 := (node_mono leaf k R N f true _ _ _ _ _ _ h).2.2 rfl
        by_cases hj : j < b
        · exact h3 j h1 hj
        · subst h4
          have hl : (seg R p q).map (starAt (k - (f + 1))) = ((R.take q).drop p).map (starAt (k - (f + 1))) := rfl
          have hget : R[j]? = (starRecs R (k - (f + 1)) p q)[j - b]? := by
            rw [← he, List.getElem?_take, if_pos (by omega), List.getElem?_drop]
            congr 1; omega
          have hjb : j - b < (starRecs R (k - (f + 1)) p q).length := by omega
          rw [List.getElem?_eq_getElem hjb] at hget
          exact ⟨k - (f + 1), p, q, _, by omega, Nat.le_refl _, hpq, Nat.le_refl _, hget, List.getElem_mem hjb⟩

/-- How the whole tree stands. -/
theorem ofP_node (S M : List (List Int)) (leaf : Nat) : ∃ E, (ofP S M leaf).R = togP (rowsP S M) ++ E ∧ NodeOk leaf S.length (ofP S M leaf).R (ofP S M leaf).N S.length false 0 (togP (rowsP S M)).length 0 (ofP S M leaf).N.length (togP (rowsP S M)).length (ofP S M leaf).R.length := by
  obtain ⟨⟨E, h1⟩, -, h3⟩ := grow_ok leaf S.length S.length false 0 (togP (rowsP S M)).length ⟨togP (rowsP S M), []⟩ (Nat.le_refl _) (Nat.zero_le _) (Nat.le_refl _)
  exact ⟨E, h1, h3 _ _ ⟨[], by simp [ofP]⟩ (fun i _ _ => rfl)⟩
theorem ids_row (S M : List (List Int)) (i : Nat) : (rowPR S M i).ids = S.map (fun l => nth l i) := rfl
/-- Rows that may be. -/
theorem rows_ok {S M : List (List Int)} {n : Nat} (hn : (S.getD 0 []).length = n) (hb : n ≤ 80) (hge : ∀ l ∈ S, ∀ x ∈ l, 0 ≤ x) : ListOk S.length 0 (rowsP S M) ∧ csum (rowsP S M) = n := by
  have hc : csum (rowsP S M) = n := by
    unfold csum rowsP
    rw [hn, List.map_map]
    have : ∀ n : Nat, ((List.range n).map ((·.cnt) ∘ rowPR S M)).sum = (n : Int) := fun n => by
      induction n with
      | zero => rfl
      | succ n ih => rw [List.range_succ, List.map_append, List.sum_append, ih]; simp [rowPR]
    exact this n
  refine ⟨⟨fun x hx => ?_, by omega⟩, hc⟩
  obtain ⟨i, hi, rfl⟩ := List.mem_map.1 hx
  refine ⟨by rw [ids_row, List.length_map], fun c _ hc2 => ?_, by simp [rowPR]⟩
  rw [ids_row, List.getD_eq_getElem?_getD, List.getElem?_map, List.getElem?_eq_getElem hc2]
  simp only [Option.map_some, Option.getD_some, nth]
  by_cases h : i < S[c].length
  · rw [List.getD_eq_getElem?_getD, List.getElem?_eq_getElem h]
    exact hge _ (List.getElem_mem hc2) _ (List.getElem_mem h)
  · rw [List.getD_eq_getElem?_getD, List.getElem?_eq_none (by omega)]; simp
theorem base_ok {S M : List (List Int)} {n : Nat} (hn : (S.getD 0 []).length = n) (hb : n ≤ 80) (hge : ∀ l ∈ S, ∀ x ∈ l, 0 ≤ x) : ListOk S.length 0 (togP (rowsP S M)) ∧ csum (togP (rowsP S M)) = n := by
  obtain ⟨h1, h2⟩ := rows_ok (M := M) hn hb hge
  obtain ⟨h3, h4⟩ := csum_tog (fun y hy => (h1.1 y hy).2.2) (by have := h1.2; omega)
  refine ⟨⟨fun y hy => ?_, by rw [h3]; exact h1.2⟩, by rw [h3, h2]⟩
  obtain ⟨x, hx, e⟩ := mem_togP hy
  have := h1.1 x hx
  rw [e] at this
  exact ⟨this.1, this.2.1, h4 y hy⟩
def starsOf (l : List Int) : Nat := l.count (-1)
theorem stars_none {l : List Int} (h : ∀ c, c < l.length → 0 ≤ l.getD c 0) : starsOf l = 0 := by
  unfold starsOf
  rw [List.count_eq_zero]
  intro hm
  obtain ⟨c, hc, e⟩ := List.getElem_of_mem hm
  have := h c hc
  rw [List.getD_eq_getElem?_getD, List.getElem?_eq_getElem hc, e] at this
  simp at this
theorem stars_set {l : List Int} {d : Nat} (h : ∀ c, c < l.length → 0 ≤ l.getD c 0) (hd : d < l.length) : starsOf (l.set d (-1)) = 1 := by
  have h0 := stars_none h
  unfold starsOf at h0 ⊢
  have hne : ¬ (l[d] == -1) = true := by
    intro e
    have := h d hd
    rw [List.getD_eq_getElem?_getD, List.getElem?_eq_getElem hd] at this
    simp at e this; omega
  rw [List.count_set hd, h0, if_neg hne]; simp
/-- What StarBound says. -/
theorem bound_law {S M : List (List Int)} {leaf n : Nat} (hn : (S.getD 0 []).length = n) (hb : n ≤ 80) (hge : ∀ l ∈ S, ∀ x ∈ l, 0 ≤ x) :
    ∃ B, B ≤ 80 ∧ B ≤ (ofP S M leaf).R.length ∧ (ofP S M leaf).R.length ≤ (S.length + 1) * B ∧ csum ((ofP S M leaf).R.take B) = n ∧
      (∀ i, i ≤ B → 0 ≤ csum ((ofP S M leaf).R.take i) ∧ csum ((ofP S M leaf).R.take i) ≤ 80) ∧
      ∀ i x, (ofP S M leaf).R[i]? = some x → 1 ≤ x.cnt ∧ x.ids.length = S.length ∧ starsOf x.ids = if i < B then 0 else 1 := by
  obtain ⟨h1, h2⟩ := base_ok (M := M) hn hb hge
  obtain ⟨E, h3, h4⟩ := ofP_node S M leaf
  have h5 := (grow_bound leaf S.length S.length false 0 (togP (rowsP S M)).length ⟨togP (rowsP S M), []⟩ (Nat.zero_le _)).1
  have h6 : (ofP S M leaf).R.length ≤ (S.length + 1) * (togP (rowsP S M)).length := by
    unfold ofP
    refine Nat.le_trans h5 ?_
    simp only [Bool.false_eq_true, if_false, Nat.sub_zero, Nat.add_mul, Nat.one_mul]
    omega
  have hlen : (togP (rowsP S M)).length ≤ 80 := by
    have h7 := csum_nonneg (fun x hx => (h1.1 x hx).2.2)
    have := h1.2; omega
  have hnb := node_blocks leaf S.length _ _ S.length false 0 _ 0 _ _ _ (Nat.le_refl _) (Nat.zero_le _) h4
  have hseg : seg (ofP S M leaf).R 0 (togP (rowsP S M)).length = togP (rowsP S M) := by
    unfold seg; rw [h3, List.take_left' rfl]; rfl
  refine ⟨(togP (rowsP S M)).length, hlen, by rw [h3, List.length_append]; omega, h6, ?_, fun i hi => ?_, fun i x hx => ?_⟩
  · rw [h3, List.take_left' rfl, h2]
  · have e1 : (ofP S M leaf).R.take i = (togP (rowsP S M)).take i := by rw [h3, List.take_append_of_le_length hi]
    rw [e1]
    have e2 := csum_append ((togP (rowsP S M)).take i) ((togP (rowsP S M)).drop i)
    rw [List.take_append_drop] at e2
    have g1 := csum_nonneg (L := (togP (rowsP S M)).take i) (fun x hx => (h1.1 x (List.mem_of_mem_take hx)).2.2)
    have g2 := csum_nonneg (L := (togP (rowsP S M)).drop i) (fun x hx => (h1.1 x (List.mem_of_mem_drop hx)).2.2)
    have := h1.2; omega
  · by_cases hi : i < (togP (rowsP S M)).length
    · rw [if_pos hi]
      have hm : x ∈ togP (rowsP S M) := by
        rw [h3, List.getElem?_append_left hi] at hx
        exact List.mem_of_getElem? hx
      obtain ⟨g1, g2, g3⟩ := h1.1 x hm
      exact ⟨g3, g1, stars_none (fun c hc => g2 c (Nat.zero_le _) (by rw [← g1]; exact hc))⟩
    · rw [if_neg hi]
      obtain ⟨hil, -⟩ := List.getElem?_eq_some_iff.1 hx
      obtain ⟨d, p', q', y, f1, f2, f3, f4, f5, f6⟩ := hnb i (by omega) hil
      rw [hx] at f5
      cases f5
      have hsub : ListOk S.length 0 (seg (ofP S M leaf).R p' q') := by
        have h0 : ListOk S.length 0 (seg (ofP S M leaf).R 0 (togP (rowsP S M)).length) := by rw [hseg]; exact h1
        exact h0.sub (Nat.zero_le _) f3 f4 (by rw [h3, List.length_append]; omega)
      have hst := (hsub.down (d' := d) (Nat.zero_le _)).star
      obtain ⟨g1, -, g3⟩ := hst.1 x f6
      obtain ⟨z, hz, ez⟩ := star_of f6
      obtain ⟨z1, z2, z3⟩ := hsub.1 z hz
      refine ⟨g3, g1, ?_⟩
      rw [ez]
      exact stars_set (fun c hc => z2 c (Nat.zero_le _) (by rw [← z1]; exact hc)) (by rw [z1]; exact f1)
end Go.Proofs.Ythmaobmgogmaoaa
namespace Go.Proofs.Ythmaobmgogmaoaa
open Go.RowKit
set_option linter.unusedSimpArgs false
set_option linter.unusedVariables false

/-- Records that a node may be of. -/
def Rng (k : Nat) (R : List PR) (d p q : Nat) : Prop := p ≤ q ∧ q ≤ R.length ∧ ListOk k d (seg R p q)
theorem seg_block {R l : List PR} {b : Nat} (h1 : b + l.length ≤ R.length) (h2 : (R.drop b).take l.length = l) : seg R b (b + l.length) = l := by
  unfold seg
  rw [List.drop_take, Nat.add_sub_cancel_left]; exact h2
theorem idAt_get {R : List PR} {j : Nat} {x : PR} (h : R[j]? = some x) (c : Nat) : idAt R j c = x.ids.getD c 0 := by
  have e : R.getD j default = x := by rw [List.getD_eq_getElem?_getD, h]; rfl
  unfold idAt; rw [e]
/-- Each node below one stands. -/
def NodeAt (leaf k : Nat) (R : List PR) (N : List PN) (i : Nat) : Prop := ∃ f st p q n' r r', f ≤ k ∧ NodeOk leaf k R N f st p q i n' r r' ∧ Rng k R (k - f) p q
theorem kids_all {leaf k : Nat} {R : List PR} {N : List PN} {d q : Nat} {a m r : Nat} {ks : List (Int × Nat)} {m' r' : Nat} (h : KidsOk (fun _ _ m m1 _ _ => ∀ i, m ≤ i → i < m1 → NodeAt leaf k R N i) R d q a m r ks m' r') : ∀ i, m ≤ i → i < m' → NodeAt leaf k R N i := by
  induction h with
  | nil => intro i h1 h2; omega
  | cons h1 h2 h3 h4 h5 ih =>
    rename_i a e m m1 r r1 m' r' id ks
    intro i hi1 hi2
    by_cases hi : i < m1
    · exact h4 i hi1 hi
    · exact ih i (by omega) hi2
theorem node_all (leaf k : Nat) (R : List PR) (N : List PN) : ∀ f st p q n n' r r', f ≤ k → Rng k R (k - f) p q → NodeOk leaf k R N f st p q n n' r r' → ∀ i, n ≤ i → i < n' → NodeAt leaf k R N i
  | 0, st, p, q, n, n', r, r', hf, hr, h, i, h1, h2 => by
    obtain rfl : i = n := by have := h.2.1; omega
    exact ⟨0, st, p, q, n', r, r', hf, h, hr⟩
  | f + 1, st, p, q, n, n', r, r', hf, hr, h, i, h1, h2 => by
    by_cases hi : i = n
    · subst hi
      exact ⟨f + 1, st, p, q, n', r, r', hf, h, hr⟩
    · rcases h with ⟨-, -, h3, -⟩ | ⟨-, ks, m, b, hk, h⟩
      · omega
      · have hd : k - (f + 1) ≤ k - f := by omega
        have h3 := kids_all (hk.imp (P' := fun _ _ m m1 _ _ => ∀ i, m ≤ i → i < m1 → NodeAt leaf k R N i) (Nat.le_refl _) (fun a e m m1 r r1 hpa hae heq h => node_all leaf k R N f st a e m m1 r r1 (by omega) ⟨by omega, by have := hr.2.1; omega, (hr.2.2.sub hpa (by omega) heq hr.2.1).down hd⟩ h))
        rcases h with ⟨rfl, -, rfl, rfl⟩ | ⟨rfl, -, hb, he, h⟩
        · exact h3 i (by omega) h2
        · by_cases hm : i < m
          · exact h3 i (by omega) hm
          · have hs := hr.2.2.star
            have e : k - (f + 1) + 1 = k - f := by omega
            rw [e] at hs
            refine node_all leaf k R N f true _ _ m n' _ r' (by omega) ⟨by omega, hb, ?_⟩ h i (by omega) h2
            rw [seg_block hb he]
            exact hs

def atN (N : List PN) (ks : List (Int × Nat)) (a : Nat) : Nat := ks.foldl (fun a kid => if kid.1 = -1 then a else (N.getD kid.2 default).t) a
theorem atN_snoc (N : List PN) (ks : List (Int × Nat)) (a : Nat) (kid : Int × Nat) : atN N (ks ++ [kid]) a = if kid.1 = -1 then atN N ks a else (N.getD kid.2 default).t := by simp [atN]
theorem take_snoc {α : Type} {l : List α} {s : Nat} {x : α} (h : l[s]? = some x) : l.take (s + 1) = l.take s ++ [x] := by
  obtain ⟨hs, rfl⟩ := List.getElem?_eq_some_iff.1 h
  exact List.take_succ_eq_append_getElem hs
/-- What a kid is. -/
structure KidIs (k : Nat) (R : List PR) (N : List PN) (i : Nat) (y : PN) (s : Nat) (kid : Int × Nat) (z : PN) : Prop where
  gt : i < kid.2
  at' : N[kid.2]? = some z
  d : z.d = y.d + 1
  dk : y.d < k
  ft : z.f ≤ z.t
  tR : z.t ≤ R.length
  ok : ListOk k z.d (seg R z.f z.t)
  star : kid.1 = -1 → csum (seg R z.f z.t) = csum (seg R y.f y.t)
  next : kid.1 ≠ -1 → z.f = atN N (y.kids.take s) y.f
  ids : ∀ j, z.f ≤ j → j < z.t → idAt R j y.d = kid.1
theorem kids_list {R : List PR} {N : List PN} {d q : Nat} {a m r : Nat} {ks : List (Int × Nat)} {m' r' : Nat} (h : KidsOk (fun a e m m1 _ _ => m < m1 ∧ ∃ ks, N[m]? = some ⟨d + 1, a, e, ks⟩) R d q a m r ks m' r') (hq : q ≤ R.length) (hge : ∀ j, a ≤ j → j < q → 0 ≤ idAt R j d) :
    atN N ks a = q ∧ m ≤ m' ∧ ∀ s kid, ks[s]? = some kid → m ≤ kid.2 ∧ kid.2 < m' ∧ 0 ≤ kid.1 ∧ ∃ z, N[kid.2]? = some z ∧ z.d = d + 1 ∧ z.f = atN N (ks.take s) a ∧ a ≤ z.f ∧ z.f < z.t ∧ z.t ≤ q ∧ ∀ j, z.f ≤ j → j < z.t → idAt R j d = kid.1 := by
  induction h with
  | nil => exact ⟨rfl, Nat.le_refl _, fun s kid h => by simp at h⟩
  | cons h1 h2 h3 h4 h5 ih =>
    rename_i a e m m1 r r1 m' r' id ks
    obtain ⟨h6, ks', h7⟩ := h4
    obtain ⟨i1, i0, i2⟩ := ih (fun j hj1 hj2 => hge j (by omega) hj2)
    have hid : 0 ≤ id := by rw [← h3 a (Nat.le_refl _) h1]; exact hge a (Nat.le_refl _) (by omega)
    have hN : N.getD m default = ⟨d + 1, a, e, ks'⟩ := by rw [List.getD_eq_getElem?_getD, h7]; rfl
    have hat : ∀ l, atN N ((id, m) :: l) a = atN N l e := fun l => by
      unfold atN
      rw [List.foldl_cons, if_neg (by dsimp only; omega), hN]
    refine ⟨by rw [hat]; exact i1, by omega, fun s kid hs => ?_⟩
    cases s with
    | zero =>
      simp at hs; subst hs
      exact ⟨Nat.le_refl _, by dsimp only; omega, hid, _, h7, rfl, rfl, Nat.le_refl _, h1, h2, fun j hj1 hj2 => h3 j hj1 hj2⟩
    | succ s =>
      rw [List.getElem?_cons_succ] at hs
      obtain ⟨g1, g2, g3, z, g4, g5, g6, g7, g8, g9, g10⟩ := i2 s kid hs
      exact ⟨by omega, g2, g3, z, g4, g5, by rw [List.take_succ_cons, hat]; exact g6, by omega, g8, g9, g10⟩
/-- What is said of each node. -/
structure NodeIs (leaf k : Nat) (R : List PR) (N : List PN) (i : Nat) (y : PN) : Prop where
  ft : y.f ≤ y.t
  tR : y.t ≤ R.length
  dk : y.d ≤ k
  ok : ListOk k y.d (seg R y.f y.t)
  small : (y.d = k ∨ y.t - y.f ≤ leaf) ↔ y.kids = []
  kid : ∀ s kid, y.kids[s]? = some kid → ∃ z, KidIs k R N i y s kid z
  all : y.kids ≠ [] → atN N y.kids y.f = y.t
  few : y.kids.length ≤ y.t - y.f + 1
theorem KidsOk.few {P : Nat → Nat → Nat → Nat → Nat → Nat → Prop} {R : List PR} {d q a m r : Nat} {ks : List (Int × Nat)} {m' r' : Nat} (h : KidsOk P R d q a m r ks m' r') : ks.length ≤ q - a := by
  induction h with
  | nil => simp
  | cons h1 h2 _ _ _ ih => rw [List.length_cons]; omega
theorem node_is {leaf k : Nat} {R : List PR} {N : List PN} {i : Nat} (h : NodeAt leaf k R N i) : ∃ y, N[i]? = some y ∧ NodeIs leaf k R N i y := by
  obtain ⟨f, st, p, q, n', r, r', hf, h, hr1, hr2, hr3⟩ := h
  cases f with
  | zero => exact ⟨_, h.1, hr1, hr2, Nat.le_refl _, hr3, ⟨fun _ => rfl, fun _ => .inl rfl⟩, fun s kid h => by simp at h, fun h => (h rfl).elim, by simp⟩
  | succ f =>
    rcases h with ⟨h1, h2, -⟩ | ⟨h1, ks, m, b, hk, h⟩
    · exact ⟨_, h2, hr1, hr2, by dsimp only; omega, hr3, ⟨fun _ => rfl, fun _ => .inr h1⟩, fun s kid h => by simp at h, fun h => (h rfl).elim, by simp⟩
    · have e : k - (f + 1) + 1 = k - f := by omega
      have hge : ∀ j, p ≤ j → j < q → 0 ≤ idAt R j (k - (f + 1)) := fun j hj1 hj2 => by
        have hj : R[j]? = some (R[j]'(by omega)) := List.getElem?_eq_getElem _
        have := (hr3.1 _ (seg_mem hj1 hj2 hj)).2.1 (k - (f + 1)) (Nat.le_refl _) (by omega)
        rw [idAt_get hj]; exact this
      obtain ⟨k1, k0, k2⟩ := kids_list (N := N) (hk.imp (P' := fun a e m m1 _ _ => m < m1 ∧ ∃ ks, N[m]? = some ⟨k - (f + 1) + 1, a, e, ks⟩) (Nat.le_refl _) (fun a e' m m1 r r1 _ _ _ h => ⟨(node_mono leaf k R N f st a e' m m1 r r1 h).1, by rw [e]; exact node_at h⟩)) hr2 hge
      have hne : ks ≠ [] := by
        cases hk with
        | nil => omega
        | cons => simp
      have hkid : ∀ (y : PN), y.d = k - (f + 1) → y.f = p → y.t = q → (∃ l, y.kids = ks ++ l) → ∀ s kid, ks[s]? = some kid → ∃ z, KidIs k R N i y s kid z := fun y e1 e2 e3 ⟨l, e4⟩ s kid hs => by
        obtain ⟨g1, g2, g3, z, g4, g5, g6, g7, g8, g9, g10⟩ := k2 s kid hs
        have hsl := (List.getElem?_eq_some_iff.1 hs).1
        refine ⟨z, by omega, g4, by rw [e1]; exact g5, by rw [e1]; omega, by omega, by omega, ?_, fun h => by omega, fun _ => ?_, by rw [e1]; exact g10⟩
        · rw [g5]; exact (hr3.sub g7 (by omega) g9 hr2).down (by omega)
        · rw [e4, List.take_append_of_le_length (by omega), e2]; exact g6
      rcases h with ⟨rfl, h2, -, -⟩ | ⟨rfl, h2, hb, he, h⟩
      · refine ⟨_, h2, hr1, hr2, by dsimp only; omega, hr3, ⟨fun h => by dsimp only at h; omega, fun h => (hne h).elim⟩, fun s kid hs => hkid _ rfl rfl rfl ⟨[], by simp⟩ s kid hs, fun _ => k1, by dsimp only; have := hk.few; omega⟩
      · refine ⟨_, h2, hr1, hr2, by dsimp only; omega, hr3, ⟨fun h => by dsimp only at h; omega, fun h => by simp at h⟩, fun s kid hs => ?_, fun _ => ?_, by dsimp only; rw [List.length_append, List.length_singleton]; have := hk.few; omega⟩
        · by_cases hsl : s < ks.length
          · refine hkid _ rfl rfl rfl ⟨_, rfl⟩ s kid ?_
            dsimp only at hs
            rwa [List.getElem?_append_left hsl] at hs
          · dsimp only at hs
            rw [List.getElem?_append_right (by omega)] at hs
            obtain ⟨hz, hs⟩ := List.getElem?_eq_some_iff.1 hs
            simp at hz
            have hz0 : s - ks.length = 0 := by omega
            simp at hs
            subst hs
            obtain ⟨ks', hm⟩ := node_at h
            have hseg := seg_block hb he
            have hst := hr3.star
            have hcs : csum (togP ((seg R p q).map (starAt (k - (f + 1))))) = csum (seg R p q) := by
              have h1 := csum_tog (l := (seg R p q).map (starAt (k - (f + 1)))) (fun y hy => by
                obtain ⟨x, hx, rfl⟩ := List.mem_map.1 hy
                exact (hr3.1 x hx).2.2) (by rw [csum_star]; have := hr3.2; omega)
              rw [h1.1, csum_star]
            refine ⟨_, by dsimp only; omega, hm, by dsimp only; omega, by dsimp only; omega, by dsimp only; omega, hb, ?_, fun _ => ?_, fun h => (h rfl).elim, fun j hj1 hj2 => ?_⟩
            · dsimp only; rw [hseg, ← e]; exact hst
            · dsimp only; rw [hseg]; exact hcs
            · dsimp only at hj1 hj2 ⊢
              have hjl : j < R.length := by omega
              have hj : R[j]? = some R[j] := List.getElem?_eq_getElem hjl
              have hm2 := seg_mem hj1 hj2 hj
              rw [hseg] at hm2
              obtain ⟨x, hx, ex⟩ := star_of hm2
              rw [idAt_get hj, ex, getI_set, if_pos ⟨rfl, by rw [(hr3.1 x hx).1]; omega⟩]
        · dsimp only
          rw [atN_snoc, if_pos rfl]; exact k1

/-- Numbers of kids. -/
def kidNs (y : PN) : List Nat := y.kids.map (·.2)
def flatK (N : List PN) (a b : Nat) : List Nat := ((N.take b).drop a).flatMap kidNs
theorem flatK_split (N : List PN) {a e b : Nat} (h1 : a ≤ e) (h2 : e ≤ b) (h3 : b ≤ N.length) : flatK N a b = flatK N a e ++ flatK N e b := by
  unfold flatK
  rw [← List.flatMap_append]
  congr 1
  have e1 : N.take e = (N.take b).take e := by rw [List.take_take, Nat.min_eq_left h2]
  have hl : e ≤ (N.take b).length := by rw [List.length_take]; omega
  rw [e1]
  generalize N.take b = L at *
  conv => lhs; rw [← List.take_append_drop e L]
  rw [List.drop_append_of_le_length (by rw [List.length_take]; omega)]
theorem flatK_one {N : List PN} {n : Nat} {y : PN} (h : N[n]? = some y) : flatK N n (n + 1) = kidNs y := by
  obtain ⟨hn, rfl⟩ := List.getElem?_eq_some_iff.1 h
  unfold flatK
  rw [List.drop_take, Nat.add_sub_cancel_left, List.drop_eq_getElem_cons hn, List.take_succ_cons, List.take_zero, List.flatMap_cons, List.flatMap_nil, List.append_nil]
theorem flatK_nil (N : List PN) (n : Nat) : flatK N n n = [] := by
  unfold flatK
  rw [List.drop_take, Nat.sub_self]; rfl
theorem kids_count {R : List PR} {N : List PN} {d q : Nat} {a m r : Nat} {ks : List (Int × Nat)} {m' r' : Nat} (h : KidsOk (fun _ _ m m1 _ _ => m < m1 ∧ (m1 ≤ N.length → ∀ j, (flatK N m m1).count j = if m < j ∧ j < m1 then 1 else 0)) R d q a m r ks m' r') : m ≤ m' ∧ (m' ≤ N.length → ∀ j, (ks.map (·.2)).count j + (flatK N m m').count j = if m ≤ j ∧ j < m' then 1 else 0) := by
  induction h with
  | nil =>
    rename_i m r
    exact ⟨Nat.le_refl _, fun _ j => by rw [flatK_nil, if_neg (by omega)]; rfl⟩
  | cons h1 h2 h3 h4 h5 ih =>
    rename_i a e m m1 r r1 m' r' id ks
    refine ⟨by omega, fun hm j => ?_⟩
    have i1 := ih.2 hm j
    have i2 := h4.2 (by omega) j
    rw [flatK_split N (show m ≤ m1 by omega) ih.1 hm, List.count_append, List.map_cons, List.count_cons]
    dsimp only
    rw [i2]
    have e : (if (m == j) = true then 1 else 0) = if m = j then 1 else 0 := by simp
    rw [e]
    have hlt := h4.1
    have hle := ih.1
    split at i1 <;> split <;> split <;> split <;> omega
theorem node_count (leaf k : Nat) (R : List PR) (N : List PN) : ∀ f st p q n n' r r', NodeOk leaf k R N f st p q n n' r r' → n < n' ∧ (n' ≤ N.length → ∀ j, (flatK N n n').count j = if n < j ∧ j < n' then 1 else 0)
  | 0, st, p, q, n, n', r, r', h => by
    obtain ⟨h1, rfl, -⟩ := h
    refine ⟨by omega, fun _ j => ?_⟩
    rw [flatK_one h1, if_neg (by omega)]; rfl
  | f + 1, st, p, q, n, n', r, r', h => by
    rcases h with ⟨-, h1, rfl, -⟩ | ⟨-, ks, m, b, hk, h⟩
    · refine ⟨by omega, fun _ j => ?_⟩
      rw [flatK_one h1, if_neg (by omega)]; rfl
    · obtain ⟨hm, hkc⟩ := kids_count (N := N) (hk.imp (P' := fun _ _ m m1 _ _ => m < m1 ∧ (m1 ≤ N.length → ∀ j, (flatK N m m1).count j = if m < j ∧ j < m1 then 1 else 0)) (Nat.le_refl _) (fun a e m m1 r r1 _ _ _ h => node_count leaf k R N f st a e m m1 r r1 h))
      rcases h with ⟨rfl, h2, rfl, -⟩ | ⟨rfl, h2, -, -, h⟩
      · refine ⟨by omega, fun hN j => ?_⟩
        rw [flatK_split N (show n ≤ n + 1 by omega) hm hN, flatK_one h2, List.count_append]
        have := hkc hN j
        unfold kidNs
        dsimp only
        rw [this]
        split <;> split <;> omega
      · obtain ⟨h3, h4⟩ := node_count leaf k R N f true _ _ _ _ _ _ h
        refine ⟨by omega, fun hN j => ?_⟩
        rw [flatK_split N (show n ≤ n + 1 by omega) (show n + 1 ≤ n' by omega) hN, flatK_split N hm (by omega) hN, flatK_one h2, List.count_append, List.count_append, h4 hN j]
        have i1 := hkc (by omega) j
        unfold kidNs
        dsimp only
        rw [List.map_append, List.count_append, List.map_cons, List.map_nil, List.count_singleton]
        have e : (if (m == j) = true then 1 else 0) = if m = j then 1 else 0 := by simp
        rw [e]
        split at i1 <;> split <;> split <;> split <;> omega
/-- The whole tree. -/
theorem nodes_law {S M : List (List Int)} {leaf n : Nat} (hn : (S.getD 0 []).length = n) (hb : n ≤ 80) (hge : ∀ l ∈ S, ∀ x ∈ l, 0 ≤ x) :
    0 < (ofP S M leaf).N.length ∧ (∀ i, i < (ofP S M leaf).N.length → ∃ y, (ofP S M leaf).N[i]? = some y ∧ NodeIs leaf S.length (ofP S M leaf).R (ofP S M leaf).N i y) ∧
      ∀ j, (flatK (ofP S M leaf).N 0 (ofP S M leaf).N.length).count j = if 0 < j ∧ j < (ofP S M leaf).N.length then 1 else 0 := by
  obtain ⟨h1, h2⟩ := base_ok (M := M) hn hb hge
  obtain ⟨E, h3, h4⟩ := ofP_node S M leaf
  have hc := node_count _ _ _ _ _ _ _ _ _ _ _ _ h4
  have hseg : seg (ofP S M leaf).R 0 (togP (rowsP S M)).length = togP (rowsP S M) := by
    unfold seg; rw [h3, List.take_left' rfl]; rfl
  refine ⟨hc.1, fun i hi => ?_, hc.2 (Nat.le_refl _)⟩
  refine node_is (node_all leaf S.length _ _ S.length false 0 _ 0 _ _ _ (Nat.le_refl _) ⟨Nat.zero_le _, by rw [h3, List.length_append]; omega, ?_⟩ h4 i (Nat.zero_le _) hi)
  rw [hseg, Nat.sub_self]; exact h1
end Go.Proofs.Ythmaobmgogmaoaa
