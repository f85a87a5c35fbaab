/-
  Star-trees: what stands in a grown tree (plain).
-/
import Derived.Test.YthmaobmgogmaoaaStaK
namespace Go.Proofs.Ythmaobmgogmaoaa
open Go.RowKit
set_option linter.unusedSimpArgs false
set_option linter.unusedVariables false

/-- The kids of a node by ids: ranges one behind the other; P: what is said of each. -/
inductive KidsOk (P : Nat → Nat → Nat → Nat → Nat → Nat → Prop) (R : List PR) (d q : Nat) : Nat → Nat → Nat → List (Int × Nat) → Nat → Nat → Prop
  | nil (m r : Nat) : KidsOk P R d q q m r [] m r
  | cons {a e m m1 r r1 m' r' : Nat} {id : Int} {ks : List (Int × Nat)} (h1 : a < e) (h2 : e ≤ q) (h3 : ∀ j, a ≤ j → j < e → idAt R j d = id) (h4 : P a e m m1 r r1) (h5 : KidsOk P R d q e m1 r1 ks m' r') : KidsOk P R d q a m r ((id, m) :: ks) m' r'
/-- The node n of the records from p to q, and all below it (up to node n'; records of stars from r to r'). -/
def NodeOk (leaf k : Nat) (R : List PR) (N : List PN) : Nat → Bool → Nat → Nat → Nat → Nat → Nat → Nat → Prop
  | 0, st, p, q, n, n', r, r' => N[n]? = some ⟨k, p, q, []⟩ ∧ n' = n + 1 ∧ r' = r
  | f + 1, st, p, q, n, n', r, r' =>
    (q - p ≤ leaf ∧ N[n]? = some ⟨k - (f + 1), p, q, []⟩ ∧ n' = n + 1 ∧ r' = r) ∨
    (leaf < q - p ∧ ∃ ks m b, KidsOk (fun a e => NodeOk leaf k R N f st a e) R (k - (f + 1)) q p (n + 1) r ks m b ∧
      ((st = true ∧ N[n]? = some ⟨k - (f + 1), p, q, ks⟩ ∧ n' = m ∧ r' = b) ∨
       (st = false ∧ N[n]? = some ⟨k - (f + 1), p, q, ks ++ [(-1, m)]⟩ ∧ b + (starRecs R (k - (f + 1)) p q).length ≤ R.length ∧ (R.drop b).take (starRecs R (k - (f + 1)) p q).length = starRecs R (k - (f + 1)) p q ∧
        NodeOk leaf k R N f true b (b + (starRecs R (k - (f + 1)) p q).length) m n' (b + (starRecs R (k - (f + 1)) p q).length) r')))

/-- What a step of growing yields. -/
def GrowsTo (leaf k f : Nat) (st : Bool) (p q : Nat) (S G : St) : Prop :=
  (∃ E, G.R = S.R ++ E) ∧ (∃ F, G.N = S.N ++ F) ∧ ∀ Rx Nx, (∃ E, Rx = G.R ++ E) → (∀ i, S.N.length ≤ i → i < G.N.length → Nx[i]? = G.N[i]?) → NodeOk leaf k Rx Nx f st p q S.N.length G.N.length S.R.length G.R.length
theorem setKids_at {A F : List PN} {y : PN} {ks : List (Int × Nat)} : setKids (A ++ y :: F) A.length ks = A ++ ⟨y.d, y.f, y.t, ks⟩ :: F := by
  unfold setKids
  rw [List.set_append_right _ _ (Nat.le_refl _)]
  simp
theorem kids_grow {leaf k f : Nat} {st : Bool} {g : Nat → Nat → St → St} (hg : ∀ a e T, a ≤ e → e ≤ T.R.length → GrowsTo leaf k f st a e T (g a e T)) (R : List PR) (d q : Nat) (hq : q ≤ R.length) :
    ∀ n a S ks, q - a ≤ n → a ≤ q → (∃ E, S.R = R ++ E) → ∃ ks2, (kidsP g R d q n a S ks).2 = ks ++ ks2 ∧ (∃ E, (kidsP g R d q n a S ks).1.R = S.R ++ E) ∧ (∃ F, (kidsP g R d q n a S ks).1.N = S.N ++ F) ∧
      ∀ Rx Nx, (∃ E, Rx = (kidsP g R d q n a S ks).1.R ++ E) → (∀ i, S.N.length ≤ i → i < (kidsP g R d q n a S ks).1.N.length → Nx[i]? = (kidsP g R d q n a S ks).1.N[i]?) →
        KidsOk (fun a e => NodeOk leaf k Rx Nx f st a e) Rx d q a S.N.length S.R.length ks2 (kidsP g R d q n a S ks).1.N.length (kidsP g R d q n a S ks).1.R.length
  | 0, a, S, ks, hn, ha, hS => by
    obtain rfl : a = q := by omega
    exact ⟨[], by simp [kidsP], ⟨[], by simp [kidsP]⟩, ⟨[], by simp [kidsP]⟩, fun Rx Nx _ _ => KidsOk.nil _ _⟩
  | n + 1, a, S, ks, hn, ha, hS => by
    by_cases hlt : a < q
    · have h1 := runEnd_gt R d (q - a) a (by omega)
      have h2 := (runEnd_bd R d (idAt R a d) (q - a) a).2
      have h3 := fun j => runEnd_in R d (idAt R a d) (q - a) a j
      have hk : kidsP g R d q (n + 1) a S ks = kidsP g R d q n (runEnd R d (idAt R a d) (q - a) a) (g a (runEnd R d (idAt R a d) (q - a) a) S) (ks ++ [(idAt R a d, S.N.length)]) := by
        conv => lhs; unfold kidsP
        rw [if_pos hlt]
      rw [hk]
      obtain ⟨E0, hE0⟩ := hS
      have hlen := congrArg List.length hE0
      simp only [List.length_append] at hlen
      generalize runEnd R d (idAt R a d) (q - a) a = e at *
      obtain ⟨⟨E1, e1⟩, ⟨F1, f1⟩, hN⟩ := hg a e S (by omega) (by omega)
      obtain ⟨ks2, i1, ⟨E2, i2⟩, ⟨F2, i3⟩, i4⟩ := kids_grow hg R d q hq n e (g a e S) (ks ++ [(idAt R a d, S.N.length)]) (by omega) (by omega) ⟨E0 ++ E1, by rw [e1, hE0, List.append_assoc]⟩
      generalize kidsP g R d q n e (g a e S) (ks ++ [(idAt R a d, S.N.length)]) = Z at *
      refine ⟨(idAt R a d, S.N.length) :: ks2, by rw [i1]; simp, ⟨E1 ++ E2, by rw [i2, e1, List.append_assoc]⟩, ⟨F1 ++ F2, by rw [i3, f1, List.append_assoc]⟩, fun Rx Nx hR hNx => ?_⟩
      obtain ⟨E3, hE3⟩ := hR
      have hRx : ∃ E, Rx = R ++ E := ⟨E0 ++ E1 ++ E2 ++ E3, by rw [hE3, i2, e1, hE0]; simp⟩
      have hl1 : (g a e S).N.length ≤ Z.1.N.length := by rw [i3, List.length_append]; omega
      have hl0 : S.N.length ≤ (g a e S).N.length := by rw [f1, List.length_append]; omega
      refine KidsOk.cons h1 (by omega) (fun j hj1 hj2 => ?_) (hN Rx Nx ⟨E2 ++ E3, by rw [hE3, i2, List.append_assoc]⟩ (fun i hi1 hi2 => ?_)) (i4 Rx Nx ⟨E3, hE3⟩ (fun i hi1 hi2 => hNx i (by omega) hi2))
      · obtain ⟨E, hE⟩ := hRx
        rw [hE, idAt_append (by omega)]
        exact h3 j hj1 hj2
      · rw [hNx i hi1 (by omega), i3, List.getElem?_append_left hi2]
    · obtain rfl : a = q := by omega
      have hk : kidsP g R d a (n + 1) a S ks = (S, ks) := by unfold kidsP; rw [if_neg hlt]
      rw [hk]
      exact ⟨[], by simp, ⟨[], by simp⟩, ⟨[], by simp⟩, fun Rx Nx _ _ => KidsOk.nil _ _⟩
theorem grow_ok (leaf k : Nat) : ∀ f st p q S, f ≤ k → p ≤ q → q ≤ S.R.length → GrowsTo leaf k f st p q S (growP leaf k f st p q S)
  | 0, st, p, q, S, hf, hpq, hq => by
    unfold growP
    refine ⟨⟨[], by simp⟩, ⟨_, rfl⟩, fun Rx Nx hR hN => ⟨?_, by simp, rfl⟩⟩
    rw [hN _ (Nat.le_refl _) (by simp)]; simp
  | f + 1, st, p, q, S, hf, hpq, hq => by
    by_cases hl : q - p ≤ leaf
    · unfold growP
      rw [if_pos hl]
      refine ⟨⟨[], by simp⟩, ⟨_, rfl⟩, fun Rx Nx hR hN => .inl ⟨hl, ?_, by simp, rfl⟩⟩
      rw [hN _ (Nat.le_refl _) (by simp)]; simp
    · obtain ⟨ks, k1, ⟨E1, k2⟩, ⟨F1, k3⟩, k4⟩ := kids_grow (leaf := leaf) (k := k) (f := f) (st := st) (g := fun a e T => growP leaf k f st a e T) (fun a e T h1 h2 => grow_ok leaf k f st a e T (by omega) h1 h2) S.R (k - (f + 1)) q hq (q - p) p ⟨S.R, S.N ++ [⟨k - (f + 1), p, q, []⟩]⟩ [] (Nat.le_refl _) hpq ⟨[], by simp⟩
      have hT := fun (r : St × List (Int × Nat)) => grow_ok leaf k f true r.1.R.length (r.1.R.length + (starRecs r.1.R (k - (f + 1)) p q).length) ⟨r.1.R ++ starRecs r.1.R (k - (f + 1)) p q, r.1.N⟩ (by omega) (by omega) (by simp)
      unfold growP
      rw [if_neg hl]
      generalize kidsP (fun a e T => growP leaf k f st a e T) S.R (k - (f + 1)) q (q - p) p ⟨S.R, S.N ++ [⟨k - (f + 1), p, q, []⟩]⟩ [] = r at *
      have hT := hT r
      rw [List.nil_append] at k1
      simp only [List.append_assoc, List.singleton_append] at k3
      simp only [List.length_append, List.length_singleton] at k4
      dsimp only at k2 ⊢
      cases st
      · simp only [Bool.false_eq_true, if_false]
        generalize growP leaf k f true r.1.R.length (r.1.R.length + (starRecs r.1.R (k - (f + 1)) p q).length) ⟨r.1.R ++ starRecs r.1.R (k - (f + 1)) p q, r.1.N⟩ = T at *
        obtain ⟨⟨E2, t1⟩, ⟨F2, t2⟩, t3⟩ := hT
        dsimp only at t1 t2 t3
        have hN : setKids T.N S.N.length (r.2 ++ [(-1, r.1.N.length)]) = S.N ++ ⟨k - (f + 1), p, q, ks ++ [(-1, r.1.N.length)]⟩ :: (F1 ++ F2) := by
          rw [t2, k3, k1, List.append_assoc, List.cons_append, setKids_at]
        refine ⟨⟨E1 ++ starRecs r.1.R (k - (f + 1)) p q ++ E2, by rw [t1, k2]; simp⟩, ⟨_, hN⟩, fun Rx Nx hR hNx => ?_⟩
        dsimp only at hR hNx ⊢
        rw [setKids_len] at hNx ⊢
        obtain ⟨E3, hE3⟩ := hR
        have hrl : S.R.length ≤ r.1.R.length := by rw [k2, List.length_append]; omega
        have hst : starRecs Rx (k - (f + 1)) p q = starRecs r.1.R (k - (f + 1)) p q := by
          rw [hE3, t1, List.append_assoc, List.append_assoc, starRecs_append (by omega)]
        have hrN : S.N.length + 1 ≤ r.1.N.length := by rw [k3]; simp
        have hTN : r.1.N.length ≤ T.N.length := by rw [t2]; simp
        have hget : ∀ i, S.N.length + 1 ≤ i → (setKids T.N S.N.length (r.2 ++ [(-1, r.1.N.length)]))[i]? = T.N[i]? := fun i hi => by
          unfold setKids
          rw [List.getElem?_set_ne (by omega)]
        refine .inr ⟨by omega, ks, r.1.N.length, r.1.R.length, k4 Rx Nx ⟨starRecs r.1.R (k - (f + 1)) p q ++ E2 ++ E3, by rw [hE3, t1]; simp⟩ (fun i hi1 hi2 => ?_), .inr ⟨rfl, ?_, ?_, ?_, ?_⟩⟩
        · rw [hNx i (by omega) (by omega), hget i hi1, t2, List.getElem?_append_left hi2]
        · rw [hNx _ (Nat.le_refl _) (by omega), hN]; simp
        · rw [hst, hE3, t1]; simp
        · rw [hst, hE3, t1]; simp
        · rw [hst]
          have := t3 Rx Nx ⟨E3, hE3⟩ (fun i hi1 hi2 => by rw [hNx i (by omega) hi2, hget i (by omega)])
          rw [List.length_append] at this
          exact this
      · simp only [if_true]
        have hN : setKids r.1.N S.N.length r.2 = S.N ++ ⟨k - (f + 1), p, q, ks⟩ :: F1 := by
          rw [k3, k1, setKids_at]
        refine ⟨⟨E1, k2⟩, ⟨_, hN⟩, fun Rx Nx hR hNx => ?_⟩
        dsimp only at hR hNx ⊢
        rw [setKids_len] at hNx ⊢
        have hrN : S.N.length + 1 ≤ r.1.N.length := by rw [k3]; simp
        have hget : ∀ i, S.N.length + 1 ≤ i → (setKids r.1.N S.N.length r.2)[i]? = r.1.N[i]? := fun i hi => by
          unfold setKids
          rw [List.getElem?_set_ne (by omega)]
        refine .inr ⟨by omega, ks, r.1.N.length, r.1.R.length, k4 Rx Nx hR (fun i hi1 hi2 => by rw [hNx i (by omega) hi2, hget i hi1]), .inl ⟨rfl, ?_, rfl, rfl⟩⟩
        rw [hNx _ (Nat.le_refl _) (by omega), hN]; simp
end Go.Proofs.Ythmaobmgogmaoaa
