/-
  Star-trees: how they grow (plain).
-/
import Derived.Test.YthmaobmgogmaoaaStaP
namespace Go.Proofs.Ythmaobmgogmaoaa
open Go.RowKit
set_option linter.unusedSimpArgs false
set_option linter.unusedVariables false

/-- A node. -/
structure PN where
  d : Nat
  f : Nat
  t : Nat
  kids : List (Int × Nat)
instance : Inhabited PN := ⟨⟨0, 0, 0, []⟩⟩
/-- Records and nodes. -/
structure St where
  R : List PR
  N : List PN
def idAt (R : List PR) (e d : Nat) : Int := ((R.getD e default).ids).getD d 0
/-- Where the ids turn. -/
def runEnd (R : List PR) (d : Nat) (id : Int) : Nat → Nat → Nat
  | 0, e => e
  | n + 1, e => if idAt R e d = id then runEnd R d id n (e + 1) else e
/-- The kids by ids. -/
def kidsP (g : Nat → Nat → St → St) (R : List PR) (d q : Nat) : Nat → Nat → St → List (Int × Nat) → St × List (Int × Nat)
  | 0, _, S, ks => (S, ks)
  | n + 1, a, S, ks => if a < q then kidsP g R d q n (runEnd R d (idAt R a d) (q - a) a) (g a (runEnd R d (idAt R a d) (q - a) a) S) (ks ++ [(idAt R a d, S.N.length)]) else (S, ks)
def setKids (N : List PN) (n : Nat) (ks : List (Int × Nat)) : List PN := N.set n ⟨(N.getD n default).d, (N.getD n default).f, (N.getD n default).t, ks⟩
def starAt (d : Nat) (x : PR) : PR := ⟨x.ids.set d (-1), x.cnt, x.ms⟩
/-- What the star kid's records are. -/
def starRecs (R : List PR) (d p q : Nat) : List PR := togP (((R.take q).drop p).map (starAt d))
def growP (leaf k : Nat) : Nat → Bool → Nat → Nat → St → St
  | 0, _, p, q, S => ⟨S.R, S.N ++ [⟨k, p, q, []⟩]⟩
  | f + 1, st, p, q, S =>
    if q - p ≤ leaf then ⟨S.R, S.N ++ [⟨k - (f + 1), p, q, []⟩]⟩
    else
      let r := kidsP (fun a e T => growP leaf k f st a e T) S.R (k - (f + 1)) q (q - p) p ⟨S.R, S.N ++ [⟨k - (f + 1), p, q, []⟩]⟩ []
      if st then ⟨r.1.R, setKids r.1.N S.N.length r.2⟩
      else
        let l := starRecs r.1.R (k - (f + 1)) p q
        let T := growP leaf k f true r.1.R.length (r.1.R.length + l.length) ⟨r.1.R ++ l, r.1.N⟩
        ⟨T.R, setKids T.N S.N.length (r.2 ++ [(-1, r.1.N.length)])⟩

theorem runEnd_bd (R : List PR) (d : Nat) (id : Int) : ∀ n e, e ≤ runEnd R d id n e ∧ runEnd R d id n e ≤ e + n
  | 0, e => by simp [runEnd]
  | n + 1, e => by
    have := runEnd_bd R d id n (e + 1)
    unfold runEnd; split <;> omega
theorem runEnd_gt (R : List PR) (d n a : Nat) (hn : 0 < n) : a < runEnd R d (idAt R a d) n a := by
  obtain ⟨m, rfl⟩ : ∃ m, n = m + 1 := ⟨n - 1, by omega⟩
  unfold runEnd
  rw [if_pos rfl]
  have := (runEnd_bd R d (idAt R a d) m (a + 1)).1
  omega
theorem runEnd_in (R : List PR) (d : Nat) (id : Int) : ∀ n e j, e ≤ j → j < runEnd R d id n e → idAt R j d = id
  | 0, e, j, h1, h2 => by simp [runEnd] at h2; omega
  | n + 1, e, j, h1, h2 => by
    unfold runEnd at h2
    split at h2
    · next he =>
      by_cases hj : j = e
      · rw [hj]; exact he
      · exact runEnd_in R d id n (e + 1) j (by omega) h2
    · omega
theorem runEnd_out (R : List PR) (d : Nat) (id : Int) : ∀ n e, runEnd R d id n e < e + n → idAt R (runEnd R d id n e) d ≠ id
  | 0, e, h => by simp [runEnd] at h
  | n + 1, e, h => by
    unfold runEnd at h ⊢
    split
    · next he =>
      rw [if_pos he] at h
      exact runEnd_out R d id n (e + 1) (by omega)
    · next he => exact he
theorem setKids_len (N : List PN) (n : Nat) (ks : List (Int × Nat)) : (setKids N n ks).length = N.length := by simp [setKids]
def St.Le (a b : St) : Prop := (∃ E, b.R = a.R ++ E) ∧ a.N.length ≤ b.N.length
theorem St.Le.refl (a : St) : St.Le a a := ⟨⟨[], by simp⟩, Nat.le_refl _⟩
theorem St.Le.trans {a b c : St} (h : St.Le a b) (k : St.Le b c) : St.Le a c := by
  obtain ⟨⟨E, h1⟩, h2⟩ := h
  obtain ⟨⟨F, k1⟩, k2⟩ := k
  exact ⟨⟨E ++ F, by rw [k1, h1, List.append_assoc]⟩, by omega⟩
theorem kids_le {g : Nat → Nat → St → St} (hg : ∀ a e T, St.Le T (g a e T)) (R : List PR) (d q : Nat) : ∀ n a S ks, St.Le S (kidsP g R d q n a S ks).1
  | 0, a, S, ks => St.Le.refl _
  | n + 1, a, S, ks => by
    unfold kidsP
    split
    · exact (hg _ _ _).trans (kids_le hg R d q n _ _ _)
    · exact St.Le.refl _
theorem grow_le (leaf k : Nat) : ∀ f st p q S, St.Le S (growP leaf k f st p q S) ∧ S.N.length < (growP leaf k f st p q S).N.length
  | 0, st, p, q, S => by unfold growP; exact ⟨⟨⟨[], by simp⟩, by simp⟩, by simp⟩
  | f + 1, st, p, q, S => by
    have hk := kids_le (g := fun a e T => growP leaf k f st a e T) (fun a e T => (grow_le leaf k f st a e T).1) S.R (k - (f + 1)) q (q - p) p ⟨S.R, S.N ++ [⟨k - (f + 1), p, q, []⟩]⟩ []
    unfold growP
    split
    · exact ⟨⟨⟨[], by simp⟩, by simp⟩, by simp⟩
    · generalize kidsP (fun a e T => growP leaf k f st a e T) S.R (k - (f + 1)) q (q - p) p ⟨S.R, S.N ++ [⟨k - (f + 1), p, q, []⟩]⟩ [] = r at *
      obtain ⟨⟨E, h1⟩, h2⟩ := hk
      simp only [List.length_append, List.length_singleton] at h1 h2
      dsimp only
      split
      · exact ⟨⟨⟨E, h1⟩, by simp only [setKids_len]; omega⟩, by simp only [setKids_len]; omega⟩
      · have hT := grow_le leaf k f true r.1.R.length (r.1.R.length + (starRecs r.1.R (k - (f + 1)) p q).length) ⟨r.1.R ++ starRecs r.1.R (k - (f + 1)) p q, r.1.N⟩
        obtain ⟨⟨⟨F, h3⟩, h4⟩, h5⟩ := hT
        dsimp only at h3 h4 h5
        exact ⟨⟨⟨E ++ starRecs r.1.R (k - (f + 1)) p q ++ F, by rw [h3, h1]; simp⟩, by simp only [setKids_len]; omega⟩, by simp only [setKids_len]; omega⟩
/-- More rounds than needed are none. -/
theorem kids_fuel {g : Nat → Nat → St → St} (R : List PR) (d q : Nat) : ∀ n m a S ks, q - a ≤ n → q - a ≤ m → kidsP g R d q n a S ks = kidsP g R d q m a S ks
  | 0, 0, a, S, ks, _, _ => rfl
  | 0, m + 1, a, S, ks, h, _ => by unfold kidsP; rw [if_neg (by omega)]
  | n + 1, 0, a, S, ks, _, h => by unfold kidsP; rw [if_neg (by omega)]
  | n + 1, m + 1, a, S, ks, h1, h2 => by
    unfold kidsP
    split
    · next hlt =>
      have := runEnd_gt R d (q - a) a (by omega)
      exact kids_fuel R d q n m _ _ _ (by omega) (by omega)
    · rfl
theorem kids_step {g : Nat → Nat → St → St} {R : List PR} {d q a : Nat} {S : St} {ks : List (Int × Nat)} (h : a < q) :
    kidsP g R d q (q - a) a S ks = kidsP g R d q (q - runEnd R d (idAt R a d) (q - a) a) (runEnd R d (idAt R a d) (q - a) a) (g a (runEnd R d (idAt R a d) (q - a) a) S) (ks ++ [(idAt R a d, S.N.length)]) := by
  obtain ⟨n, hn⟩ : ∃ n, q - a = n + 1 := ⟨q - a - 1, by omega⟩
  have h1 := runEnd_gt R d (q - a) a (by omega)
  conv => lhs; rw [hn]; unfold kidsP
  rw [if_pos h]
  exact kids_fuel R d q _ _ _ _ _ (by omega) (Nat.le_refl _)
theorem kids_end {g : Nat → Nat → St → St} {R : List PR} {d q : Nat} {S : St} {ks : List (Int × Nat)} : kidsP g R d q (q - q) q S ks = (S, ks) := by
  rw [Nat.sub_self]; rfl
theorem idAt_append {R E : List PR} {e d : Nat} (h : e < R.length) : idAt (R ++ E) e d = idAt R e d := by
  have e1 : (R ++ E).getD e default = R.getD e default := by rw [List.getD_eq_getElem?_getD, List.getD_eq_getElem?_getD, List.getElem?_append_left h]
  unfold idAt
  rw [e1]
theorem starRecs_append {R E : List PR} {d p q : Nat} (h : q ≤ R.length) : starRecs (R ++ E) d p q = starRecs R d p q := by
  unfold starRecs
  rw [List.take_append_of_le_length h]
end Go.Proofs.Ythmaobmgogmaoaa
