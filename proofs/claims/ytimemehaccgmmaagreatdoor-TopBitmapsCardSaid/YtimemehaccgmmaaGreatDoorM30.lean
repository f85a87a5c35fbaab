/-
  Parts of the walks and their plain laws (K7 K8 K6 E31). No condition.
-/
import Derived.Test.YtimemehaccgmmaaGreatDoorM29
import Derived.Test.YtimemehaccgmmaaGreatDoorM11
namespace Go.Proofs.YtimemehaccgmmaaGreatDoor
open Go.RowKit
set_option linter.unusedSimpArgs false
set_option linter.unusedVariables false
noncomputable section
abbrev Pl := List Int × Int × List Fig
def ltP (x y : Pl) : Bool := decide (cmL x.1 y.1 < 0)
theorem ltP_swo : Swo ltP := ⟨fun x y h => by
  simp only [ltP, decide_eq_true_iff, decide_eq_false_iff_not] at h ⊢
  exact cmL_asym _ _ h, fun x y z h1 h2 => by
  simp only [ltP, decide_eq_false_iff_not] at h1 h2 ⊢
  exact cmL_neg _ _ _ h1 h2⟩
def srtP (L : List Pl) : List Pl := Classical.choose (stab_make ltP_swo L)
theorem srtP_ok (L : List Pl) : Stab ltP L (srtP L) := (Classical.choose_spec (stab_make ltP_swo L)).1
theorem srtP_uniq {L R : List Pl} (h : Stab ltP L R) : R = srtP L := Stab.uniq ltP_swo h (srtP_ok L)
/-- Records put together. -/
def togs (L : List Pl) : List Pl := togP (srtP L)
theorem togs_of {R R' : List Rec} (h : Stab ltK R R') : togP (R'.map Rec.pl) = togs (R.map Rec.pl) := by
  have h1 : Stab ltP (R.map Rec.pl) (R'.map Rec.pl) := stab_map (lt := ltP) ltP_swo Rec.pl h
  rw [srtP_uniq h1]; rfl
theorem tgS_len (a : List Pl) (r : Pl) : (tgS a r).length ≤ a.length + 1 := by
  unfold tgS
  split
  · next s h =>
    split
    · have : a ≠ [] := fun e => by rw [e] at h; cases h
      have := List.length_pos_iff.2 this
      simp; try omega
    · simp
  · simp
theorem tgF_len : ∀ (L a : List Pl), (L.foldl tgS a).length ≤ a.length + L.length
  | [], a => by simp
  | r :: L, a => by
    have h1 := tgF_len L (tgS a r)
    have h2 := tgS_len a r
    simp only [List.foldl_cons, List.length_cons]; omega
theorem togs_len (L : List Pl) : (togs L).length ≤ L.length := by
  have h := tgF_len (srtP L) []
  have h2 := (srtP_ok L).len ltP_swo
  simp only [List.length_nil, Nat.zero_add] at h
  unfold togs togP
  omega
/-- A node. -/
structure PN where
  d : Nat
  f : Nat
  t : Nat
  kids : List (Int × Nat)
instance : Inhabited PN := ⟨⟨0, 0, 0, []⟩⟩
/-- Records and nodes. -/
structure St where
  R : List Pl
  N : List PN
def idAt (R : List Pl) (e d : Nat) : Int := (R.getD e default).1.getD d 0
/-- Where the ids turn. -/
def runEnd (R : List Pl) (d : Nat) (id : Int) : Nat → Nat → Nat
  | 0, e => e
  | n + 1, e => if idAt R e d = id then runEnd R d id n (e + 1) else e
/-- The kids by ids. -/
def kidsP (g : Nat → Nat → St → St) (R : List Pl) (d q : Nat) : Nat → Nat → St → List (Int × Nat) → St × List (Int × Nat)
  | 0, _, S, ks => (S, ks)
  | n + 1, a, S, ks => if a < q then kidsP g R d q n (runEnd R d (idAt R a d) (q - a) a) (g a (runEnd R d (idAt R a d) (q - a) a) S) (ks ++ [(idAt R a d, S.N.length)]) else (S, ks)
def setKids (N : List PN) (n : Nat) (ks : List (Int × Nat)) : List PN := N.set n ⟨(N.getD n default).d, (N.getD n default).f, (N.getD n default).t, ks⟩
def starAt (d : Nat) (x : Pl) : Pl := (x.1.set d (-1), x.2)
/-- What the star kid's records are. -/
def starRecs (R : List Pl) (d p q : Nat) : List Pl := togs (((R.take q).drop p).map (starAt d))
def growP (leaf k : Nat) : Nat → Bool → Nat → Nat → St → St
  | 0, _, p, q, S => ⟨S.R, S.N ++ [⟨k, p, q, []⟩]⟩
  | f + 1, st, p, q, S =>
    if q - p ≤ leaf then ⟨S.R, S.N ++ [⟨k - (f + 1), p, q, []⟩]⟩
    else
      let r := kidsP (fun a e T => growP leaf k f st a e T) S.R (k - (f + 1)) q (q - p) p ⟨S.R, S.N ++ [⟨k - (f + 1), p, q, []⟩]⟩ []
      if st then ⟨r.1.R, setKids r.1.N S.N.length r.2⟩
      else
        let l := starRecs r.1.R (k - (f + 1)) p q
        let T := growP leaf k f true r.1.R.length (r.1.R.length + l.length) ⟨r.1.R ++ l, r.1.N⟩
        ⟨T.R, setKids T.N S.N.length (r.2 ++ [(-1, r.1.N.length)])⟩

theorem runEnd_bd (R : List Pl) (d : Nat) (id : Int) : ∀ n e, e ≤ runEnd R d id n e ∧ runEnd R d id n e ≤ e + n
  | 0, e => by simp [runEnd]
  | n + 1, e => by
    have := runEnd_bd R d id n (e + 1)
    unfold runEnd; split <;> omega
theorem runEnd_gt (R : List Pl) (d n a : Nat) (hn : 0 < n) : a < runEnd R d (idAt R a d) n a := by
  obtain ⟨m, rfl⟩ : ∃ m, n = m + 1 := ⟨n - 1, by omega⟩
  unfold runEnd
  rw [if_pos rfl]
  have := (runEnd_bd R d (idAt R a d) m (a + 1)).1
  omega
theorem runEnd_in (R : List Pl) (d : Nat) (id : Int) : ∀ n e j, e ≤ j → j < runEnd R d id n e → idAt R j d = id
  | 0, e, j, h1, h2 => by simp [runEnd] at h2; omega
  | n + 1, e, j, h1, h2 => by
    unfold runEnd at h2
    split at h2
    · next he =>
      by_cases hj : j = e
      · rw [hj]; exact he
      · exact runEnd_in R d id n (e + 1) j (by omega) h2
    · omega
theorem runEnd_out (R : List Pl) (d : Nat) (id : Int) : ∀ n e, runEnd R d id n e < e + n → idAt R (runEnd R d id n e) d ≠ id
  | 0, e, h => by simp [runEnd] at h
  | n + 1, e, h => by
    unfold runEnd at h ⊢
    split
    · next he =>
      rw [if_pos he] at h
      exact runEnd_out R d id n (e + 1) (by omega)
    · next he => exact he
theorem setKids_len (N : List PN) (n : Nat) (ks : List (Int × Nat)) : (setKids N n ks).length = N.length := by simp [setKids]
def St.Le (a b : St) : Prop := (∃ E, b.R = a.R ++ E) ∧ a.N.length ≤ b.N.length
theorem St.Le.refl (a : St) : St.Le a a := ⟨⟨[], by simp⟩, Nat.le_refl _⟩
theorem St.Le.trans {a b c : St} (h : St.Le a b) (k : St.Le b c) : St.Le a c := by
  obtain ⟨⟨E, h1⟩, h2⟩ := h
  obtain ⟨⟨F, k1⟩, k2⟩ := k
  exact ⟨⟨E ++ F, by rw [k1, h1, List.append_assoc]⟩, by omega⟩
theorem kids_le {g : Nat → Nat → St → St} (hg : ∀ a e T, St.Le T (g a e T)) (R : List Pl) (d q : Nat) : ∀ n a S ks, St.Le S (kidsP g R d q n a S ks).1
  | 0, a, S, ks => St.Le.refl _
  | n + 1, a, S, ks => by
    unfold kidsP
    split
    · exact (hg _ _ _).trans (kids_le hg R d q n _ _ _)
    · exact St.Le.refl _
theorem grow_le (leaf k : Nat) : ∀ f st p q S, St.Le S (growP leaf k f st p q S) ∧ S.N.length < (growP leaf k f st p q S).N.length
  | 0, st, p, q, S => by unfold growP; exact ⟨⟨⟨[], by simp⟩, by simp⟩, by simp⟩
  | f + 1, st, p, q, S => by
    have hk := kids_le (g := fun a e T => growP leaf k f st a e T) (fun a e T => (grow_le leaf k f st a e T).1) S.R (k - (f + 1)) q (q - p) p ⟨S.R, S.N ++ [⟨k - (f + 1), p, q, []⟩]⟩ []
    unfold growP
    split
    · exact ⟨⟨⟨[], by simp⟩, by simp⟩, by simp⟩
    · generalize kidsP (fun a e T => growP leaf k f st a e T) S.R (k - (f + 1)) q (q - p) p ⟨S.R, S.N ++ [⟨k - (f + 1), p, q, []⟩]⟩ [] = r at *
      obtain ⟨⟨E, h1⟩, h2⟩ := hk
      simp only [List.length_append, List.length_singleton] at h1 h2
      dsimp only
      split
      · exact ⟨⟨⟨E, h1⟩, by simp only [setKids_len]; omega⟩, by simp only [setKids_len]; omega⟩
      · have hT := grow_le leaf k f true r.1.R.length (r.1.R.length + (starRecs r.1.R (k - (f + 1)) p q).length) ⟨r.1.R ++ starRecs r.1.R (k - (f + 1)) p q, r.1.N⟩
        obtain ⟨⟨⟨F, h3⟩, h4⟩, h5⟩ := hT
        dsimp only at h3 h4 h5
        exact ⟨⟨⟨E ++ starRecs r.1.R (k - (f + 1)) p q ++ F, by rw [h3, h1]; simp⟩, by simp only [setKids_len]; omega⟩, by simp only [setKids_len]; omega⟩
/-- More rounds than needed are none. -/
theorem kids_fuel {g : Nat → Nat → St → St} (R : List Pl) (d q : Nat) : ∀ n m a S ks, q - a ≤ n → q - a ≤ m → kidsP g R d q n a S ks = kidsP g R d q m a S ks
  | 0, 0, a, S, ks, _, _ => rfl
  | 0, m + 1, a, S, ks, h, _ => by unfold kidsP; rw [if_neg (by omega)]
  | n + 1, 0, a, S, ks, _, h => by unfold kidsP; rw [if_neg (by omega)]
  | n + 1, m + 1, a, S, ks, h1, h2 => by
    unfold kidsP
    split
    · next hlt =>
      have := runEnd_gt R d (q - a) a (by omega)
      exact kids_fuel R d q n m _ _ _ (by omega) (by omega)
    · rfl
theorem kids_step {g : Nat → Nat → St → St} {R : List Pl} {d q a : Nat} {S : St} {ks : List (Int × Nat)} (h : a < q) :
    kidsP g R d q (q - a) a S ks = kidsP g R d q (q - runEnd R d (idAt R a d) (q - a) a) (runEnd R d (idAt R a d) (q - a) a) (g a (runEnd R d (idAt R a d) (q - a) a) S) (ks ++ [(idAt R a d, S.N.length)]) := by
  obtain ⟨n, hn⟩ : ∃ n, q - a = n + 1 := ⟨q - a - 1, by omega⟩
  have h1 := runEnd_gt R d (q - a) a (by omega)
  conv => lhs; rw [hn]; unfold kidsP
  rw [if_pos h]
  exact kids_fuel R d q _ _ _ _ _ (by omega) (Nat.le_refl _)
theorem kids_end {g : Nat → Nat → St → St} {R : List Pl} {d q : Nat} {S : St} {ks : List (Int × Nat)} : kidsP g R d q (q - q) q S ks = (S, ks) := by
  rw [Nat.sub_self]; rfl
theorem idAt_append {R E : List Pl} {e d : Nat} (h : e < R.length) : idAt (R ++ E) e d = idAt R e d := by
  have e1 : (R ++ E).getD e default = R.getD e default := by rw [List.getD_eq_getElem?_getD, List.getD_eq_getElem?_getD, List.getElem?_append_left h]
  unfold idAt
  rw [e1]
theorem starRecs_append {R E : List Pl} {d p q : Nat} (h : q ≤ R.length) : starRecs (R ++ E) d p q = starRecs R d p q := by
  unfold starRecs
  rw [List.take_append_of_le_length h]
theorem star_len (R : List Pl) (d p q : Nat) : (starRecs R d p q).length ≤ q - p := by
  have := togs_len (((R.take q).drop p).map (starAt d))
  rw [List.length_map, List.length_drop, List.length_take] at this
  unfold starRecs
  omega
theorem kids_bound {g : Nat → Nat → St → St} {c C : Nat} (hg : ∀ a e T, a < e → (g a e T).R.length ≤ T.R.length + c * (e - a) ∧ (g a e T).N.length ≤ T.N.length + C * (e - a + 1)) (R : List Pl) (d q : Nat) :
    ∀ n a S ks, q - a ≤ n → (kidsP g R d q n a S ks).1.R.length ≤ S.R.length + c * (q - a) ∧ (kidsP g R d q n a S ks).1.N.length ≤ S.N.length + C * (2 * (q - a))
  | 0, a, S, ks, h => by unfold kidsP; exact ⟨Nat.le_add_right _ _, Nat.le_add_right _ _⟩
  | n + 1, a, S, ks, h => by
    unfold kidsP
    split
    · next hlt =>
      have h1 := runEnd_gt R d (q - a) a (by omega)
      have h2 := (runEnd_bd R d (idAt R a d) (q - a) a).2
      generalize runEnd R d (idAt R a d) (q - a) a = e at *
      obtain ⟨i1, i2⟩ := kids_bound hg R d q n e (g a e S) (ks ++ [(idAt R a d, S.N.length)]) (by omega)
      obtain ⟨j1, j2⟩ := hg a e S h1
      have e1 : c * (e - a) + c * (q - e) = c * (q - a) := by rw [← Nat.mul_add]; congr 1; omega
      have e2 : C * (e - a + 1) + C * (2 * (q - e)) ≤ C * (2 * (q - a)) := by rw [← Nat.mul_add]; exact Nat.mul_le_mul_left _ (by omega)
      refine ⟨Nat.le_trans i1 ?_, Nat.le_trans i2 ?_⟩
      · omega
      · omega
    · exact ⟨Nat.le_add_right _ _, Nat.le_add_right _ _⟩
theorem grow_bound (leaf k : Nat) : ∀ f st p q S, p ≤ q → (growP leaf k f st p q S).R.length ≤ S.R.length + (if st then 0 else f) * (q - p) ∧ (growP leaf k f st p q S).N.length ≤ S.N.length + 4 ^ f * (q - p + 1)
  | 0, st, p, q, S, h => by
    unfold growP
    refine ⟨by simp, ?_⟩
    simp
  | f + 1, st, p, q, S, h => by
    have hC : 1 ≤ 4 ^ f := Nat.one_le_pow _ _ (by omega)
    have hCs : 4 ^ (f + 1) = 4 * 4 ^ f := by rw [Nat.pow_succ, Nat.mul_comm]
    rw [hCs]
    have hk := kids_bound (g := fun a e T => growP leaf k f st a e T) (c := if st then 0 else f) (C := 4 ^ f) (fun a e T hae => grow_bound leaf k f st a e T (by omega)) S.R (k - (f + 1)) q (q - p) p ⟨S.R, S.N ++ [⟨k - (f + 1), p, q, []⟩]⟩ [] (Nat.le_refl _)
    have hT := fun (r : St × List (Int × Nat)) => grow_bound leaf k f true r.1.R.length (r.1.R.length + (starRecs r.1.R (k - (f + 1)) p q).length) ⟨r.1.R ++ starRecs r.1.R (k - (f + 1)) p q, r.1.N⟩ (by omega)
    generalize 4 ^ f = C at *
    have hm : C * 1 ≤ C * (q - p + 1) := Nat.mul_le_mul_left _ (by omega)
    unfold growP
    split
    · refine ⟨by simp, ?_⟩
      simp only [List.length_append, List.length_singleton]
      have : 1 ≤ 4 * C * (q - p + 1) := by
        have := Nat.mul_le_mul (Nat.mul_le_mul (Nat.le_refl 4) hC) (show 1 ≤ q - p + 1 by omega)
        omega
      omega
    · generalize kidsP (fun a e T => growP leaf k f st a e T) S.R (k - (f + 1)) q (q - p) p ⟨S.R, S.N ++ [⟨k - (f + 1), p, q, []⟩]⟩ [] = r at *
      obtain ⟨h1, h2⟩ := hk
      simp only [List.length_append, List.length_singleton] at h1 h2
      obtain ⟨h3, h4⟩ := hT r
      have h5 := star_len r.1.R (k - (f + 1)) p q
      simp only [List.length_append, Nat.add_sub_cancel_left, if_true, Nat.zero_mul, Nat.add_zero] at h3 h4
      have h6 : C * ((starRecs r.1.R (k - (f + 1)) p q).length + 1) ≤ C * (q - p + 1) := Nat.mul_le_mul_left _ (by omega)
      have h7 : C * (2 * (q - p)) + C * (q - p + 1) + 1 ≤ 4 * C * (q - p + 1) := by
        have e1 : C * (2 * (q - p)) + C * (q - p + 1) + C * 1 ≤ 4 * C * (q - p + 1) := by
          rw [← Nat.mul_add, ← Nat.mul_add, Nat.mul_comm 4 C, Nat.mul_assoc]
          exact Nat.mul_le_mul_left _ (by omega)
        omega
      dsimp only
      cases st
      · simp only [Bool.false_eq_true, if_false, setKids_len] at h1 ⊢
        have e2 : (f + 1) * (q - p) = f * (q - p) + (q - p) := Nat.succ_mul _ _
        exact ⟨by omega, by omega⟩
      · simp only [if_true, setKids_len, Nat.zero_mul] at h1 ⊢
        have : 0 ≤ C * (q - p + 1) := Nat.zero_le _
        exact ⟨by omega, by omega⟩
end
end Go.Proofs.YtimemehaccgmmaaGreatDoor
namespace Go.Proofs.YtimemehaccgmmaaGreatDoor
open Go.RowKit
set_option maxRecDepth 100000
set_option linter.unusedVariables false
set_option linter.unusedSimpArgs false
noncomputable section
theorem ixJ : IxT 218 fj 1 (fun x : Nat => .int .i64 x) := fun hJ hcl hb => ixf hJ hcl hb
theorem ixI2 : IxT 219 (fNs (α := Int)) 1 (fun x : Q2 × List Int => .slice x.1.1 x.2.length x.1.2) := fun hJ hcl hb => ixf hJ hcl hb
/-- What a star-tree is made of. -/
structure StOk (sp : List (Q2 × List Nat)) (many : List Nat) (ms : List (Q2 × List Int)) (leaf n : Nat) : Prop where
  k1 : 1 ≤ sp.length
  k8 : sp.length ≤ 4
  ml : many.length = sp.length
  mb : ms.length ≤ 20
  l1 : 1 ≤ leaf
  l2 : leaf ≤ 1000000
  nb : n ≤ 60
  sl : ∀ a ∈ sp, a.2.length = n
  tl : ∀ a ∈ ms, a.2.length = n
  mm : ∀ x ∈ many, x ≤ 1000
  id : ∀ (j : Nat) (a : Q2 × List Nat) (m : Nat), sp[j]? = some a → many[j]? = some m → ∀ x ∈ a.2, x < m
section
variable {J : List (World → Prop)} {H : List RC} {ad ad2 ad3 : Option Addr} {cap cap2 cap3 : Nat} {sp : List (Q2 × List Nat)} {many : List Nat} {ms : List (Q2 × List Int)} {leaf n : Nat}
theorem cNoJ {g : Nat} {cb : List Value} {xs : List Nat} (hJ : Ent J (Rs fj 1 ad cap xs) := by exact jA) (hcl : ClT g cb J H xs (fun x : Nat => .int .i64 x) (fun _ => false)) (hb : xs.length ≤ 1000) :
    Tr TP 151 [.slice ad xs.length cap, .func (.func g) #[] ⟨cb⟩] (Ctx J H) (fun _ : Unit => .bool false) (fun _ => True) (fun _ => Ctx J H) := by
  refine en0 Tryz.func151 rfl rfl rfl (go ?_)
  refine ca (ixJ (hJ := hJ) (hcl := hcl)) fun _ _ => ?_
  rw [ixF_none fun _ _ => rfl]
  refine go ?_
  exact rt () trivial rfl (fun _ h => h)
theorem cNoI {g : Nat} {cb : List Value} {xs : List (Q2 × List Int)} (hJ : Ent J (Rs fNs 1 ad cap xs) := by exact jA) (hcl : ClT g cb J H xs (fun x : Q2 × List Int => .slice x.1.1 x.2.length x.1.2) (fun _ => false)) (hb : xs.length ≤ 1000) :
    Tr TP 152 [.slice ad xs.length cap, .func (.func g) #[] ⟨cb⟩] (Ctx J H) (fun _ : Unit => .bool false) (fun _ => True) (fun _ => Ctx J H) := by
  refine en0 Tryz.func152 rfl rfl rfl (go ?_)
  refine ca (ixI2 (hJ := hJ) (hcl := hcl)) fun _ _ => ?_
  rw [ixF_none fun _ _ => rfl]
  refine go ?_
  exact rt () trivial rfl (fun _ h => h)
theorem cOdd {b c j x : Nat} (hj : j < many.length) (hx' : x < many[j]) (hmb : many.length ≤ 20) (hJ : Ent J (pt b 24 [.slice ad many.length cap]).A) (hJ2 : Ent J (pt c 3 [.int .i64 j]).A) (hJ3 : Ent J (Rs fj 1 ad cap many)) :
    Tr TP 150 [.int .i64 x, pb b, pb c] (Ctx J H) (fun _ : Unit => .bool false) (fun _ => True) (fun _ => Ctx J H) := by
  refine en0 Tryz.func150 rfl rfl rfl (addJ hJ (addJ (fun w h => hJ2 w h.2) (addJ (fun w h => hJ3 w h.2.2) (go ?_))))
  rw [show decide ((many[j] : Int) ≤ (x : Int)) = false by simp; omega]
  exact rt () trivial rfl (fun _ h => h.ent fun _ j => j.2.2.2)
theorem cOddL {b n : Nat} {x : Q2 × List Int} (hl : x.2.length = n) (hnb : n ≤ 60) (hJ : Ent J (pt b 3 [.int .i64 n]).A) :
    Tr TP 153 [.slice x.1.1 x.2.length x.1.2, pb b] (Ctx J H) (fun _ : Unit => .bool false) (fun _ => True) (fun _ => Ctx J H) := by
  refine en0 Tryz.func153 rfl rfl rfl (addJ hJ (go ?_))
  rw [show decide ((x.2.length : Int) ≠ (n : Int)) = false by simp [hl]]
  exact rt () trivial rfl (fun _ h => h.ent fun _ j => j.2)
set_option maxHeartbeats 4000000 in
theorem cStMay (h : StOk sp many ms leaf n) (hJ : Ent J (Rs fNs 1 ad cap sp) := by exact jA) (hJ2 : Ent J (AllR fj 1 sp) := by exact jA) (hJ3 : Ent J (Rs fj 1 ad2 cap2 many) := by exact jA) (hJ4 : Ent J (Rs fNs 1 ad3 cap3 ms) := by exact jA) :
    Tr TP 81 [.slice ad sp.length cap, .slice ad2 many.length cap2, .slice ad3 ms.length cap3, .int .i64 leaf] (Ctx J H) (fun _ : Unit => .bool true) (fun _ => True) (fun _ => Ctx J H) := by
  have h1 := h.k1
  have h2 := h.k8
  have h3 := h.ml
  have h4 := h.mb
  have h5 := h.l1
  have h6 := h.l2
  have h7 := h.nb
  refine en0 Tryz.func81 rfl rfl rfl (addJ hJ (addJ (fun w h => hJ2 w h.2) (addJ (fun w h => hJ3 w h.2.2) (addJ (fun w h => hJ4 w h.2.2.2) (go ?_)))))
  intro b1
  refine ⟨fun h => absurd h (by omega), fun _ => ?_⟩
  refine fzp (go ?_)
  intro c
  rw [show (sp[0]'(by omega)).2.length = n from h.sl _ (List.getElem_mem _)]
  refine fzp (go ?_)
  refine lp (X := Nat) (fun k => k ≤ sp.length) (fun k => [(2, .slice ad3 ms.length cap3), (5, pb b1), (9, pb c), (45, .slice ad sp.length cap), (46, .int .i64 sp.length), (47, .int .i64 k)])
    (fun k => Ctx ((pt c 3 [.int .i64 n]).A :: (pt b1 24 [.slice ad2 many.length cap2]).A :: Rs fNs 1 ad3 cap3 ms :: Rs fj 1 ad2 cap2 many :: AllR fj 1 sp :: Rs fNs 1 ad cap sp :: J) H) (fun k => sp.length - k) 0 (by omega) rfl (fun _ h => h) fun k hk => ?_
  refine go ?_
  refine ⟨fun g1 => ?_, fun g1 => ?_⟩
  · have hk1 : k < sp.length := by omega
    have hk2 : k < many.length := by omega
    have hsl := h.sl _ (List.getElem_mem hk1)
    have hmk := h.mm _ (List.getElem_mem hk2)
    have hid := h.id k _ _ (List.getElem?_eq_getElem hk1) (List.getElem?_eq_getElem hk2)
    refine go ?_
    intro d
    refine fzpc ?_
    refine cg (cNoJ (xs := sp[k].2) (hJ := by exact fun w j => j.2.2.2.2.2.1.at hk1) (hcl := fun J' hJ' x hx => cOdd (j := k) (many := many) hk2 (hid x hx) (by omega) (by exact fun w j => (hJ' w j).2.2.1) (by exact fun w j => (hJ' w j).1) (by exact fun w j => (hJ' w j).2.2.2.2.1)) (by omega)) fun _ _ => ?_
    exact en (k + 1) (by omega) rfl (fun _ h => h.ent fun _ j => j.2)
  · obtain rfl : k = sp.length := by omega
    refine go ?_
    refine cg (cNoI (hcl := fun J' hJ' x hx => cOddL (n := n) (h.tl x hx) h7 (by exact fun w j => (hJ' w j).1)) (hb := by omega)) fun _ _ => ?_
    exact rt () trivial rfl (fun _ h => h.ent fun _ j => j.2.2.2.2.2.2)
end
end
end Go.Proofs.YtimemehaccgmmaaGreatDoor
namespace Go.Proofs.YtimemehaccgmmaaGreatDoor
open Go.RowKit
set_option maxRecDepth 100000
set_option linter.unusedVariables false
set_option linter.unusedSimpArgs false
noncomputable section
section
variable {P : Program} {o : Oper} {L : Env} {ad : Option Addr} {sz cap : Nat}
/-- An element's place, of a slice whose address is told. -/
theorem qIxM {i m : Nat} {ty : TypeId} {x y : Operand} {kk : IntKind} (hp : ad = some ⟨ab ad, ao ad, none⟩) (hi : i < m) (ho : o.op = .indexAddr ty x y) (hx : ev L x = some (.slice ad m cap)) (hy : ev L y = some (.int kk (i : Int))) (ht : esz P ty = some sz) : OQ P o L none (.pointer (some ⟨ab ad, ao ad + i * sz, none⟩)) :=
  ⟨by rw [ho]; rfl, fun ρ w hρ _ => by
    have := run_ix (P := P) (cap := cap) (kk := kk) ht hi hp w
    simp only [execOp, ho, hρ _ _ hx, hρ _ _ hy, Sem.run_bind, this]; rfl⟩
end
/-- The last record's figures, that may change. -/
abbrev tlF (l : Option Rec) : RC := match l with | none => sl fFig 3 142 none 0 [] | some r => sl fFig 3 142 r.q.1 r.q.2 r.f
theorem sl_cg {α : Type} {f : α → List Value} {sz cap : Nat} {e : TypeId} {ad : Option Addr} {l l' : List α} (h : l.flatMap f = l'.flatMap f) (hl : l.length = l'.length) : sl f sz e ad cap l = sl f sz e ad cap l' := by
  have h0 : l = [] ↔ l' = [] := by rw [← List.length_eq_zero_iff, ← List.length_eq_zero_iff, hl]
  unfold sl OwnS
  simp only [h, hl, h0]
theorem tog_step {R : List Rec} {k : Nat} (h : k < R.length) : togP ((R.take (k + 1)).map Rec.pl) = tgS (togP ((R.take k).map Rec.pl)) R[k].pl := by
  rw [← List.take_append_getElem h, List.map_append]
  simp only [togP, List.foldl_append, List.map_cons, List.map_nil, List.foldl_cons, List.foldl_nil]
theorem tgS_new {o : List Rec} {r x : Rec} (h : eq8 r.a x.a = false) : tgS ((o ++ [r]).map Rec.pl) x.pl = (o ++ [r]).map Rec.pl ++ [x.pl] := by
  rw [eq8_ids, decide_eq_false_iff_not] at h
  simp [tgS, Rec.pl, h]
theorem tgS_old {o : List Rec} {r x : Rec} (h : eq8 r.a x.a = true) : tgS ((o ++ [r]).map Rec.pl) x.pl = o.map Rec.pl ++ [addR r.pl x.pl] := by
  rw [eq8_ids, decide_eq_true_iff] at h
  simp [tgS, Rec.pl, h]
/-- A record whose figures lie elsewhere. -/
abbrev Rec.wq (x : Rec) (q : Q2) : Rec := ⟨x.a, x.n, q, x.f⟩
section
variable {J : List (World → Prop)} {H : List RC} {ad : Option Addr} {cap nf : Nat} {R : List Rec}
set_option maxHeartbeats 4000000 in
theorem cTog (hR : ∀ x ∈ R, x.f.length = nf) (hnf : nf ≤ 256) (hb : R.length ≤ 100) (hJ : Ent J (AllE figJ R) := by exact jA) :
    Tr TP 82 [.slice ad R.length cap] (Ctx J (sl fRec 10 139 ad cap R :: H)) (fun x : Q2 × List Rec => .slice x.1.1 x.2.length x.1.2) (fun x => ∃ R', Stab ltK R R' ∧ x.2.map Rec.pl = togP (R'.map Rec.pl)) (fun x => Ctx (AllE figJ x.2 :: J) (sl fRec 10 139 x.1.1 x.1.2 x.2 :: H)) := by
  refine en0 Tryz.func82 rfl rfl rfl (addJ hJ (go ?_))
  refine ca (sortRec ltK_swo (cb := []) (g := 155) cCmpRec R rfl (by omega) (fun _ _ => trivial)) fun R' hR' => ?_
  have hlen : R'.length = R.length := hR'.len ltK_swo
  have hmem : ∀ x, x ∈ R' ↔ x ∈ R := fun x => (hR'.perm ltK_swo).mem_iff
  have hR2 : ∀ x ∈ R', x.f.length = nf := fun x hx => hR x ((hmem x).1 hx)
  rw [← hlen]
  refine fz (pre (C := Ctx _ _) (C' := Ctx (Rs fRec 10 ad cap R' :: AllE figJ R' :: J) H) (fun w h => h.ent fun _ j => ⟨j.1, fun x hx => j.2.1 x ((hmem x).1 hx), j.2.2⟩) ?_)
  refine go ?_
  refine lp (X := Nat × Q2 × List Rec × Option Rec) (fun x => x.1 ≤ R'.length ∧ (x.2.2.1 ++ x.2.2.2.toList).map Rec.pl = togP ((R'.take x.1).map Rec.pl) ∧ (x.2.2.2 = none → x.2.2.1 = []) ∧ (∀ r, x.2.2.2 = some r → r.f.length = nf) ∧ x.2.2.1.length ≤ x.1 ∧ (x.2.2.1 ++ x.2.2.2.toList).length ≤ x.1)
    (fun (k, q, o, l) => [(0, .slice ad R'.length cap), (2, .slice q.1 (o ++ l.toList).length q.2), (11, .slice ad R'.length cap), (12, .int .i64 R'.length), (13, .int .i64 k)])
    (fun (k, q, o, l) => Ctx (AllE figJ o :: Rs fRec 10 ad cap R' :: AllE figJ R' :: J) (sl fRec 10 139 q.1 q.2 (o ++ l.toList) :: tlF l :: H)) (fun x => R'.length - x.1) (0, (none, 0), [], none) (by simp [togP]) rfl (fun _ h => Ctx.nl (Ctx.nl (h.ent fun _ j => ⟨(fun _ h => nomatch h), j⟩))) fun ⟨k, q, o, l⟩ ⟨hk, he, hn, hf, ho1, ho2⟩ => ?_
  dsimp only at hk he hn hf ho1 ho2
  refine go ?_
  refine ⟨fun h1 => ?_, fun h1 => ?_⟩
  · have hk1 : k < R'.length := by omega
    cases l with
    | none =>
      obtain rfl := hn rfl
      refine go ?_
      intro b
      refine cg (cClF (xs := R'[k].f) (hb := by rw [hR2 _ (List.getElem_mem hk1)]; omega) (hJ := fun w j => j.2.2.1 _ (List.getElem_mem hk1))) fun S _ => ?_
      intro c
      refine hx rfl rfl rfl (oAp1 (k := 2) (f := fRec) (y := (R'[k].wq S)) rfl rfl rfl ln rfl rfl rfl rfl om (fun _ => rfl)) ?_
      intro q2
      refine go ?_
      refine en (k + 1, q2, [], some (R'[k].wq S)) ⟨⟨by dsimp only; omega, ?_, by simp, fun r hr => ?_, by simp, by simp⟩, by dsimp only; omega⟩ rfl ?_
      · show ([R'[k].wq S]).map Rec.pl = _
        rw [tog_step hk1, ← he]; rfl
      · obtain rfl : _ = r := Option.some.inj hr
        exact hR2 R'[k] (List.getElem_mem hk1)
      · intro w h
        exact Ctx.perm ((h.drp 1).drp 2) (List.Perm.swap ..)
    | some r =>
      have hl1 : (o ++ (some r).toList).length = o.length + 1 := by simp
      have hfr := hf r rfl
      refine go ?_
      intro b
      rw [hl1, show ((o.length + 1 : Nat) : Int) - 1 = (o.length : Int) by omega, show decide ((o.length : Int) < 0) = false by simp]
      have g0 : ∀ h, (o ++ (some r).toList)[o.length]'h = r := fun h => g_at (Q := o) (Z := []) rfl rfl h
      generalize hX : o ++ (some r).toList = X at hl1 g0 he ho2 ⊢
      refine go ?_
      rw [g0]
      refine kq (fun o => match o.dst with | some 30 => true | _ => false) rfl ?_
      refine qN (qNeA (a := r.a) (b := R'[k].a) rfl rfl rfl) (fun _ _ => trivial) rfl rfl rfl ?_
      refine dA rfl ?_
      refine go ?_
      refine ⟨fun h2 => ?_, fun h2 => ?_⟩
      · refine go ?_
        refine cg (cClF (xs := R'[k].f) (hb := by rw [hR2 _ (List.getElem_mem hk1)]; omega) (hJ := fun w j => j.2.2.1 _ (List.getElem_mem hk1))) fun S _ => ?_
        intro c
        rw [← hl1]
        refine hx rfl rfl rfl (oAp1 (k := 2) (f := fRec) (y := R'[k].wq S) rfl rfl rfl ln rfl rfl rfl rfl om (fun _ => rfl)) ?_
        intro q2
        refine go ?_
        refine en (k + 1, q2, o ++ [r], some (R'[k].wq S)) ⟨⟨by dsimp only; omega, ?_, by simp, fun r hr => ?_, by simp; omega, by simp; omega⟩, by dsimp only; omega⟩ (by subst hX; rfl) ?_
        · show ((o ++ [r]) ++ [R'[k].wq S]).map Rec.pl = _
          subst hX
          rw [tog_step hk1, ← he]
          have := tgS_new (o := o) (x := R'[k]) (by simpa using h2)
          rw [List.map_append]
          exact this.symm
        · obtain rfl : _ = r := Option.some.inj hr
          exact hR2 R'[k] (List.getElem_mem hk1)
        · intro w h
          subst hX
          have h3 := h.drp 1
          have h4 := h3.perm (((List.Perm.swap _ _ _).trans ((List.Perm.swap _ _ _).cons _)).trans (List.Perm.swap _ _ _))
          exact h4.fzS.ent fun _ j => ⟨AllE.snoc (F := figJ) (a := r) j.2.1 j.1, j.2.2⟩
      · refine purC (fun w h => own_ad (show OwnS fRec 10 w 0 139 q.1 q.2 X from h.at (k := 1) rfl) (i := o.length) (by omega)) fun hp => ?_
        refine gpl ?_
        refine dIx (i := o.length) (m := (o ++ (some r).toList).length) hp (by simp) (dA rfl ?_)
        refine kq (fun o => match o.dst with | some 46 => true | _ => false) rfl ?_
        refine qN (qLd rfl rfl rfl) (fun _ h => h.at (k := 0) rfl) rfl rfl rfl (dA rfl ?_)
        refine kq (fun o => match o.dst with | some 44 => true | _ => false) rfl ?_
        refine qX (oLfS (k := 1) rfl rfl rfl (by omega) rfl) rfl rfl rfl rfl af ?_
        intro _
        refine dA rfl ?_
        rw [g0]
        refine kq (fun o => match o.dst with | some 47 => true | _ => false) rfl ?_
        refine qN (qWr rfl rfl rfl) (fun _ _ => trivial) rfl rfl rfl (dA rfl ?_)
        refine dIx (i := o.length) (m := (o ++ (some r).toList).length) hp (by simp) (dA rfl ?_)
        refine kq (kB 3) rfl ?_
        refine qC0 (oSf (f := fRec) (xs := X) (k := 1) (i := o.length) (y := (⟨r.a, IntKind.i64.wrap (r.n + R'[k].n), r.q, r.f⟩ : Rec)) rfl rfl rfl rfl (by omega) (by rw [g0]; rfl) rfl rfl rfl) rfl rfl rfl rfl af (dA rfl ?_)
        refine go ?_
        refine pre (C := Ctx _ _) (C' := Ctx (Rs fFig 3 R'[k].q.1 R'[k].q.2 R'[k].f :: AllE figJ o :: Rs fRec 10 ad cap R' :: AllE figJ R' :: J) (sl fRec 10 139 q.1 q.2 (X.set o.length (⟨r.a, IntKind.i64.wrap (r.n + R'[k].n), r.q, r.f⟩ : Rec)) :: sl fFig 3 142 r.q.1 r.q.2 r.f :: H)) (fun w h => (h.drp 0).ent fun _ j => ⟨j.2.2.1 _ (List.getElem_mem hk1), j⟩) ?_
        have hX1 : X.set o.length (⟨r.a, IntKind.i64.wrap (r.n + R'[k].n), r.q, r.f⟩ : Rec) = o ++ [⟨r.a, IntKind.i64.wrap (r.n + R'[k].n), r.q, r.f⟩] := by
          rw [← hX]; simp
        have hfk := hR2 R'[k] (List.getElem_mem hk1)
        generalize hW : X.set o.length (⟨r.a, IntKind.i64.wrap (r.n + R'[k].n), r.q, r.f⟩ : Rec) = W at hX1 ⊢
        have hWl : W.length = o.length + 1 := by rw [hX1]; simp
        have g1 : ∀ h, W[o.length]'h = (⟨r.a, IntKind.i64.wrap (r.n + R'[k].n), r.q, r.f⟩ : Rec) := fun h => g_at (Q := o) (Z := []) hX1 rfl h
        have hzl : (List.zipWith addF r.f R'[k].f).length = nf := by rw [List.length_zipWith, hfr, hfk, Nat.min_self]
        refine lp (X := Nat) (fun i => i ≤ nf) (fun i => [(0, .slice ad R'.length cap), (2, .slice q.1 (o ++ (some r).toList).length q.2), (5, .int .i64 o.length), (11, .slice ad R'.length cap), (12, .int .i64 R'.length), (13, .int .i64 k), (51, .slice R'[k].q.1 R'[k].f.length R'[k].q.2), (52, .int .i64 R'[k].f.length), (53, .int .i64 i)])
          (fun i => Ctx (Rs fFig 3 R'[k].q.1 R'[k].q.2 R'[k].f :: AllE figJ o :: Rs fRec 10 ad cap R' :: AllE figJ R' :: J) (sl fRec 10 139 q.1 q.2 W :: sl fFig 3 142 r.q.1 r.q.2 ((List.zipWith addF r.f R'[k].f).take i ++ r.f.drop i) :: H)) (fun i => nf - i) 0 (by omega) rfl (fun _ h => by simpa using h) fun i hi => ?_
        refine go ?_
        refine ⟨fun h3 => ?_, fun h3 => ?_⟩
        · have hi1 : i < nf := by omega
          have hFl : ((List.zipWith addF r.f R'[k].f).take i ++ r.f.drop i).length = nf := by rw [List.length_append, List.length_take, List.length_drop, hzl, hfr]; omega
          have g2 : ∀ h : i < ((List.zipWith addF r.f R'[k].f).take i ++ r.f.drop i).length, ((List.zipWith addF r.f R'[k].f).take i ++ r.f.drop i)[i]'h = r.f[i]'(by omega) := fun h => by
            rw [List.getElem_append_right (by rw [List.length_take, hzl]; omega)]
            simp only [List.getElem_drop, List.length_take, hzl, Nat.min_eq_left hi, Nat.sub_self, Nat.add_zero]
          have e3 : ((List.zipWith addF r.f R'[k].f).take i ++ r.f.drop i).set i (addF (r.f[i]'(by omega)) (R'[k].f[i]'(by omega))) = (List.zipWith addF r.f R'[k].f).take (i + 1) ++ r.f.drop (i + 1) := by
            rw [List.set_append_right _ _ (by rw [List.length_take, hzl]; omega), List.length_take, hzl, Nat.min_eq_left hi, Nat.sub_self, List.drop_eq_getElem_cons (show i < r.f.length by omega), List.set_cons_zero, ← List.take_append_getElem (show i < (List.zipWith addF r.f R'[k].f).length by omega), List.getElem_zipWith]
            simp
          obtain ⟨F, hF⟩ : ∃ F, F = (List.zipWith addF r.f R'[k].f).take i ++ r.f.drop i := ⟨_, rfl⟩
          rw [← hF] at hFl e3 ⊢
          have g3 : ∀ h : i < F.length, F[i] = r.f[i]'(by omega) := by subst hF; exact g2
          refine go ?_
          intro b2
          refine go ?_
          rw [g1]
          refine go ?_
          have e4 : F.set i (addF (F[i]'(by omega)) (R'[k].f[i]'(by omega))) = (List.zipWith addF r.f R'[k].f).take (i + 1) ++ r.f.drop (i + 1) := by rw [g3, e3]
          refine hA0 rfl rfl (oSe0 (f := fFig) (k := 2) (i := i) (y := addF (F[i]'(by omega)) (R'[k].f[i]'(by omega))) rfl rfl rfl rfl (by omega) rfl rfl rfl rfl) rfl ?_
          refine go ?_
          exact en (i + 1) (by omega) rfl (fun w h => by rw [e4] at h; exact h.rest)
        · obtain rfl : i = nf := by omega
          refine go ?_
          have e5 : (List.zipWith addF r.f R'[k].f).take i ++ r.f.drop i = List.zipWith addF r.f R'[k].f := by rw [List.take_of_length_le (by omega), List.drop_of_length_le (by omega), List.append_nil]
          refine en (k + 1, q, o, some ⟨r.a, IntKind.i64.wrap (r.n + R'[k].n), r.q, List.zipWith addF r.f R'[k].f⟩) ⟨⟨by dsimp only; omega, ?_, by simp, fun r2 hr => ?_, by dsimp only; omega, ?_⟩, by dsimp only; omega⟩ (by simp only [List.length_append, Option.toList_some, List.length_cons, List.length_nil]; rfl) ?_
          · show (o ++ [_]).map Rec.pl = _
            subst hX
            rw [tog_step hk1, ← he]
            have := tgS_old (o := o) (r := r) (x := R'[k]) (by simpa using h2)
            rw [List.map_append]
            exact this.symm
          · obtain rfl : _ = r2 := Option.some.inj hr
            exact hzl
          · rw [hl1] at ho2
            simp
            omega
          · intro w h
            rw [e5, hX1] at h
            have e6 := sl_cg (f := fRec) (sz := 10) (e := 139) (ad := q.1) (cap := q.2) (l := o ++ [⟨r.a, IntKind.i64.wrap (r.n + R'[k].n), r.q, r.f⟩]) (l' := o ++ [⟨r.a, IntKind.i64.wrap (r.n + R'[k].n), r.q, List.zipWith addF r.f R'[k].f⟩]) (by simp [fRec, hfr, hfk]) (by simp)
            rw [e6] at h
            exact h.ent fun _ j => j.2
  · obtain rfl : k = R'.length := by omega
    refine go ?_
    cases l with
    | none =>
      obtain rfl := hn rfl
      refine rt (q, []) ⟨R', hR', by rw [List.take_length] at he; exact he⟩ rfl ?_
      intro w h
      exact (Ctx.perm h (List.Perm.swap ..)).rest.ent fun _ j => ⟨j.1, j.2.2.2⟩
    | some r =>
      refine rt (q, o ++ [r]) ⟨R', hR', by rw [List.take_length] at he; exact he⟩ rfl ?_
      intro w h
      exact (Ctx.perm h (List.Perm.swap ..)).fzS.ent fun _ j => ⟨AllE.snoc (F := figJ) (a := r) j.2.1 ⟨j.1.1, j.1.2.1, j.1.2.2⟩, j.2.2.2.2⟩
end
end
end Go.Proofs.YtimemehaccgmmaaGreatDoor
namespace Go.Proofs.YtimemehaccgmmaaGreatDoor
open Go.RowKit
set_option maxRecDepth 100000
set_option linter.unusedSimpArgs false
set_option linter.unusedVariables false
noncomputable section
/-- Some blocks are as they were in another world. -/
def rsW (w0 : World) : List Nat → World → World
  | [], w => w
  | b :: S, w => match w0.heap[b]? with | some o => (rsW w0 S w).putObj b o | none => rsW w0 S w
theorem rsW_same (w0 : World) : ∀ (S : List Nat) (w : World), (rsW w0 S w).os = w.os ∧ (rsW w0 S w).tape = w.tape ∧ (rsW w0 S w).output = w.output ∧ (rsW w0 S w).heap.size = w.heap.size ∧ (rsW w0 S w).drawn = w.drawn
  | [], w => ⟨rfl, rfl, rfl, rfl, rfl⟩
  | b :: S, w => by
    have ih := rsW_same w0 S w
    unfold rsW
    split
    · exact ⟨ih.1, ih.2.1, ih.2.2.1, by simpa using ih.2.2.2.1, ih.2.2.2.2⟩
    · exact ih
theorem rsW_out (w0 : World) {b : Nat} : ∀ (S : List Nat) (w : World), b ∉ S → (rsW w0 S w).heap[b]? = w.heap[b]?
  | [], w, _ => rfl
  | c :: S, w, h => by
    have ih := rsW_out w0 S w (fun hm => h (List.mem_cons_of_mem _ hm))
    unfold rsW
    split
    · rw [World.putObj_heap_other (fun e => h (by rw [e]; exact List.mem_cons_self ..))]; exact ih
    · exact ih
theorem rsW_in (w0 : World) {b : Nat} (h0 : b < w0.heap.size) : ∀ (S : List Nat) (w : World), b < w.heap.size → b ∈ S → (rsW w0 S w).heap[b]? = w0.heap[b]?
  | c :: S, w, hw, h => by
    unfold rsW
    by_cases e : b = c
    · subst e
      split
      · next o ho => rw [World.putObj_heap_same (by rw [(rsW_same w0 S w).2.2.2.1]; exact hw), ho]
      · next ho => rw [Array.getElem?_eq_getElem h0] at ho; cases ho
    · have hm : b ∈ S := by rcases List.mem_cons.1 h with h | h; exact absurd h e; exact h
      have ih := rsW_in w0 h0 S w hw hm
      split
      · rw [World.putObj_heap_other e]; exact ih
      · exact ih
/-- What is lent, and what was known beside it. -/
structure BrwN (J : List (World → Prop)) (r : RC) (w0 w : World) : Prop where
  st : ∀ w', Kp r.S w w' → allJ J w'
  hs : r.A w
  pin : ∀ b ∈ r.S, w.heap[b]? = w0.heap[b]?
  lt : ∀ b ∈ r.S, b < w.heap.size
section
variable {P : Program} {J : List (World → Prop)} {H H2 : List RC} {r : RC}
theorem Ctx.brwN {w : World} (h : Ctx J (r :: H) w) : Ctx [BrwN J r w] H w := by
  refine ⟨fun w' k => ⟨?_, trivial⟩, h.hs.2, h.rest.lt, h.rest.nd⟩
  have hp : ∀ b ∈ r.S, w'.heap[b]? = w.heap[b]? := fun b hb => k.block b (h.lt b (by simp [fp, hb])) fun hm => (List.nodup_append.1 h.nd).2.2 b hb b hm rfl
  exact ⟨fun w'' k' => h.st w'' (k.trans k' (fun x hx => .inl (by simp [fp, hx])) (fun x hx => .inl (by simp [fp, hx]))), r.kp w w' hp h.hs.1, hp, fun b hb => Nat.lt_of_lt_of_le (h.lt b (by simp [fp, hb])) k.size⟩
theorem Ctx.unbrwN {w0 w : World} (h : Ctx [BrwN J r w0] H2 w) (hn : r.S.Nodup) : Ctx J (r :: H2) w := by
  obtain ⟨h1, -⟩ := h.js
  have hd : ∀ b ∈ r.S, b ∉ fp H2 := fun b hb hm => by
    have hlt := h1.lt b hb
    have e1 := (h.st (w.putObj b (.deferred none)) ((Kp.put w b _).mono fun x hx => .inl (by rw [List.mem_singleton.1 hx]; exact hm))).1.pin b hb
    have e2 := (h.st (w.putObj b (.deferred (some []))) ((Kp.put w b _).mono fun x hx => .inl (by rw [List.mem_singleton.1 hx]; exact hm))).1.pin b hb
    rw [World.putObj_heap_same hlt] at e1 e2
    rw [← e2] at e1
    cases e1
  refine ⟨fun w' k => ?_, ⟨h1.hs, h.hs⟩, fun b hb => ?_, ?_⟩
  · have hs := rsW_same w r.S w'
    have k1 : Kp (fp H2) w (rsW w r.S w') := ⟨hs.1.trans k.os, hs.2.1.trans k.tape, hs.2.2.1.trans k.output, by rw [hs.2.2.2.1]; exact k.size, fun b hb hbn => by
      by_cases hm : b ∈ r.S
      · exact rsW_in w hb r.S w' (Nat.lt_of_lt_of_le hb k.size) hm
      · rw [rsW_out w r.S w' hm]; exact k.block b hb (by simp [fp, hm, hbn]), by rw [hs.2.2.2.2]; exact k.drawn⟩
    have k2 : Kp r.S (rsW w r.S w') w' := ⟨hs.1.symm, hs.2.1.symm, hs.2.2.1.symm, by rw [hs.2.2.2.1]; exact Nat.le_refl _, fun b hb hbn => (rsW_out w r.S w' hbn).symm, by rw [hs.2.2.2.2]; exact Nat.le_refl _⟩
    exact (h.st _ k1).1.st w' k2
  · simp only [fp, List.mem_append] at hb
    rcases hb with hb | hb
    · exact h1.lt b hb
    · exact h.lt b hb
  · exact List.nodup_append.2 ⟨hn, h.nd, fun a ha b hb e => by subst e; exact hd a ha hb⟩
/-- What is held is lent to a call that reads it and makes something of its own. -/
theorem brwN {F : FuncId} {args : List Value} {X : Type} {v : X → Value} {p : X → Prop} {R : World → Prop} {HX : X → List RC} (hA : ∀ w, r.A w → R w) (h : ∀ J', Ent J' R → Ent J' (fun w => allJ J w) → Tr P F args (Ctx J' H) v p (fun x => Ctx J' (HX x))) : Tr P F args (Ctx J (r :: H)) v p (fun x => Ctx J (r :: HX x)) := by
  refine ⟨fun w hw => ?_, (h [fun _ => False] (fun w j => j.1.elim) (fun w j => j.1.elim)).en⟩
  have := h [BrwN J r w] (fun w j => hA w j.1.hs) (fun w j => j.1.st w (Kp.refl _ _))
  exact (this.go w hw.brwN).mono fun e w' ⟨x, h1, h2, h3⟩ => ⟨x, h1, h2, h3.unbrwN (List.nodup_append.1 hw.nd).1⟩
end
end
end Go.Proofs.YtimemehaccgmmaaGreatDoor
