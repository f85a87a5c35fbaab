/-
  Plain laws of stable sorting.
-/
import Derived.Test.YthmaobmgogmaoaaBase
namespace Go.Proofs.Ythmaobmgogmaoaa
set_option linter.unusedSimpArgs false
set_option linter.unusedVariables false

/-- A strict weak order. -/
structure Swo {α : Type} (lt : α → α → Bool) : Prop where
  asym : ∀ x y, lt x y = true → lt y x = false
  neg : ∀ x y z, lt y x = false → lt z y = false → lt z x = false

section
variable {α : Type} {lt : α → α → Bool}
/-- What is alike with x. -/
def alk (lt : α → α → Bool) (x : α) (l : List α) : List α := l.filter fun y => !lt x y && !lt y x
/-- Rising. -/
def Rises (lt : α → α → Bool) (l : List α) : Prop := l.Pairwise fun x y => lt y x = false
/-- r is l, stably sorted. -/
def Stab (lt : α → α → Bool) (l r : List α) : Prop := Rises lt r ∧ ∀ x, alk lt x r = alk lt x l

theorem Swo.irr (h : Swo lt) (x : α) : lt x x = false := by
  cases hx : lt x x with
  | false => rfl
  | true => have := h.asym x x hx; rw [hx] at this; cases this
theorem Swo.lt_le (h : Swo lt) {x y z : α} (h1 : lt x y = true) (h2 : lt z y = false) : lt x z = true := by
  cases hx : lt x z with
  | true => rfl
  | false => have := h.neg y z x h2 hx; rw [h1] at this; cases this
theorem Swo.le_lt (h : Swo lt) {x y z : α} (h1 : lt y x = false) (h2 : lt y z = true) : lt x z = true := by
  cases hx : lt x z with
  | true => rfl
  | false => have := h.neg z x y hx h1; rw [h2] at this; cases this
theorem mem_alk {x y : α} {l : List α} : y ∈ alk lt x l ↔ y ∈ l ∧ lt x y = false ∧ lt y x = false := by
  simp [alk, List.mem_filter]
theorem alk_append (x : α) (l m : List α) : alk lt x (l ++ m) = alk lt x l ++ alk lt x m := by simp [alk]
theorem Swo.self (h : Swo lt) {x : α} {l : List α} (hx : x ∈ l) : x ∈ alk lt x l := mem_alk.2 ⟨hx, h.irr x, h.irr x⟩
theorem same_mem (h : Swo lt) {l r : List α} (hs : ∀ x, alk lt x r = alk lt x l) {x : α} (hx : x ∈ r) : x ∈ l := by
  have := h.self hx
  rw [hs x] at this
  exact (mem_alk.1 this).1
theorem Stab.mem (h : Swo lt) {l r : List α} (hs : Stab lt l r) {x : α} (hx : x ∈ r) : x ∈ l := same_mem h hs.2 hx

theorem rises_uniq (h : Swo lt) : ∀ (r1 r2 : List α), Rises lt r1 → Rises lt r2 → (∀ x, alk lt x r1 = alk lt x r2) → r1 = r2 := by
  intro r1
  induction r1 with
  | nil =>
    intro r2 _ _ hs
    cases r2 with
    | nil => rfl
    | cons b t =>
      have := h.self (show b ∈ b :: t from List.mem_cons_self)
      rw [← hs b] at this
      simp [alk] at this
  | cons a t1 ih =>
    intro r2 s1 s2 hs
    cases r2 with
    | nil =>
      have := h.self (show a ∈ a :: t1 from List.mem_cons_self)
      rw [hs a] at this
      simp [alk] at this
    | cons b t2 =>
      have ha : a ∈ b :: t2 := same_mem h hs List.mem_cons_self
      have hb : b ∈ a :: t1 := same_mem h (fun x => (hs x).symm) List.mem_cons_self
      have hab : lt a b = false := by
        rcases List.mem_cons.1 ha with rfl | ha
        · exact h.irr _
        · exact (List.pairwise_cons.1 s2).1 a ha
      have hba : lt b a = false := by
        rcases List.mem_cons.1 hb with rfl | hb
        · exact h.irr _
        · exact (List.pairwise_cons.1 s1).1 b hb
      have h1 := hs a
      have e1 : alk lt a (a :: t1) = a :: alk lt a t1 := by simp [alk, h.irr a]
      have e2 : alk lt a (b :: t2) = b :: alk lt a t2 := by simp [alk, hab, hba]
      rw [e1, e2] at h1
      injection h1 with h1 _
      subst h1
      congr 1
      refine ih t2 (List.pairwise_cons.1 s1).2 (List.pairwise_cons.1 s2).2 (fun x => ?_)
      have h2 := hs x
      simp only [alk, List.filter_cons] at h2 ⊢
      split at h2
      · injection h2
      · exact h2
theorem Stab.uniq (h : Swo lt) {l r1 r2 : List α} (h1 : Stab lt l r1) (h2 : Stab lt l r2) : r1 = r2 :=
  rises_uniq h r1 r2 h1.1 h2.1 (fun x => (h1.2 x).trans (h2.2 x).symm)
theorem Stab.nil : Stab lt [] [] := ⟨List.Pairwise.nil, fun _ => rfl⟩
theorem Stab.refl {l : List α} (h : Rises lt l) : Stab lt l l := ⟨h, fun _ => rfl⟩
theorem Stab.join {l1 l2 r1 r2 r : List α} (h1 : Stab lt l1 r1) (h2 : Stab lt l2 r2) (h : Stab lt (r1 ++ r2) r) : Stab lt (l1 ++ l2) r :=
  ⟨h.1, fun x => by rw [h.2 x, alk_append, alk_append, h1.2 x, h2.2 x]⟩
theorem Stab.one (x : α) : Stab lt [x] [x] := Stab.refl (List.pairwise_singleton _ _)

/-- The law of a merge that is cut in two. -/
theorem stab_cut (h : Swo lt) {A1 A2 B1 B2 R1 R2 : List α} (hA : Rises lt (A1 ++ A2)) (hB : Rises lt (B1 ++ B2)) (h12 : ∀ x ∈ A1, ∀ y ∈ B2, lt y x = false) (h21 : ∀ m ∈ B1, ∀ a ∈ A2, lt m a = true)
    (s1 : Stab lt (A1 ++ B1) R1) (s2 : Stab lt (A2 ++ B2) R2) : Stab lt ((A1 ++ A2) ++ (B1 ++ B2)) (R1 ++ R2) := by
  obtain ⟨hA1, hA2, hA12⟩ := List.pairwise_append.1 hA
  obtain ⟨hB1, hB2, hB12⟩ := List.pairwise_append.1 hB
  refine ⟨List.pairwise_append.2 ⟨s1.1, s2.1, fun x hx y hy => ?_⟩, fun x => ?_⟩
  · have hx := s1.mem h hx
    have hy := s2.mem h hy
    rcases List.mem_append.1 hx with hx | hx <;> rcases List.mem_append.1 hy with hy | hy
    · exact hA12 x hx y hy
    · exact h12 x hx y hy
    · exact h.asym _ _ (h21 x hx y hy)
    · exact hB12 x hx y hy
  · simp only [alk_append, s1.2 x, s2.2 x, List.append_assoc]
    congr 1
    rw [← List.append_assoc, ← List.append_assoc]
    congr 1
    -- one of the two is empty
    cases hb : alk lt x B1 with
    | nil => simp
    | cons m t =>
      cases ha : alk lt x A2 with
      | nil => simp
      | cons a t' =>
        exfalso
        obtain ⟨m1, m2, m3⟩ := mem_alk.1 (show m ∈ alk lt x B1 by rw [hb]; simp)
        obtain ⟨a1, a2, a3⟩ := mem_alk.1 (show a ∈ alk lt x A2 by rw [ha]; simp)
        have h3 := h21 m m1 a a1
        -- m like x like a
        have := h.neg a x m a2 m3
        rw [h3] at this; cases this
/-- One more is put among what rises. -/
theorem stab_put (h : Swo lt) {l L R : List α} {x : α} (hs : Stab lt l (L ++ R)) (hR : ∀ y ∈ R, lt x y = true) (hL : ∀ y ∈ L, lt x y = false) : Stab lt (l ++ [x]) (L ++ x :: R) := by
  have hr := hs.1
  obtain ⟨h1, h2, h3⟩ := List.pairwise_append.1 hr
  have := stab_cut h (A1 := L) (A2 := R) (B1 := [x]) (B2 := []) (R1 := L ++ [x]) (R2 := R) hr (List.pairwise_singleton _ _) (by simp) (by simpa using hR)
    ⟨List.pairwise_append.2 ⟨h1, List.pairwise_singleton _ _, by simpa using hL⟩, fun _ => rfl⟩ (by rw [List.append_nil]; exact Stab.refl h2)
  have e : L ++ x :: R = (L ++ [x]) ++ R := by simp
  rw [e]
  refine Stab.join hs (Stab.one x) ?_
  simpa using this
/-- Of what rises all lie behind what lies behind the first. -/
theorem first_all (h : Swo lt) {y : α} {a : α} {l : List α} (hr : Rises lt (a :: l)) (ha : lt y a = true) : ∀ z ∈ a :: l, lt y z = true := by
  intro z hz
  rcases List.mem_cons.1 hz with rfl | hz
  · exact ha
  · exact h.lt_le ha ((List.pairwise_cons.1 hr).1 z hz)
theorem first_le (h : Swo lt) {x : α} {a : α} {l : List α} (hr : Rises lt (a :: l)) (ha : lt a x = false) : ∀ z ∈ a :: l, lt z x = false := by
  intro z hz
  rcases List.mem_cons.1 hz with rfl | hz
  · exact ha
  · exact h.neg x a z ha ((List.pairwise_cons.1 hr).1 z hz)
theorem last_all (h : Swo lt) {x : α} {a : α} {l : List α} (hr : Rises lt (l ++ [a])) (ha : lt a x = true) : ∀ z ∈ l ++ [a], lt z x = true := by
  intro z hz
  rcases List.mem_append.1 hz with hz | hz
  · exact h.le_lt ((List.pairwise_append.1 hr).2.2 z hz a (by simp)) ha
  · simp at hz; subst hz; exact ha
theorem last_le (h : Swo lt) {y : α} {a : α} {l : List α} (hr : Rises lt (l ++ [a])) (ha : lt y a = false) : ∀ z ∈ l ++ [a], lt y z = false := by
  intro z hz
  rcases List.mem_append.1 hz with hz | hz
  · exact h.neg z a y ((List.pairwise_append.1 hr).2.2 z hz a (by simp)) ha
  · simp at hz; subst hz; exact ha

/-- Of the same length, and just a turn of it. -/
theorem stab_make (h : Swo lt) : ∀ l : List α, ∃ r, Stab lt l r ∧ r.Perm l := by
  intro l0
  rw [← List.reverse_reverse l0]
  induction l0.reverse with
  | nil => exact ⟨[], Stab.nil, List.Perm.refl _⟩
  | cons x t ih =>
    rw [List.reverse_cons]
    generalize t.reverse = l at *
    obtain ⟨r, hr, hp⟩ := ih
    -- where x goes
    have hcut : ∀ r : List α, Rises lt r → ∃ L R, r = L ++ R ∧ (∀ y ∈ R, lt x y = true) ∧ ∀ y ∈ L, lt x y = false := by
      intro r
      induction r with
      | nil => intro _; exact ⟨[], [], rfl, by simp, by simp⟩
      | cons a t iht =>
        intro hr
        cases ha : lt x a with
        | true => exact ⟨[], a :: t, rfl, first_all h hr ha, by simp⟩
        | false =>
          obtain ⟨L, R, rfl, h1, h2⟩ := iht (List.pairwise_cons.1 hr).2
          exact ⟨a :: L, R, rfl, h1, fun y hy => by
            rcases List.mem_cons.1 hy with rfl | hy
            · exact ha
            · exact h2 y hy⟩
    obtain ⟨L, R, rfl, h1, h2⟩ := hcut r hr.1
    refine ⟨L ++ x :: R, stab_put h hr h1 h2, ?_⟩
    exact List.perm_middle.trans ((List.perm_append_singleton x _).symm.trans (hp.append_right [x]))
theorem Stab.perm (h : Swo lt) {l r : List α} (hs : Stab lt l r) : r.Perm l := by
  obtain ⟨r', h1, h2⟩ := stab_make h l
  rw [hs.uniq h h1]; exact h2
theorem Stab.len (h : Swo lt) {l r : List α} (hs : Stab lt l r) : r.length = l.length := (hs.perm h).length_eq

/-- Sorted block by block; the last one may be short. -/
inductive Blk (lt : α → α → Bool) (n : Nat) : List α → List α → Prop
  | last {l r : List α} : l.length ≤ n → r.length = l.length → Stab lt l r → Blk lt n l r
  | cons {l1 r1 l2 r2 : List α} : l1.length = n → r1.length = n → Stab lt l1 r1 → Blk lt n l2 r2 → Blk lt n (l1 ++ l2) (r1 ++ r2)
/-- Whole blocks. -/
inductive Ful (lt : α → α → Bool) (n : Nat) : List α → List α → Prop
  | nil : Ful lt n [] []
  | snoc {l1 r1 l2 r2 : List α} : Ful lt n l1 r1 → l2.length = n → r2.length = n → Stab lt l2 r2 → Ful lt n (l1 ++ l2) (r1 ++ r2)
theorem Blk.len {n : Nat} {l r : List α} (h : Blk lt n l r) : r.length = l.length := by
  induction h with
  | last _ h _ => exact h
  | cons h1 h2 _ _ ih => simp [h1, h2, ih]
theorem Ful.len {n : Nat} {l r : List α} (h : Ful lt n l r) : r.length = l.length := by
  induction h with
  | nil => rfl
  | snoc _ h1 h2 _ ih => simp [h1, h2, ih]
theorem Ful.blk {n : Nat} {l r l' r' : List α} (h : Ful lt n l r) : Blk lt n l' r' → Blk lt n (l ++ l') (r ++ r') := by
  induction h generalizing l' r' with
  | nil => intro h; exact h
  | snoc _ h1 h2 h3 ih =>
    intro h
    rw [List.append_assoc, List.append_assoc]
    exact ih (Blk.cons h1 h2 h3 h)
theorem Blk.whole {n : Nat} {l r : List α} (h : Blk lt n l r) (hl : l.length ≤ n) : Stab lt l r := by
  cases h with
  | last _ _ h => exact h
  | cons h1 h2 h3 h4 =>
    have hl4 := h4.len
    simp at hl
    rename_i l1 r1 l2 r2
    have e1 : l2 = [] := List.eq_nil_of_length_eq_zero (by omega)
    have e2 : r2 = [] := List.eq_nil_of_length_eq_zero (by rw [hl4, e1]; rfl)
    subst e1; subst e2
    simpa using h3
/-- The first two blocks. -/
theorem Blk.two {n : Nat} (hn : 0 < n) {l r : List α} (h : Blk lt n l r) (hl : n < l.length) :
    ∃ l1 l2 l3 r1 r2 r3, l = l1 ++ (l2 ++ l3) ∧ r = r1 ++ (r2 ++ r3) ∧ l1.length = n ∧ r1.length = n ∧ Stab lt l1 r1 ∧ r2.length = l2.length ∧ Stab lt l2 r2 ∧ l2.length ≤ n ∧ 0 < l2.length ∧ Blk lt n l3 r3 ∧ (l2.length < n → l3 = [] ∧ r3 = []) := by
  cases h with
  | last h1 _ _ => omega
  | cons h1 h2 h3 h4 =>
    rename_i l1 r1 l2 r2
    simp at hl
    cases h4 with
    | last g1 g2 g3 => exact ⟨l1, l2, [], r1, r2, [], by simp, by simp, h1, h2, h3, g2, g3, g1, by omega, Blk.last (by simp) rfl Stab.nil, fun _ => ⟨rfl, rfl⟩⟩
    | cons g1 g2 g3 g4 =>
      rename_i l2' r2' l3 r3
      exact ⟨l1, l2', l3, r1, r2', r3, rfl, rfl, h1, h2, h3, by omega, g3, by omega, by omega, g4, fun h => by omega⟩
theorem Blk.short {n m : Nat} {l r : List α} (h : Blk lt n l r) (hl : l.length ≤ n) (hm : n ≤ m) : Blk lt m l r := Blk.last (by omega) h.len (h.whole hl)
end
end Go.Proofs.Ythmaobmgogmaoaa
