/-
  Star-trees: plain laws of records that are put together.
-/
import Derived.Test.YthmaobmgogmaoaaSrtR
namespace Go.Proofs.Ythmaobmgogmaoaa
open Go.RowKit
set_option linter.unusedSimpArgs false
set_option linter.unusedVariables false

/-- How two rows of ids stand. -/
def cmpIs : List Int → List Int → Int
  | [], [] => 0
  | [], _ :: _ => -1
  | _ :: _, [] => 1
  | a :: s, b :: t => if a < b then -1 else if b < a then 1 else cmpIs s t
def ltI (a b : List Int) : Bool := decide (cmpIs a b < 0)
theorem cmpIs_anti : ∀ a b : List Int, cmpIs b a = - cmpIs a b
  | [], [] => rfl
  | [], _ :: _ => rfl
  | _ :: _, [] => rfl
  | a :: s, b :: t => by
    have := cmpIs_anti s t
    unfold cmpIs
    by_cases h1 : a < b
    · rw [if_pos h1, if_neg (by omega), if_pos h1]; rfl
    · by_cases h2 : b < a
      · rw [if_pos h2, if_neg h1, if_pos h2]
      · rw [if_neg h1, if_neg h2, if_neg h2, if_neg h1]; exact this
theorem cmpIs_rng : ∀ a b : List Int, -1 ≤ cmpIs a b ∧ cmpIs a b ≤ 1
  | [], [] => by unfold cmpIs; omega
  | [], _ :: _ => by unfold cmpIs; omega
  | _ :: _, [] => by unfold cmpIs; omega
  | a :: s, b :: t => by
    have := cmpIs_rng s t
    unfold cmpIs
    split
    · omega
    · split
      · omega
      · exact this
theorem cmpIs_zero : ∀ a b : List Int, cmpIs a b = 0 ↔ a = b
  | [], [] => by simp [cmpIs]
  | [], _ :: _ => by simp [cmpIs]
  | _ :: _, [] => by simp [cmpIs]
  | a :: s, b :: t => by
    have := cmpIs_zero s t
    unfold cmpIs
    by_cases h1 : a < b
    · rw [if_pos h1]; constructor
      · intro h; cases h
      · intro h; injection h; omega
    · by_cases h2 : b < a
      · rw [if_neg h1, if_pos h2]; constructor
        · intro h; cases h
        · intro h; injection h; omega
      · rw [if_neg h1, if_neg h2, this]; constructor
        · rintro rfl; rw [show a = b by omega]
        · intro h; injection h
theorem cmpIs_self (a : List Int) : cmpIs a a = 0 := (cmpIs_zero a a).2 rfl
theorem cmpIs_lt : ∀ a b c : List Int, cmpIs a b < 0 → cmpIs b c < 0 → cmpIs a c < 0
  | [], [], _, h, _ => by simp [cmpIs] at h
  | [], _ :: _, [], _, h => by simp [cmpIs] at h
  | [], _ :: _, _ :: _, _, _ => by simp [cmpIs]
  | _ :: _, [], _, h, _ => by simp [cmpIs] at h
  | _ :: _, _ :: _, [], _, h => by simp [cmpIs] at h
  | a :: s, b :: t, c :: u, h1, h2 => by
    have := cmpIs_lt s t u
    unfold cmpIs at h1 h2 ⊢
    by_cases e1 : a < b
    · by_cases e2 : b < c
      · rw [if_pos (by omega)]; omega
      · rw [if_neg e2] at h2
        by_cases e3 : c < b
        · rw [if_pos e3] at h2; omega
        · rw [if_pos (by omega)]; omega
    · rw [if_neg e1] at h1
      by_cases e1' : b < a
      · rw [if_pos e1'] at h1; omega
      · rw [if_neg e1'] at h1
        by_cases e2 : b < c
        · rw [if_pos (by omega)]; omega
        · rw [if_neg e2] at h2
          by_cases e3 : c < b
          · rw [if_pos e3] at h2; omega
          · rw [if_neg e3] at h2
            rw [if_neg (by omega), if_neg (by omega)]
            exact this h1 h2
theorem cmpIs_tail : ∀ (a b z : List Int), a.length = b.length → cmpIs (a ++ z) (b ++ z) = cmpIs a b
  | [], [], z, _ => by simp [cmpIs_self, cmpIs]
  | [], _ :: _, _, h => by simp at h
  | _ :: _, [], _, h => by simp at h
  | a :: s, b :: t, z, h => by
    have := cmpIs_tail s t z (by simpa using h)
    simp only [List.cons_append]
    unfold cmpIs
    rw [this]
theorem ltI_neg {a b : List Int} : ltI a b = false ↔ ltI b a = true ∨ a = b := by
  have h1 := cmpIs_anti a b
  have h2 := cmpIs_zero a b
  simp only [ltI, decide_eq_false_iff_not, decide_eq_true_eq]
  rw [← h2]; omega
theorem ltI_asym {a b : List Int} (h : ltI a b = true) : ltI b a = false := by
  have h1 := cmpIs_anti a b
  simp only [ltI, decide_eq_false_iff_not, decide_eq_true_eq] at *
  omega
theorem ltI_ne {a b : List Int} (h : ltI a b = true) : a ≠ b := by
  rintro rfl
  simp [ltI, cmpIs_self] at h
theorem ltI_trans {a b c : List Int} (h1 : ltI a b = true) (h2 : ltI b c = true) : ltI a c = true := by
  simp only [ltI, decide_eq_true_eq] at *
  exact cmpIs_lt a b c h1 h2
theorem ltI_swo : Swo ltI where
  asym x y h := ltI_asym h
  neg x y z h1 h2 := by
    rcases ltI_neg.1 h1 with h1 | rfl
    · rcases ltI_neg.1 h2 with h2 | rfl
      · exact ltI_asym (ltI_trans h1 h2)
      · exact ltI_asym h1
    · exact h2

/-- A record. -/
structure PR where
  ids : List Int
  cnt : Int
  ms : List S3
instance : Inhabited PR := ⟨⟨[], 0, []⟩⟩
def mrg1 (a b : S3) : S3 := ⟨IntKind.i64.wrap (a.s + b.s), min a.l b.l, max a.g b.g⟩
/-- A record with another one's rows. -/
def mrg (a b : PR) : PR := ⟨a.ids, IntKind.i64.wrap (a.cnt + b.cnt), List.zipWith mrg1 a.ms b.ms⟩
/-- A record among others that rise. -/
def putP : List PR → PR → List PR
  | [], x => [x]
  | a :: t, x => if a.ids = x.ids then mrg a x :: t else if ltI x.ids a.ids then x :: a :: t else a :: putP t x
/-- Records put together. -/
def togP (l : List PR) : List PR := l.foldl putP []
def hasI (i : List Int) (x : PR) : Bool := decide (x.ids = i)
def grp (i : List Int) (l : List PR) : List PR := match l.filter (hasI i) with
  | [] => []
  | a :: t => [t.foldl mrg a]
def Ups (l : List PR) : Prop := l.Pairwise fun x y => ltI x.ids y.ids = true
def Tog (l out : List PR) : Prop := Ups out ∧ ∀ i, out.filter (hasI i) = grp i l

theorem mem_put {y x : PR} : ∀ {l : List PR}, y ∈ putP l x → y.ids = x.ids ∨ ∃ z ∈ l, z.ids = y.ids
  | [], h => by simp [putP] at h; subst h; exact .inl rfl
  | a :: t, h => by
    unfold putP at h
    split at h
    · rcases List.mem_cons.1 h with rfl | h
      · exact .inr ⟨a, by simp, rfl⟩
      · exact .inr ⟨y, by simp [h], rfl⟩
    · split at h
      · rcases List.mem_cons.1 h with rfl | h
        · exact .inl rfl
        · exact .inr ⟨y, h, rfl⟩
      · rcases List.mem_cons.1 h with rfl | h
        · exact .inr ⟨y, by simp, rfl⟩
        · rcases mem_put h with h | ⟨z, hz, e⟩
          · exact .inl h
          · exact .inr ⟨z, by simp [hz], e⟩
theorem ups_put {x : PR} : ∀ {l : List PR}, Ups l → Ups (putP l x)
  | [], _ => List.pairwise_singleton _ _
  | a :: t, h => by
    obtain ⟨h1, h2⟩ := List.pairwise_cons.1 h
    unfold putP
    split
    · exact List.pairwise_cons.2 ⟨fun y hy => h1 y hy, h2⟩
    · split
      · next hlt => exact List.pairwise_cons.2 ⟨fun y hy => by
          rcases List.mem_cons.1 hy with rfl | hy
          · exact hlt
          · exact ltI_trans hlt (h1 y hy), h⟩
      · next hne hlt =>
        refine List.pairwise_cons.2 ⟨fun y hy => ?_, ups_put h2⟩
        rcases mem_put hy with e | ⟨z, hz, e⟩
        · rw [e]
          rcases ltI_neg.1 (by simpa using hlt : ltI x.ids a.ids = false) with h | h
          · exact h
          · exact (hne h.symm).elim
        · rw [← e]; exact h1 z hz
theorem ups_none {i : List Int} {l : List PR} (h : ∀ y ∈ l, ltI i y.ids = true) : l.filter (hasI i) = [] := by
  refine List.filter_eq_nil_iff.2 fun y hy => ?_
  have := ltI_ne (h y hy)
  simp [hasI]; exact fun e => this e.symm
theorem put_filter {x : PR} {i : List Int} : ∀ {l : List PR}, Ups l → (putP l x).filter (hasI i) = if x.ids = i then (match l.filter (hasI i) with | [] => [x] | a :: t => mrg a x :: t) else l.filter (hasI i)
  | [], _ => by
    by_cases h : x.ids = i
    · simp [putP, hasI, h]
    · simp [putP, hasI, h]
  | a :: t, h => by
    obtain ⟨h1, h2⟩ := List.pairwise_cons.1 h
    have ih := put_filter (x := x) (i := i) h2
    unfold putP
    split
    · next e =>
      by_cases hx : x.ids = i
      · have ha : hasI i a = true := by simp [hasI, e, hx]
        have hm : hasI i (mrg a x) = true := by simp [hasI, mrg, e, hx]
        rw [if_pos hx, List.filter_cons_of_pos hm, List.filter_cons_of_pos ha]
      · have ha : ¬ hasI i a = true := by simp [hasI, e, hx]
        have hm : ¬ hasI i (mrg a x) = true := by simp [hasI, mrg, e, hx]
        rw [if_neg hx, List.filter_cons_of_neg hm, List.filter_cons_of_neg ha]
    · split
      · next hne hlt =>
        by_cases hx : x.ids = i
        · have hxx : hasI i x = true := by simp [hasI, hx]
          have hz : (a :: t).filter (hasI i) = [] := ups_none fun y hy => by
            rw [← hx]
            rcases List.mem_cons.1 hy with rfl | hy
            · exact hlt
            · exact ltI_trans hlt (h1 y hy)
          rw [if_pos hx, List.filter_cons_of_pos hxx, hz]
        · have hxx : ¬ hasI i x = true := by simp [hasI, hx]
          rw [if_neg hx, List.filter_cons_of_neg hxx]
      · next hne hlt =>
        by_cases ha : hasI i a = true
        · have hx : ¬ x.ids = i := by
            simp only [hasI, decide_eq_true_eq] at ha
            intro e; exact hne (ha.trans e.symm)
          rw [if_neg hx] at ih ⊢
          rw [List.filter_cons_of_pos ha, List.filter_cons_of_pos ha, ih]
        · rw [List.filter_cons_of_neg ha, List.filter_cons_of_neg ha, ih]
theorem tog_put {l out : List PR} (h : Tog l out) (x : PR) : Tog (l ++ [x]) (putP out x) := by
  refine ⟨ups_put h.1, fun i => ?_⟩
  rw [put_filter h.1, h.2 i]
  unfold grp
  rw [List.filter_append]
  by_cases hx : x.ids = i
  · have hxx : hasI i x = true := by simp [hasI, hx]
    rw [if_pos hx, List.filter_cons_of_pos hxx, List.filter_nil]
    cases l.filter (hasI i) with
    | nil => rfl
    | cons a t => simp [List.foldl_append]
  · have hxx : ¬ hasI i x = true := by simp [hasI, hx]
    rw [if_neg hx, List.filter_cons_of_neg hxx, List.filter_nil, List.append_nil]
theorem tog_fold : ∀ (l pre out : List PR), Tog pre out → Tog (pre ++ l) (l.foldl putP out)
  | [], pre, out, h => by simpa using h
  | x :: t, pre, out, h => by
    have := tog_fold t (pre ++ [x]) (putP out x) (tog_put h x)
    simpa using this
theorem tog_togP (l : List PR) : Tog l (togP l) := by
  have := tog_fold l [] [] ⟨List.Pairwise.nil, fun i => by simp [grp]⟩
  simpa [togP] using this
theorem ups_uniq {a b : List PR} (ha : Ups a) (hb : Ups b) (h : ∀ i, a.filter (hasI i) = b.filter (hasI i)) : a = b := by
  have hs : Swo (fun x y : PR => ltI x.ids y.ids) := ⟨fun x y h => ltI_asym h, fun x y z h1 h2 => ltI_swo.neg _ _ _ h1 h2⟩
  have hr : ∀ l : List PR, Ups l → Rises (fun x y : PR => ltI x.ids y.ids) l := fun l hl => hl.imp fun h => ltI_asym h
  refine rises_uniq hs a b (hr a ha) (hr b hb) fun x => ?_
  have e : ∀ l : List PR, alk (fun x y : PR => ltI x.ids y.ids) x l = l.filter (hasI x.ids) := fun l => by
    unfold alk
    congr 1
    funext y
    rw [Bool.eq_iff_iff]
    simp only [Bool.and_eq_true, Bool.not_eq_true', hasI, decide_eq_true_eq]
    constructor
    · rintro ⟨h1, h2⟩
      rcases ltI_neg.1 h1 with h | h
      · rw [h] at h2; cases h2
      · exact h.symm
    · intro e; rw [e]; exact ⟨by simp [ltI, cmpIs_self], by simp [ltI, cmpIs_self]⟩
  rw [e, e, h]
/-- What is put together hangs on the groups alone. -/
theorem togP_congr {a b : List PR} (h : ∀ i, a.filter (hasI i) = b.filter (hasI i)) : togP a = togP b := by
  obtain ⟨h1, h2⟩ := tog_togP a
  obtain ⟨h3, h4⟩ := tog_togP b
  refine ups_uniq h1 h3 fun i => ?_
  rw [h2 i, h4 i]; unfold grp; rw [h i]
theorem togP_snoc (l : List PR) (x : PR) : togP (l ++ [x]) = putP (togP l) x := by simp [togP, List.foldl_append]
theorem mem_togP {l : List PR} {y : PR} (h : y ∈ togP l) : ∃ x ∈ l, x.ids = y.ids := by
  obtain ⟨h1, h2⟩ := tog_togP l
  have h3 : y ∈ (togP l).filter (hasI y.ids) := List.mem_filter.2 ⟨h, by simp [hasI]⟩
  rw [h2] at h3
  unfold grp at h3
  cases he : l.filter (hasI y.ids) with
  | nil => rw [he] at h3; simp at h3
  | cons a t =>
    have : a ∈ l.filter (hasI y.ids) := by rw [he]; simp
    obtain ⟨h4, h5⟩ := List.mem_filter.1 this
    exact ⟨a, h4, by simpa [hasI] using h5⟩
/-- Behind all: alike with the last. -/
theorem put_last {O : List PR} {z x : PR} (h : Ups (O ++ [z])) (e : z.ids = x.ids) : putP (O ++ [z]) x = O ++ [mrg z x] := by
  induction O with
  | nil => simp [putP, e]
  | cons a t ih =>
    obtain ⟨h1, h2⟩ := List.pairwise_cons.1 h
    have h3 := h1 z (by simp)
    rw [List.cons_append, putP, if_neg (by rw [← e]; exact ltI_ne h3), if_neg (by rw [← e, ltI_asym h3]; simp), ih h2]; rfl
theorem put_end {O : List PR} {x : PR} (h : ∀ y ∈ O, ltI y.ids x.ids = true) : putP O x = O ++ [x] := by
  induction O with
  | nil => rfl
  | cons a t ih =>
    have h3 := h a (by simp)
    rw [putP, if_neg (ltI_ne h3), if_neg (by rw [ltI_asym h3]; simp), ih (fun y hy => h y (by simp [hy]))]; rfl
/-- The next of what rises. -/
theorem tog_next {P : List PR} {x : PR} (hr : ∀ y ∈ P, ltI x.ids y.ids = false) :
    (P = [] ∧ togP (P ++ [x]) = [x]) ∨ ∃ O z, togP P = O ++ [z] ∧ togP (P ++ [x]) = if z.ids = x.ids then O ++ [mrg z x] else O ++ [z, x] := by
  rcases List.eq_nil_or_concat (togP P) with hT | ⟨O, z, hT⟩
  · left
    refine ⟨?_, by rw [togP_snoc, hT]; rfl⟩
    cases P with
    | nil => rfl
    | cons a t =>
      have h2 := (tog_togP (a :: t)).2 a.ids
      rw [hT] at h2
      simp [grp, hasI] at h2
  · rw [List.concat_eq_append] at hT
    right
    rw [hT]
    refine ⟨O, z, rfl, ?_⟩
    have hu : Ups (O ++ [z]) := by rw [← hT]; exact (tog_togP P).1
    rw [togP_snoc, hT]
    split
    · next e => exact put_last hu e
    · next e =>
      have hz : ltI z.ids x.ids = true := by
        obtain ⟨y, hy, e2⟩ := mem_togP (l := P) (y := z) (by rw [hT]; simp)
        have := hr y hy
        rw [e2] at this
        rcases ltI_neg.1 this with h | h
        · exact h
        · exact (e h.symm).elim
      rw [put_end]
      · simp
      · intro y hy
        rcases List.mem_append.1 hy with hy | hy
        · exact ltI_trans ((List.pairwise_append.1 hu).2.2 y hy z (by simp)) hz
        · simp at hy; subst hy; exact hz
end Go.Proofs.Ythmaobmgogmaoaa
