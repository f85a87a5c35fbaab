/-
  Star-trees: what records come to, in whatever order (plain).
-/
import Derived.Test.YthmaobmgogmaoaaStbC
namespace Go.Proofs.Ythmaobmgogmaoaa
open Go.RowKit
set_option linter.unusedSimpArgs false
set_option linter.unusedVariables false

theorem wrap_l (a b : Int) : IntKind.i64.wrap (IntKind.i64.wrap a + b) = IntKind.i64.wrap (a + b) := by
  rw [IntKind.wrap_i64, IntKind.wrap_i64, IntKind.wrap_i64]; omega
theorem wrap_r (a b : Int) : IntKind.i64.wrap (a + IntKind.i64.wrap b) = IntKind.i64.wrap (a + b) := by
  rw [IntKind.wrap_i64, IntKind.wrap_i64, IntKind.wrap_i64]; omega
theorem mrg1_comm (a b : S3) : mrg1 a b = mrg1 b a := by
  unfold mrg1
  rw [Int.add_comm, Int.min_comm, Int.max_comm]
theorem mrg1_assoc (a b c : S3) : mrg1 (mrg1 a b) c = mrg1 a (mrg1 b c) := by
  unfold mrg1
  simp only
  rw [wrap_l, wrap_r, Int.add_assoc, Int.min_assoc, Int.max_assoc]
theorem zip_comm : ∀ a b : List S3, List.zipWith mrg1 a b = List.zipWith mrg1 b a
  | [], [] => rfl
  | [], _ :: _ => rfl
  | _ :: _, [] => rfl
  | a :: s, b :: t => by rw [List.zipWith_cons_cons, List.zipWith_cons_cons, mrg1_comm, zip_comm s t]
theorem zip_assoc : ∀ a b c : List S3, List.zipWith mrg1 (List.zipWith mrg1 a b) c = List.zipWith mrg1 a (List.zipWith mrg1 b c)
  | [], _, _ => by simp
  | _ :: _, [], _ => by simp
  | _ :: _, _ :: _, [] => by simp
  | a :: s, b :: t, c :: u => by simp only [List.zipWith_cons_cons]; rw [mrg1_assoc, zip_assoc s t u]
/-- What a record comes to. -/
abbrev Cn := Int × List S3
def cop (a b : Cn) : Cn := (IntKind.i64.wrap (a.1 + b.1), List.zipWith mrg1 a.2 b.2)
theorem cop_comm (a b : Cn) : cop a b = cop b a := by unfold cop; rw [Int.add_comm, zip_comm]
theorem cop_assoc (a b c : Cn) : cop (cop a b) c = cop a (cop b c) := by unfold cop; simp only; rw [wrap_l, wrap_r, Int.add_assoc, zip_assoc]
def oop : Option Cn → Option Cn → Option Cn
  | none, b => b
  | some a, none => some a
  | some a, some b => some (cop a b)
theorem oop_none (a : Option Cn) : oop a none = a := by cases a <;> rfl
theorem oop_comm (a b : Option Cn) : oop a b = oop b a := by
  cases a <;> cases b <;> simp [oop, cop_comm]
theorem oop_assoc (a b c : Option Cn) : oop (oop a b) c = oop a (oop b c) := by
  cases a <;> cases b <;> cases c <;> simp [oop, cop_assoc]
def cn (x : PR) : Cn := (x.cnt, x.ms)
/-- What records come to together. -/
def Kn : List PR → Option Cn
  | [] => none
  | x :: l => oop (some (cn x)) (Kn l)
theorem Kn_append : ∀ a b, Kn (a ++ b) = oop (Kn a) (Kn b)
  | [], b => rfl
  | x :: a, b => by rw [List.cons_append, Kn, Kn, Kn_append a b, oop_assoc]
theorem Kn_one (x : PR) : Kn [x] = some (cn x) := rfl
theorem Kn_reverse : ∀ l, Kn l.reverse = Kn l
  | [] => rfl
  | x :: l => by rw [List.reverse_cons, Kn_append, Kn_reverse l, Kn_one, oop_comm]; rfl
theorem Kn_fold : ∀ (l : List PR) (a : PR), Kn (a :: l) = some (cn (l.foldl mrg a)) ∧ (l.foldl mrg a).ids = a.ids
  | [], a => ⟨rfl, rfl⟩
  | x :: l, a => by
    obtain ⟨h1, h2⟩ := Kn_fold l (mrg a x)
    refine ⟨?_, h2⟩
    rw [List.foldl_cons, ← h1, Kn, Kn, Kn, ← oop_assoc]; rfl
theorem grp_Kn (i : List Int) (l : List PR) : grp i l = match Kn (l.filter (hasI i)) with | none => [] | some c => [⟨i, c.1, c.2⟩] := by
  unfold grp
  cases h : l.filter (hasI i) with
  | nil => rfl
  | cons a t =>
    have ha : a.ids = i := by
      have : a ∈ l.filter (hasI i) := by rw [h]; simp
      simpa [hasI] using (List.mem_filter.1 this).2
    obtain ⟨h1, h2⟩ := Kn_fold t a
    rw [h1]
    simp only
    congr 1
    rw [← ha, ← h2]; rfl
/-- What is put together hangs on what each group comes to. -/
theorem togP_Kn {a b : List PR} (h : ∀ i, Kn (a.filter (hasI i)) = Kn (b.filter (hasI i))) : togP a = togP b := by
  obtain ⟨h1, h2⟩ := tog_togP a
  obtain ⟨h3, h4⟩ := tog_togP b
  refine ups_uniq h1 h3 fun i => ?_
  rw [h2 i, h4 i, grp_Kn, grp_Kn, h i]
theorem togP_reverse (l : List PR) : togP l.reverse = togP l := togP_Kn fun i => by rw [← List.reverse_reverse (l.reverse.filter (hasI i)), Kn_reverse, ← List.filter_reverse, List.reverse_reverse]
/-- Of those whose ids are so. -/
def KP (P : List Int → Bool) (l : List PR) : Option Cn := Kn (l.filter fun x => P x.ids)
theorem KP_append (P : List Int → Bool) (a b : List PR) : KP P (a ++ b) = oop (KP P a) (KP P b) := by unfold KP; rw [List.filter_append, Kn_append]
theorem KP_cons (P : List Int → Bool) (x : PR) (l : List PR) : KP P (x :: l) = oop (KP P [x]) (KP P l) := KP_append P [x] l
theorem KP_put (P : List Int → Bool) (x : PR) : ∀ l, KP P (putP l x) = oop (KP P l) (KP P [x])
  | [] => rfl
  | a :: t => by
    unfold putP
    split
    · next e =>
      have h1 : KP P [mrg a x] = oop (KP P [a]) (KP P [x]) := by
        unfold KP
        have e2 : (mrg a x).ids = a.ids := rfl
        by_cases h : P a.ids = true
        · have h3 : P x.ids = true := by rw [← e]; exact h
          simp [e2, h, h3, Kn, oop, cn, cop, mrg]
        · have h3 : ¬ P x.ids = true := by rw [← e]; exact h
          simp [e2, h, h3, Kn, oop]
      rw [KP_cons, h1, KP_cons P a t, oop_assoc, oop_assoc, oop_comm (KP P [x])]
    · split
      · rw [KP_cons, oop_comm]
      · rw [KP_cons, KP_put P x t, KP_cons P a t, oop_assoc]
theorem KP_fold (P : List Int → Bool) : ∀ (l out : List PR), KP P (l.foldl putP out) = oop (KP P out) (KP P l)
  | [], out => by rw [List.foldl_nil]; exact (oop_none _).symm
  | x :: l, out => by rw [List.foldl_cons, KP_fold P l, KP_put, oop_assoc, ← KP_cons]
theorem KP_tog (P : List Int → Bool) (l : List PR) : KP P (togP l) = KP P l := by
  unfold togP; rw [KP_fold]; rfl
theorem KP_map {P : List Int → Bool} {f : PR → PR} (hf : ∀ x, cn (f x) = cn x) (l : List PR) {Q : List Int → Bool} (hQ : ∀ x ∈ l, P (f x).ids = Q x.ids) : KP P (l.map f) = KP Q l := by
  induction l with
  | nil => rfl
  | cons x l ih =>
    rw [List.map_cons, KP_cons, KP_cons Q, ih (fun y hy => hQ y (by simp [hy]))]
    congr 1
    have h := hQ x (by simp)
    unfold KP
    by_cases hq : Q x.ids = true
    · simp [h, hq, Kn, oop, hf]
    · simp [h, hq]

/-- Rows turned round. -/
theorem nth_rev {l : List Int} {n i : Nat} (h : l.length = n) (hi : i < n) : nth l.reverse i = nth l (n - 1 - i) := by
  unfold nth
  rw [List.getD_eq_getElem?_getD, List.getD_eq_getElem?_getD, List.getElem?_reverse (by omega), h]
theorem rows_rev {S M : List (List Int)} {n : Nat} (hS : ∀ l ∈ S, l.length = n) (hM : ∀ l ∈ M, l.length = n) (h0 : (S.getD 0 []).length = n) : rowsP (S.map List.reverse) (M.map List.reverse) = (rowsP S M).reverse := by
  have h1 : ((S.map List.reverse).getD 0 []).length = n := by
    cases S with
    | nil => simpa using h0
    | cons a t => simpa using h0
  unfold rowsP
  rw [h1, h0]
  refine List.ext_getElem (by simp) fun i g1 g2 => ?_
  simp only [List.length_map, List.length_range] at g1
  rw [List.getElem_reverse, List.getElem_map, List.getElem_map, List.getElem_range, List.getElem_range]
  simp only [List.length_map, List.length_range]
  unfold rowPR
  simp only [List.map_map]
  congr 1
  · refine List.map_congr_left fun l hl => ?_
    simp only [Function.comp]
    exact nth_rev (hS l hl) g1
  · refine List.map_congr_left fun l hl => ?_
    simp only [Function.comp, nth_rev (hM l hl) g1]
theorem ofP_rev {S M : List (List Int)} {n leaf : Nat} (hS : ∀ l ∈ S, l.length = n) (hM : ∀ l ∈ M, l.length = n) (h0 : (S.getD 0 []).length = n) : ofP (S.map List.reverse) (M.map List.reverse) leaf = ofP S M leaf := by
  unfold ofP
  rw [rows_rev hS hM h0, togP_reverse, List.length_map]
end Go.Proofs.Ythmaobmgogmaoaa
