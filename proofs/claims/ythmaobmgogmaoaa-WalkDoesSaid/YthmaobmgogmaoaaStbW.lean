/-
  Star-trees: what records come to, in whatever order (plain).
  Star-trees: what a question takes (plain).
-/
import Derived.Test.YthmaobmgogmaoaaStbC
import Derived.Test.YthmaobmgogmaoaaStbI
namespace Go.Proofs.Ythmaobmgogmaoaa
open Go.RowKit
set_option linter.unusedSimpArgs false
set_option linter.unusedVariables false

theorem wrap_l (a b : Int) : IntKind.i64.wrap (IntKind.i64.wrap a + b) = IntKind.i64.wrap (a + b) := by
  rw [IntKind.wrap_i64, IntKind.wrap_i64, IntKind.wrap_i64]; omega
theorem wrap_r (a b : Int) : IntKind.i64.wrap (a + IntKind.i64.wrap b) = IntKind.i64.wrap (a + b) := by
  rw [IntKind.wrap_i64, IntKind.wrap_i64, IntKind.wrap_i64]; omega
theorem mrg1_comm (a b : S3) : mrg1 a b = mrg1 b a := by
  unfold mrg1
  rw [Int.add_comm, Int.min_comm, Int.max_comm]
theorem mrg1_assoc (a b c : S3) : mrg1 (mrg1 a b) c = mrg1 a (mrg1 b c) := by
  unfold mrg1
  simp only
  rw [wrap_l, wrap_r, Int.add_assoc, Int.min_assoc, Int.max_assoc]
theorem zip_comm : ∀ a b : List S3, List.zipWith mrg1 a b = List.zipWith mrg1 b a
  | [], [] => rfl
  | [], _ :: _ => rfl
  | _ :: _, [] => rfl
  | a :: s, b :: t => by rw [List.zipWith_cons_cons, List.zipWith_cons_cons, mrg1_comm, zip_comm s t]
theorem zip_assoc : ∀ a b c : List S3, List.zipWith mrg1 (List.zipWith mrg1 a b) c = List.zipWith mrg1 a (List.zipWith mrg1 b c)
  | [], _, _ => by simp
  | _ :: _, [], _ => by simp
  | _ :: _, _ :: _, [] => by simp
  | a :: s, b :: t, c :: u => by simp only [List.zipWith_cons_cons]; rw [mrg1_assoc, zip_assoc s t u]
/-- What a record comes to. -/
abbrev Cn := Int × List S3
def cop (a b : Cn) : Cn := (IntKind.i64.wrap (a.1 + b.1), List.zipWith mrg1 a.2 b.2)
theorem cop_comm (a b : Cn) : cop a b = cop b a := by unfold cop; rw [Int.add_comm, zip_comm]
theorem cop_assoc (a b c : Cn) : cop (cop a b) c = cop a (cop b c) := by unfold cop; simp only; rw [wrap_l, wrap_r, Int.add_assoc, zip_assoc]
def oop : Option Cn → Option Cn → Option Cn
  | none, b => b
  | some a, none => some a
  | some a, some b => some (cop a b)
theorem oop_none (a : Option Cn) : oop a none = a := by cases a <;> rfl
theorem oop_comm (a b : Option Cn) : oop a b = oop b a := by
  cases a <;> cases b <;> simp [oop, cop_comm]
theorem oop_assoc (a b c : Option Cn) : oop (oop a b) c = oop a (oop b c) := by
  cases a <;> cases b <;> cases c <;> simp [oop, cop_assoc]
def cn (x : PR) : Cn := (x.cnt, x.ms)
/-- What records come to together. -/
def Kn : List PR → Option Cn
  | [] => none
  | x :: l => oop (some (cn x)) (Kn l)
theorem Kn_append : ∀ a b, Kn (a ++ b) = oop (Kn a) (Kn b)
  | [], b => rfl
  | x :: a, b => by rw [List.cons_append, Kn, Kn, Kn_append a b, oop_assoc]
theorem Kn_one (x : PR) : Kn [x] = some (cn x) := rfl
theorem Kn_reverse : ∀ l, Kn l.reverse = Kn l
  | [] => rfl
  | x :: l => by rw [List.reverse_cons, Kn_append, Kn_reverse l, Kn_one, oop_comm]; rfl
theorem Kn_fold : ∀ (l : List PR) (a : PR), Kn (a :: l) = some (cn (l.foldl mrg a)) ∧ (l.foldl mrg a).ids = a.ids
  | [], a => ⟨rfl, rfl⟩
  | x :: l, a => by
    obtain ⟨h1, h2⟩ := Kn_fold l (mrg a x)
    refine ⟨?_, h2⟩
    rw [List.foldl_cons, ← h1, Kn, Kn, Kn, ← oop_assoc]; rfl
theorem grp_Kn (i : List Int) (l : List PR) : grp i l = match Kn (l.filter (hasI i)) with | none => [] | some c => [⟨i, c.1, c.2⟩] := by
  unfold grp
  cases h : l.filter (hasI i) with
  | nil => rfl
  | cons a t =>
    have ha : a.ids = i := by
      have : a ∈ l.filter (hasI i) := by rw [h]; simp
      simpa [hasI] using (List.mem_filter.1 this).2
    obtain ⟨h1, h2⟩ := Kn_fold t a
    rw [h1]
    simp only
    congr 1
    rw [← ha, ← h2]; rfl
/-- What is put together hangs on what each group comes to. -/
theorem togP_Kn {a b : List PR} (h : ∀ i, Kn (a.filter (hasI i)) = Kn (b.filter (hasI i))) : togP a = togP b := by
  obtain ⟨h1, h2⟩ := tog_togP a
  obtain ⟨h3, h4⟩ := tog_togP b
  refine ups_uniq h1 h3 fun i => ?_
  rw [h2 i, h4 i, grp_Kn, grp_Kn, h i]
theorem togP_reverse (l : List PR) : togP l.reverse = togP l := togP_Kn fun i => by rw [← List.reverse_reverse (l.reverse.filter (hasI i)), Kn_reverse, ← List.filter_reverse, List.reverse_reverse]
/-- Of those whose ids are so. -/
def KP (P : List Int → Bool) (l : List PR) : Option Cn := Kn (l.filter fun x => P x.ids)
theorem KP_append (P : List Int → Bool) (a b : List PR) : KP P (a ++ b) = oop (KP P a) (KP P b) := by unfold KP; rw [List.filter_append, Kn_append]
theorem KP_cons (P : List Int → Bool) (x : PR) (l : List PR) : KP P (x :: l) = oop (KP P [x]) (KP P l) := KP_append P [x] l
theorem KP_put (P : List Int → Bool) (x : PR) : ∀ l, KP P (putP l x) = oop (KP P l) (KP P [x])
  | [] => rfl
  | a :: t => by
    unfold putP
    split
    · next e =>
      have h1 : KP P [mrg a x] = oop (KP P [a]) (KP P [x]) := by
        unfold KP
        have e2 : (mrg a x).ids = a.ids := rfl
        by_cases h : P a.ids = true
        · have h3 : P x.ids = true := by rw [← e]; exact h
          simp [e2, h, h3, Kn, oop, cn, cop, mrg]
        · have h3 : ¬ P x.ids = true := by rw [← e]; exact h
          simp [e2, h, h3, Kn, oop]
      rw [KP_cons, h1, KP_cons P a t, oop_assoc, oop_assoc, oop_comm (KP P [x])]
    · split
      · rw [KP_cons, oop_comm]
      · rw [KP_cons, KP_put P x t, KP_cons P a t, oop_assoc]
theorem KP_fold (P : List Int → Bool) : ∀ (l out : List PR), KP P (l.foldl putP out) = oop (KP P out) (KP P l)
  | [], out => by rw [List.foldl_nil]; exact (oop_none _).symm
  | x :: l, out => by rw [List.foldl_cons, KP_fold P l, KP_put, oop_assoc, ← KP_cons]
theorem KP_tog (P : List Int → Bool) (l : List PR) : KP P (togP l) = KP P l := by
  unfold togP; rw [KP_fold]; rfl
theorem KP_map {P : List Int → Bool} {f : PR → PR} (hf : ∀ x, cn (f x) = cn x) (l : List PR) {Q : List Int → Bool} (hQ : ∀ x ∈ l, P (f x).ids = Q x.ids) : KP P (l.map f) = KP Q l := by
  induction l with
  | nil => rfl
  | cons x l ih =>
    rw [List.map_cons, KP_cons, KP_cons Q, ih (fun y hy => hQ y (by simp [hy]))]
    congr 1
    have h := hQ x (by simp)
    unfold KP
    by_cases hq : Q x.ids = true
    · simp [h, hq, Kn, oop, hf]
    · simp [h, hq]

/-- Rows turned round. -/
theorem nth_rev {l : List Int} {n i : Nat} (h : l.length = n) (hi : i < n) : nth l.reverse i = nth l (n - 1 - i) := by
  unfold nth
  rw [List.getD_eq_getElem?_getD, List.getD_eq_getElem?_getD, List.getElem?_reverse (by omega), h]
theorem rows_rev {S M : List (List Int)} {n : Nat} (hS : ∀ l ∈ S, l.length = n) (hM : ∀ l ∈ M, l.length = n) (h0 : (S.getD 0 []).length = n) : rowsP (S.map List.reverse) (M.map List.reverse) = (rowsP S M).reverse := by
  have h1 : ((S.map List.reverse).getD 0 []).length = n := by
    cases S with
    | nil => simpa using h0
    | cons a t => simpa using h0
  unfold rowsP
  rw [h1, h0]
  refine List.ext_getElem (by simp) fun i g1 g2 => ?_
  simp only [List.length_map, List.length_range] at g1
  rw [List.getElem_reverse, List.getElem_map, List.getElem_map, List.getElem_range, List.getElem_range]
  simp only [List.length_map, List.length_range]
  unfold rowPR
  simp only [List.map_map]
  congr 1
  · refine List.map_congr_left fun l hl => ?_
    simp only [Function.comp]
    exact nth_rev (hS l hl) g1
  · refine List.map_congr_left fun l hl => ?_
    simp only [Function.comp, nth_rev (hM l hl) g1]
theorem ofP_rev {S M : List (List Int)} {n leaf : Nat} (hS : ∀ l ∈ S, l.length = n) (hM : ∀ l ∈ M, l.length = n) (h0 : (S.getD 0 []).length = n) : ofP (S.map List.reverse) (M.map List.reverse) leaf = ofP S M leaf := by
  unfold ofP
  rw [rows_rev hS hM h0, togP_reverse, List.length_map]
end Go.Proofs.Ythmaobmgogmaoaa
namespace Go.Proofs.Ythmaobmgogmaoaa
open Go.RowKit
set_option linter.unusedSimpArgs false
set_option linter.unusedVariables false

def allowedB (m : List Bool) (id : Int) : Bool := decide (m.length = 0) || (decide (0 ≤ id) && (decide (id < (m.length : Int)) && nthF m id.toNat))
def okRec (may : List (List Bool)) (ids : List Int) : Bool := (List.range ids.length).all fun j => allowedB (rowF may j) (ids.getD j 0)
def recAt (R : List PR) (i : Nat) : PR := R.getD i default
/-- Of a leaf. -/
def leafL (R : List PR) (may : List (List Bool)) (p : Nat) : Nat → List Nat
  | 0 => []
  | n + 1 => leafL R may p n ++ if okRec may (recAt R (p + n)).ids then [p + n] else []
def lastK (kids : List (Int × Nat)) : Int × Nat := kids.getD (kids.length - 1) (0, 0)
def takeK (m : List Bool) (x : Int × Nat) : Bool := decide (x.1 ≠ -1) && allowedB m x.1
/-- Where the walk goes on. -/
def belowP (kids : List (Int × Nat)) (m : List Bool) (b : Bool) : List Nat := if (lastK kids).1 = -1 ∧ m.length = 0 ∧ b = false then [(lastK kids).2] else (kids.filter (takeK m)).map (·.2)
def askF (R : List PR) (N : List PN) (may : List (List Bool)) (by' : List Bool) : Nat → Nat → List Nat
  | 0, _ => []
  | F + 1, n => if (N.getD n default).kids = [] then leafL R may (N.getD n default).f ((N.getD n default).t - (N.getD n default).f) else (belowP (N.getD n default).kids (rowF may (N.getD n default).d) (nthF by' (N.getD n default).d)).flatMap (askF R N may by' F)
def szF (N : List PN) (may : List (List Bool)) (by' : List Bool) : Nat → Nat → Nat
  | 0, _ => 1
  | F + 1, n => 1 + if (N.getD n default).kids = [] then 0 else ((belowP (N.getD n default).kids (rowF may (N.getD n default).d) (nthF by' (N.getD n default).d)).map (szF N may by' F)).sum
section
variable (k : Nat) (R : List PR) (N : List PN) (may : List (List Bool)) (by' : List Bool)
def askN (n : Nat) : List Nat := askF R N may by' (k - (N.getD n default).d + 1) n
def szN (n : Nat) : Nat := szF N may by' (k - (N.getD n default).d + 1) n
end
theorem lastK_mem {kids : List (Int × Nat)} (h : kids ≠ []) : lastK kids ∈ kids := by
  have hl : kids.length - 1 < kids.length := by have := List.length_pos_iff.2 h; omega
  unfold lastK
  rw [List.getD_eq_getElem?_getD, List.getElem?_eq_getElem hl]
  exact List.getElem_mem hl
theorem belowP_mem {kids : List (Int × Nat)} {m : List Bool} {b : Bool} (hne : kids ≠ []) {c : Nat} (h : c ∈ belowP kids m b) : ∃ x ∈ kids, x.2 = c := by
  unfold belowP at h
  split at h
  · simp at h
    exact ⟨_, lastK_mem hne, h.symm⟩
  · obtain ⟨x, hx, rfl⟩ := List.mem_map.1 h
    exact ⟨x, (List.mem_filter.1 hx).1, rfl⟩
theorem getD_some {N : List PN} {n : Nat} {y : PN} (h : N[n]? = some y) : N.getD n default = y := by rw [List.getD_eq_getElem?_getD, h]; rfl
theorem ask_leaf {k : Nat} {R : List PR} {N : List PN} {may : List (List Bool)} {by' : List Bool} {n : Nat} {y : PN} (h : N[n]? = some y) (hk : y.kids = []) : askN k R N may by' n = leafL R may y.f (y.t - y.f) ∧ szN k N may by' n = 1 := by
  unfold askN szN
  rw [askF, szF, getD_some h, if_pos hk, if_pos hk]
  exact ⟨rfl, rfl⟩
theorem ask_kids {leaf k : Nat} {R : List PR} {N : List PN} {may : List (List Bool)} {by' : List Bool} {n : Nat} {y : PN} (h : N[n]? = some y) (hi : NodeIs leaf k R N n y) (hk : y.kids ≠ []) :
    askN k R N may by' n = (belowP y.kids (rowF may y.d) (nthF by' y.d)).flatMap (askN k R N may by') ∧ szN k N may by' n = 1 + ((belowP y.kids (rowF may y.d) (nthF by' y.d)).map (szN k N may by')).sum ∧ ∀ c ∈ belowP y.kids (rowF may y.d) (nthF by' y.d), n < c ∧ c < N.length := by
  have hc : ∀ c ∈ belowP y.kids (rowF may y.d) (nthF by' y.d), n < c ∧ c < N.length ∧ k - (N.getD c default).d + 1 = k - y.d := fun c hc => by
    obtain ⟨x, hx, rfl⟩ := belowP_mem hk hc
    obtain ⟨s, hs, rfl⟩ := List.getElem_of_mem hx
    obtain ⟨z, hz⟩ := hi.kid s _ (List.getElem?_eq_getElem hs)
    have h1 := hz.d
    have h2 := hz.dk
    refine ⟨hz.gt, (List.getElem?_eq_some_iff.1 hz.at').1, ?_⟩
    rw [getD_some hz.at']; omega
  refine ⟨?_, ?_, fun c h => ⟨(hc c h).1, (hc c h).2.1⟩⟩
  · conv => lhs; unfold askN
    rw [askF, getD_some h, if_neg hk]
    rw [List.flatMap_def, List.flatMap_def]
    congr 1
    refine List.map_congr_left fun c hcm => ?_
    unfold askN
    rw [(hc c hcm).2.2]
  · conv => lhs; unfold szN
    rw [szF, getD_some h, if_neg hk]
    congr 2
    refine List.map_congr_left fun c hcm => ?_
    unfold szN
    rw [(hc c hcm).2.2]

theorem leafL_filter (R : List PR) (may : List (List Bool)) (p : Nat) : ∀ n, p + n ≤ R.length → (leafL R may p n).map (recAt R) = (seg R p (p + n)).filter (fun x => okRec may x.ids)
  | 0, _ => by
    unfold leafL seg
    rw [List.drop_take, Nat.add_zero, Nat.sub_self]; rfl
  | n + 1, h => by
    have ih := leafL_filter R may p n (by omega)
    have hg : R[p + n]? = some R[p + n] := List.getElem?_eq_getElem (by omega)
    have hr : recAt R (p + n) = R[p + n] := by unfold recAt; rw [List.getD_eq_getElem?_getD, hg]; rfl
    have hs : seg R p (p + (n + 1)) = seg R p (p + n) ++ [R[p + n]] := by
      rw [seg_split R (show p ≤ p + n by omega) (show p + n ≤ p + (n + 1) by omega) h]
      congr 1
      unfold seg
      rw [List.drop_take, show p + (n + 1) - (p + n) = 1 by omega, List.drop_eq_getElem_cons (by omega : p + n < R.length), List.take_succ_cons, List.take_zero]
    rw [hs, List.filter_append, ← ih, leafL, List.map_append, hr]
    congr 1
    by_cases ho : okRec may R[p + n].ids = true
    · simp [ho, hr]
    · simp [ho]
theorem leafL_mem {R : List PR} {may : List (List Bool)} {p : Nat} : ∀ {n i : Nat}, i ∈ leafL R may p n → p ≤ i ∧ i < p + n ∧ okRec may (recAt R i).ids = true
  | 0, i, h => by simp [leafL] at h
  | n + 1, i, h => by
    unfold leafL at h
    rcases List.mem_append.1 h with h | h
    · obtain ⟨h1, h2, h3⟩ := leafL_mem h
      exact ⟨h1, by omega, h3⟩
    · split at h
      · next ho =>
        simp at h; subst h
        exact ⟨by omega, by omega, ho⟩
      · simp at h
theorem leafL_nodup (R : List PR) (may : List (List Bool)) (p : Nat) : ∀ n, (leafL R may p n).Nodup
  | 0 => List.nodup_nil
  | n + 1 => by
    unfold leafL
    refine List.nodup_append.2 ⟨leafL_nodup R may p n, ?_, ?_⟩
    · split
      · exact List.nodup_cons.2 ⟨by simp, List.nodup_nil⟩
      · exact List.nodup_nil
    · intro a ha b hb
      have h1 := (leafL_mem ha).2.1
      split at hb
      · simp at hb; omega
      · simp at hb
/-- A column of which nothing is asked. -/
def Free (may : List (List Bool)) (by' : List Bool) (j : Nat) : Prop := (rowF may j).length = 0 ∧ nthF by' j = false
def Ins (may : List (List Bool)) (by' : List Bool) (P : List Int → Bool) : Prop := ∀ j, Free may by' j → ∀ ids, P (ids.set j (-1)) = P ids
theorem okRec_get {may : List (List Bool)} {ids : List Int} : okRec may ids = true ↔ ∀ j, j < ids.length → allowedB (rowF may j) (ids.getD j 0) = true := by
  unfold okRec
  rw [List.all_eq_true]
  exact ⟨fun h j hj => h j (by simpa using hj), fun h j hj => h j (by simpa using hj)⟩
theorem allowed_free {m : List Bool} (h : m.length = 0) (i : Int) : allowedB m i = true := by unfold allowedB; rw [decide_eq_true h]; rfl
theorem okRec_set {may : List (List Bool)} {ids : List Int} {d : Nat} (h : (rowF may d).length = 0) (v : Int) : okRec may (ids.set d v) = okRec may ids := by
  rw [Bool.eq_iff_iff, okRec_get, okRec_get, List.length_set]
  refine forall_congr' fun j => forall_congr' fun hj => ?_
  rw [getI_set]
  by_cases e : j = d ∧ d < ids.length
  · rw [if_pos e, e.1, allowed_free h, allowed_free h]
  · rw [if_neg e]
/-- What the walk below a node takes. -/
structure WalkIs (k : Nat) (R : List PR) (may : List (List Bool)) (by' : List Bool) (L : List Nat) (A : List PR) (p q r r' : Nat) : Prop where
  sum : ∀ P, Ins may by' P → KP P (L.map (recAt R)) = KP (fun i => P i && okRec may i) A
  nd : L.Nodup
  rng : ∀ i ∈ L, (p ≤ i ∧ i < q) ∨ (r ≤ i ∧ i < r')
  ok : ∀ i ∈ L, i < R.length ∧ okRec may (recAt R i).ids = true ∧ ∀ j, (recAt R i).ids.getD j 0 = -1 → nthF by' j = false
/-- What holds of the columns ahead. -/
def Pre (may : List (List Bool)) (by' : List Bool) (d : Nat) (A : List PR) : Prop := ∀ x ∈ A, ∀ j, j < d → allowedB (rowF may j) (x.ids.getD j 0) = true ∧ (x.ids.getD j 0 = -1 → nthF by' j = false)
theorem recAt_get {R : List PR} {i : Nat} {x : PR} (h : R[i]? = some x) : recAt R i = x := by unfold recAt; rw [List.getD_eq_getElem?_getD, h]; rfl
theorem KP_filter (P Q : List Int → Bool) (A : List PR) : KP P (A.filter fun x => Q x.ids) = KP (fun i => P i && Q i) A := by
  unfold KP
  rw [List.filter_filter]
theorem KP_none {P : List Int → Bool} {A : List PR} (h : ∀ x ∈ A, P x.ids = false) : KP P A = none := by
  unfold KP
  rw [List.filter_eq_nil_iff.2 (fun x hx => by rw [h x hx]; simp)]; rfl
theorem KidsOk.impR {P P' : Nat → Nat → Nat → Nat → Nat → Nat → Prop} {R : List PR} {d q : Nat} {a m r : Nat} {ks : List (Int × Nat)} {m' r' : Nat} (h : KidsOk P R d q a m r ks m' r') {lo rlo : Nat} (hlo : lo ≤ a) (hr : rlo ≤ r)
    (hP : ∀ a e m m1 r r1, lo ≤ a → a < e → e ≤ q → rlo ≤ r → P a e m m1 r r1 → P' a e m m1 r r1) (hm : ∀ a e m m1 r r1, P a e m m1 r r1 → r ≤ r1) : KidsOk P' R d q a m r ks m' r' := by
  induction h with
  | nil => exact .nil _ _
  | cons h1 h2 h3 h4 _ ih => exact .cons h1 h2 h3 (hP _ _ _ _ _ _ hlo h1 h2 hr h4) (ih (by omega) (Nat.le_trans hr (hm _ _ _ _ _ _ h4)))
theorem kids_walk {k : Nat} {R : List PR} {N : List PN} {may : List (List Bool)} {by' : List Bool} {d q : Nat} {a m r : Nat} {ks : List (Int × Nat)} {m' r' : Nat} (hq : q ≤ R.length) (hdk : d < k)
    (h : KidsOk (fun a e m m1 r r1 => r ≤ r1 ∧ (Pre may by' (d + 1) (seg R a e) → WalkIs k R may by' (askN k R N may by' m) (seg R a e) a e r r1)) R d q a m r ks m' r') (hl : ListOk k d (seg R a q)) (hp : Pre may by' d (seg R a q)) (hr : q ≤ r ∨ r' = r) :
    r ≤ r' ∧ WalkIs k R may by' (((ks.filter (takeK (rowF may d))).map (·.2)).flatMap (askN k R N may by')) (seg R a q) a q r r' := by
  induction h with
  | nil =>
    have e : seg R q q = [] := by unfold seg; rw [List.drop_take, Nat.sub_self]; rfl
    rw [e]
    exact ⟨Nat.le_refl _, ⟨fun P _ => rfl, List.nodup_nil, by simp, by simp⟩⟩
  | cons h1 h2 h3 h4 h5 ih =>
    rename_i a e m m1 r r1 m' r' id ks
    have hs := seg_split R (show a ≤ e by omega) h2 hq
    have hidx : ∀ x ∈ seg R a e, x.ids.getD d 0 = id := fun x hx => by
      obtain ⟨j, j1, j2, j3⟩ := mem_seg hx
      rw [← idAt_get j3]; exact h3 j j1 j2
    have hid : 0 ≤ id := by
      obtain ⟨x, hx⟩ : ∃ x, R[a]? = some x := ⟨_, List.getElem?_eq_getElem (by omega)⟩
      have hm : x ∈ seg R a e := seg_mem (Nat.le_refl _) h1 hx
      rw [← hidx x hm]
      exact (hl.1 x (by rw [hs]; simp [hm])).2.1 d (Nat.le_refl _) hdk
    have hlen : ∀ x ∈ seg R a e, x.ids.length = k := fun x hx => (hl.1 x (by rw [hs]; simp [hx])).1
    obtain ⟨i0, i1⟩ := ih (hl.sub (by omega) h2 (Nat.le_refl _) hq) (fun x hx => hp x (by rw [hs]; simp [hx])) (by
      rcases hr with hr | hr
      · exact .inl (by have := h4.1; omega)
      · have h6 := h4.1
        have h7 : r1 ≤ r' := by
          clear ih
          exact (h5.imp (P' := fun _ _ _ _ r r1 => r ≤ r1) (Nat.le_refl _) (fun _ _ _ _ _ _ _ _ _ h => h.1)).rec (motive := fun _ _ r _ _ r' _ => r ≤ r') (fun _ _ => Nat.le_refl _) (fun _ _ _ h4 _ ih => Nat.le_trans h4 ih)
        exact .inr (by omega))
    refine ⟨Nat.le_trans h4.1 i0, ?_⟩
    have htk : takeK (rowF may d) (id, m) = allowedB (rowF may d) id := by
      unfold takeK
      rw [decide_eq_true (by dsimp only; omega)]; rfl
    by_cases ha : allowedB (rowF may d) id = true
    · have hpre : Pre may by' (d + 1) (seg R a e) := fun x hx j hj => by
        by_cases hjd : j = d
        · subst hjd
          rw [hidx x hx]
          exact ⟨ha, fun h => by omega⟩
        · exact hp x (by rw [hs]; simp [hx]) j (by omega)
      have hw := h4.2 hpre
      rw [List.filter_cons_of_pos (by rw [htk]; exact ha), List.map_cons, List.flatMap_cons, hs]
      refine ⟨fun P hP => ?_, ?_, ?_, ?_⟩
      · rw [List.map_append, KP_append, KP_append, hw.sum P hP, i1.sum P hP]
      · refine List.nodup_append.2 ⟨hw.nd, i1.nd, fun x hx y hy => ?_⟩
        have g1 := hw.rng x hx
        have g2 := i1.rng y hy
        have h6 := h4.1
        rcases hr with hr | hr <;> omega
      · intro x hx
        have h6 := h4.1
        rcases List.mem_append.1 hx with hx | hx
        · have g1 := hw.rng x hx; omega
        · have g1 := i1.rng x hx; omega
      · intro x hx
        rcases List.mem_append.1 hx with hx | hx
        · exact hw.ok x hx
        · exact i1.ok x hx
    · rw [List.filter_cons_of_neg (by rw [htk]; exact ha), hs]
      refine ⟨fun P hP => ?_, i1.nd, fun x hx => ?_, i1.ok⟩
      · rw [KP_append, i1.sum P hP, KP_none (A := seg R a e) (fun x hx => ?_)]
        · rfl
        · have hno : okRec may x.ids = false := by
            rw [← Bool.not_eq_true, okRec_get]
            intro h
            have := h d (by rw [hlen x hx]; exact hdk)
            rw [hidx x hx] at this
            exact ha this
          rw [hno]; simp
      · have g1 := i1.rng x hx
        have h6 := h4.1
        omega
theorem node_walk (leaf k : Nat) (R : List PR) (N : List PN) (may : List (List Bool)) (by' : List Bool) (hN : ∀ i, i < N.length → ∃ y, N[i]? = some y ∧ NodeIs leaf k R N i y) :
    ∀ f st p q n n' r r', f ≤ k → Rng k R (k - f) p q → (st = true ∨ q ≤ r) → NodeOk leaf k R N f st p q n n' r r' → Pre may by' (k - f) (seg R p q) → WalkIs k R may by' (askN k R N may by' n) (seg R p q) p q r r'
  | f, st, p, q, n, n', r, r', hf, hr, hqr, h, hp => by
    have hleaf : ∀ y : PN, N[n]? = some y → y.kids = [] → y.f = p → y.t = q → WalkIs k R may by' (askN k R N may by' n) (seg R p q) p q r r' := fun y hy hk e1 e2 => by
      rw [(ask_leaf hy hk).1, e1, e2]
      have e3 : p + (q - p) = q := by have := hr.1; omega
      have hfl := leafL_filter R may p (q - p) (by rw [e3]; exact hr.2.1)
      rw [e3] at hfl
      refine ⟨fun P hP => by rw [hfl, KP_filter], leafL_nodup _ _ _ _, fun i hi => ?_, fun i hi => ?_⟩
      · have := leafL_mem hi; omega
      · obtain ⟨h1, h2, h3⟩ := leafL_mem hi
        have hil : i < R.length := by have := hr.2.1; omega
        have hg : R[i]? = some R[i] := List.getElem?_eq_getElem hil
        refine ⟨hil, h3, fun j hj => ?_⟩
        rw [recAt_get hg] at hj
        have hm : R[i] ∈ seg R p q := seg_mem h1 (by omega) hg
        by_cases hjd : j < k - f
        · exact (hp _ hm j hjd).2 hj
        · have hl := hr.2.2.1 _ hm
          by_cases hjk : j < k
          · have := hl.2.1 j (by omega) hjk; omega
          · rw [List.getD_eq_getElem?_getD, List.getElem?_eq_none (by rw [hl.1]; omega)] at hj
            simp at hj
    cases f with
    | zero => exact hleaf _ h.1 rfl rfl rfl
    | succ f =>
      rcases h with ⟨h1, h2, -⟩ | ⟨h1, ks, m, b, hk, h⟩
      · exact hleaf _ h2 rfl rfl rfl
      · have e : k - (f + 1) + 1 = k - f := by omega
        have hd : k - (f + 1) < k := by omega
        have hmono : r ≤ b ∧ (st = true → b = r) := ⟨((hk.imp (P' := fun _ _ m m1 r r1 => m < m1 ∧ r ≤ r1) (Nat.le_refl _) (fun a e m m1 r r1 _ _ _ h => ⟨(node_mono leaf k R N f st a e m m1 r r1 h).1, (node_mono leaf k R N f st a e m m1 r r1 h).2.1⟩)).mono).2,
          fun hst => by
            have h2 := (hk.imp (P' := fun _ _ _ _ r r1 => r1 = r) (Nat.le_refl _) (fun a e m m1 r r1 _ _ _ h => (node_mono leaf k R N f st a e m m1 r r1 h).2.2 hst)).same
            exact h2⟩
        have hkw : st = true ∨ q ≤ r → r ≤ b ∧ WalkIs k R may by' (((ks.filter (takeK (rowF may (k - (f + 1))))).map (·.2)).flatMap (askN k R N may by')) (seg R p q) p q r b := fun hqr => by
          have hki := KidsOk.impR (P' := fun a e m m1 r r1 => r ≤ r1 ∧ (Pre may by' (k - (f + 1) + 1) (seg R a e) → WalkIs k R may by' (askN k R N may by' m) (seg R a e) a e r r1)) hk (Nat.le_refl _) (Nat.le_refl _) (fun a e' m m1 r2 r3 hpa hae heq hrr h => by
            have hmo := node_mono leaf k R N f st a e' m m1 r2 r3 h
            refine ⟨hmo.2.1, fun hpre => ?_⟩
            rw [e] at hpre
            refine node_walk leaf k R N may by' hN f st a e' m m1 r2 r3 (by omega) ⟨by omega, by have := hr.2.1; omega, (hr.2.2.sub hpa (by omega) heq hr.2.1).down (by omega)⟩ ?_ h hpre
            rcases hqr with hqr | hqr
            · exact .inl hqr
            · exact .inr (by omega)) (fun a e' m m1 r2 r3 h => (node_mono leaf k R N f st a e' m m1 r2 r3 h).2.1)
          refine kids_walk hr.2.1 hd hki hr.2.2 hp ?_
          rcases hqr with hqr | hqr
          · exact .inr (hmono.2 hqr)
          · exact .inl hqr
        have hn : n < N.length := by
          rcases h with ⟨-, h2, -⟩ | ⟨-, h2, -⟩ <;> exact (List.getElem?_eq_some_iff.1 h2).1
        obtain ⟨y, hy, hyi⟩ := hN n hn
        have hne : ks ≠ [] := by
          cases hk with
          | nil => omega
          | cons => simp
        have hge : ∀ j, p ≤ j → j < q → 0 ≤ idAt R j (k - (f + 1)) := fun j hj1 hj2 => by
          have hj : R[j]? = some (R[j]'(by have := hr.2.1; omega)) := List.getElem?_eq_getElem _
          rw [idAt_get hj]
          exact (hr.2.2.1 _ (seg_mem hj1 hj2 hj)).2.1 _ (Nat.le_refl _) hd
        obtain ⟨-, -, k2⟩ := kids_list (N := N) (hk.imp (P' := fun a e m m1 _ _ => m < m1 ∧ ∃ ks, N[m]? = some ⟨k - (f + 1) + 1, a, e, ks⟩) (Nat.le_refl _) (fun a e' m m1 r r1 _ _ _ h => ⟨(node_mono leaf k R N f st a e' m m1 r r1 h).1, by rw [e]; exact node_at h⟩)) hr.2.1 hge
        rcases h with ⟨rfl, h2, rfl, rfl⟩ | ⟨rfl, h2, hb, he, h⟩
        · rw [hy] at h2
          cases h2
          have hlast : (lastK ks).1 ≠ -1 := by
            obtain ⟨s, hs, e3⟩ := List.getElem_of_mem (lastK_mem hne)
            have := (k2 s _ (List.getElem?_eq_getElem hs)).2.2.1
            rw [e3] at this; omega
          rw [(ask_kids hy hyi hne).1]
          dsimp only
          unfold belowP
          rw [if_neg (fun h => hlast h.1)]
          exact (hkw (.inl rfl)).2
        · rw [hy] at h2
          cases h2
          have hne2 : ks ++ [((-1 : Int), m)] ≠ [] := by simp
          have hlast : lastK (ks ++ [((-1 : Int), m)]) = (-1, m) := by
            unfold lastK
            rw [List.length_append, List.length_singleton, Nat.add_sub_cancel, List.getD_eq_getElem?_getD, List.getElem?_append_right (Nat.le_refl _), Nat.sub_self]; rfl
          have hqr2 : q ≤ r := by
            rcases hqr with h | h
            · cases h
            · exact h
          have hsm := node_mono leaf k R N f true _ _ _ _ _ _ h
          rw [(ask_kids hy hyi hne2).1]
          dsimp only
          unfold belowP
          rw [hlast]
          by_cases hfree : (rowF may (k - (f + 1))).length = 0 ∧ nthF by' (k - (f + 1)) = false
          · rw [if_pos ⟨rfl, hfree⟩]
            simp only [List.flatMap_cons, List.flatMap_nil, List.append_nil]
            have hseg := seg_block hb he
            have hst := hr.2.2.star
            rw [e] at hst
            have hpre2 : Pre may by' (k - f) (seg R b (b + (starRecs R (k - (f + 1)) p q).length)) := fun x hx j hj => by
              rw [hseg] at hx
              obtain ⟨x0, hx0, ex⟩ := star_of hx
              rw [ex, getI_set]
              by_cases hjd : j = k - (f + 1) ∧ k - (f + 1) < x0.ids.length
              · rw [if_pos hjd, hjd.1]
                exact ⟨allowed_free hfree.1 _, fun _ => hfree.2⟩
              · rw [if_neg hjd]
                have hx0l := (hr.2.2.1 x0 hx0).1
                exact hp x0 hx0 j (by rw [hx0l] at hjd; omega)
            have hw := node_walk leaf k R N may by' hN f true _ _ m n' _ r' (by omega) ⟨by omega, hb, by rw [hseg]; exact hst⟩ (.inl rfl) h hpre2
            refine ⟨fun P hP => ?_, hw.nd, fun i hi => ?_, hw.ok⟩
            · rw [hw.sum P hP, hseg]
              unfold starRecs
              rw [KP_tog]
              exact KP_map (P := fun i => P i && okRec may i) (f := starAt (k - (f + 1))) (fun _ => rfl) (seg R p q) (Q := fun i => P i && okRec may i) (fun x hx => by
                show (P (x.ids.set _ (-1)) && okRec may (x.ids.set _ (-1))) = _
                rw [hP _ hfree, okRec_set hfree.1])
            · have g1 := hw.rng i hi
              have g2 := hmono.1
              have g3 := hsm.2.2 rfl
              omega
          · rw [if_neg (fun h => hfree h.2), List.filter_append]
            have hdrop : [((-1 : Int), m)].filter (takeK (rowF may (k - (f + 1)))) = [] := by simp [takeK]
            rw [hdrop, List.append_nil]
            obtain ⟨-, hw⟩ := hkw (.inr hqr2)
            have g2 := hsm.2.1
            exact ⟨hw.sum, hw.nd, fun i hi => by have g1 := hw.rng i hi; omega, hw.ok⟩
/-- What a question takes of a tree. -/
theorem walk_law {S M : List (List Int)} {leaf n : Nat} (hn : (S.getD 0 []).length = n) (hb : n ≤ 80) (hge : ∀ l ∈ S, ∀ x ∈ l, 0 ≤ x) (may : List (List Bool)) (by' : List Bool) :
    (∀ P, Ins may by' P → KP P ((askN S.length (ofP S M leaf).R (ofP S M leaf).N may by' 0).map (recAt (ofP S M leaf).R)) = KP (fun i => P i && okRec may i) (rowsP S M)) ∧ (askN S.length (ofP S M leaf).R (ofP S M leaf).N may by' 0).Nodup ∧
      ∀ i ∈ askN S.length (ofP S M leaf).R (ofP S M leaf).N may by' 0, i < (ofP S M leaf).R.length ∧ okRec may (recAt (ofP S M leaf).R i).ids = true ∧ ∀ j, (recAt (ofP S M leaf).R i).ids.getD j 0 = -1 → nthF by' j = false := by
  obtain ⟨h1, h2⟩ := base_ok (M := M) hn hb hge
  obtain ⟨E, h3, h4⟩ := ofP_node S M leaf
  obtain ⟨-, hN, -⟩ := nodes_law (M := M) (leaf := leaf) hn hb hge
  have hseg : seg (ofP S M leaf).R 0 (togP (rowsP S M)).length = togP (rowsP S M) := by
    unfold seg; rw [h3, List.take_left' rfl]; rfl
  have hw := node_walk leaf S.length _ _ may by' hN S.length false 0 _ 0 _ _ _ (Nat.le_refl _) ⟨Nat.zero_le _, by rw [h3, List.length_append]; omega, by rw [hseg, Nat.sub_self]; exact h1⟩ (.inr (Nat.le_refl _)) h4 (fun x hx j hj => by omega)
  exact ⟨fun P hP => by rw [hw.sum P hP, hseg, KP_tog], hw.nd, hw.ok⟩
end Go.Proofs.Ythmaobmgogmaoaa
