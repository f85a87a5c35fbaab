/-
  A region that draws its order, by what each operation yields: one law for every order.
-/
import Derived.Test.YthmaobmgogmaoaaBase
import Derived.Orders
namespace Go.Proofs.Ythmaobmgogmaoaa
open Go.RowKit
set_option linter.unusedSimpArgs false
set_option linter.unusedVariables false

section
variable {P : Program}

theorem wp_mono2 {o : Oper} {a : Act} {w : World} {K K' : Act → World → Prop} {Q Q' : Exit → Act → World → Prop} (h : ∀ a w, K a w → K' a w) (hq : ∀ e a w, Q e a w → Q' e a w)
    (hh : o.wp P a w K Q) : o.wp P a w K' Q' := by
  unfold Oper.wp at *
  generalize (execOp a.eval o).run P w = r at *
  cases r with
  | ok n w' =>
    cases n <;> simp only [Oper.upon] at hh ⊢ <;>
      first
        | exact h _ _ hh
        | exact Calls.mono hh (fun e w'' he => by cases e <;> first | exact h _ _ he | exact hq _ _ _ he | exact (let ⟨a, w, q⟩ := he; ⟨a, w, hq _ _ _ q⟩))
        | exact Rows.mono hh (fun _ _ he => h _ _ he)
  | halt x w' => cases x <;> simp only [Oper.upon] at hh ⊢ <;> first | exact hq _ _ _ hh | exact hh

/-- What operation i yields: V i; the world goes on by R. -/
def ExecV (P : Program) (ops : Array Oper) (R : World → World → Prop) (Vi : Value → World → Prop) (o : Oper) (a : Act) (w : World) : Prop :=
  if Region.wanted o (yielded ops a.tmps) then o.wp P a w (fun a' w' => ∃ v, a' = a.put o.dst v ∧ Vi v w' ∧ R w w') (fun _ _ _ => False) else Vi undef w

/-- What an operation may be told of the frame: of a slot that is not written in the region ahead of it, that it is as it was; of one that operation j has written, V j. -/
def Need (V : Nat → Value → World → Prop) (a0 a : Act) (w : World) : List (Nat × Option Nat) → Prop → Prop
  | [], C => C
  | (t, none) :: r, C => a.tmps[t]? = a0.tmps[t]? → Need V a0 a w r C
  | (t, some j) :: r, C => ∀ v, a.tmps[t]? = some v → V j v w → Need V a0 a w r C

theorem Need.use {V : Nat → Value → World → Prop} {a0 a : Act} {w : World} {C : Prop} : ∀ {r : List (Nat × Option Nat)}, Need V a0 a w r C →
    (∀ p ∈ r, match p.2 with | none => a.tmps[p.1]? = a0.tmps[p.1]? | some j => ∃ v, a.tmps[p.1]? = some v ∧ V j v w) → C
  | [], h, _ => h
  | (t, none) :: r, h, hp => Need.use (h (hp (t, none) (by simp))) (fun p hm => hp p (List.mem_cons_of_mem _ hm))
  | (t, some j) :: r, h, hp => let ⟨v, h1, h2⟩ := hp (t, some j) (by simp); Need.use (h v h1 h2) (fun p hm => hp p (List.mem_cons_of_mem _ hm))

def onB (o : Oper) (j : Nat) : Bool := o.after.toList.any fun e => e.on == j && Region.binds .any e
def entryB (l : List Oper) (i : Nat) (o : Oper) (p : Nat × Option Nat) : Bool :=
  match p.2 with
  | none => l.zipIdx.all fun (o', j) => o'.dst != some p.1 || j == i || onB o' i
  | some j => ((l[j]?).bind (·.dst)) == some p.1 && onB o j
def opB (l : List Oper) (n : Nat) (i : Nat) (o : Oper) (rd : List (Nat × Option Nat)) : Bool :=
  rd.all (entryB l i o) && o.after.toList.all (fun e => !Region.binds .any e || decide (e.on < i)) && (match o.dst with | some d => decide (d < n) && l.zipIdx.all (fun (o', j) => o'.dst != some d || j == i) | none => true)
def checkB (l : List Oper) (n : Nat) (rds : List (List (Nat × Option Nat))) : Bool :=
  rds.length == l.length && (l.zip rds).zipIdx.all fun ((o, rd), i) => opB l n i o rd

/-- What is to be shown, operation by operation. -/
def Obl (P : Program) (ops : Array Oper) (R : World → World → Prop) (w0 : World) (a0 : Act) (V : Nat → Value → World → Prop) : Nat → List Oper → List (List (Nat × Option Nat)) → Prop
  | i, o :: l, rd :: rs => (∀ a w, R w0 w → Need V a0 a w rd (ExecV P ops R (V i) o a w)) ∧ Obl P ops R w0 a0 V (i + 1) l rs
  | _, _, _ => True

theorem Obl.get {ops : Array Oper} {R : World → World → Prop} {w0 : World} {a0 : Act} {V : Nat → Value → World → Prop} : ∀ {l : List Oper} {rs : List (List (Nat × Option Nat))} {k : Nat}, Obl P ops R w0 a0 V k l rs →
    ∀ i o rd, l[i]? = some o → rs[i]? = some rd → ∀ a w, R w0 w → Need V a0 a w rd (ExecV P ops R (V (k + i)) o a w)
  | [], _, _, _, i, o, rd, h, _ => by simp at h
  | _ :: _, [], _, _, i, o, rd, _, h => by simp at h
  | o' :: l, rd' :: rs, k, hO, i, o, rd, h, h' => by
    cases i with
    | zero => simp at h h'; subst h; subst h'; exact hO.1
    | succ i => simp at h h'; rw [show k + (i + 1) = (k + 1) + i by omega]; exact Obl.get hO.2 i o rd h h'

theorem countP_lt {α : Type} (p q : α → Bool) : ∀ (l : List α), (∀ x ∈ l, q x = true → p x = true) → (∃ x ∈ l, p x = true ∧ q x = false) → l.countP q < l.countP p := by
  intro l
  induction l with
  | nil => rintro _ ⟨x, hx, _⟩; simp at hx
  | cons y l ih =>
    intro h hx
    have hle : l.countP q ≤ l.countP p := List.countP_mono_left (fun x hx hq => h x (List.mem_cons_of_mem _ hx) hq)
    simp only [List.countP_cons]
    obtain ⟨x, hm, h1, h2⟩ := hx
    rcases List.mem_cons.1 hm with rfl | hm
    · simp only [h1, h2]; simp; omega
    · have := ih (fun x hx => h x (List.mem_cons_of_mem _ hx)) ⟨x, hm, h1, h2⟩
      have hy := h y (by simp)
      cases hq : q y
      · simp; split <;> omega
      · simp [hy hq]; omega

structure RInv (l : List Oper) (R : World → World → Prop) (w0 : World) (a0 : Act) (V : Nat → Value → World → Prop) (listed : Array Bool) (a : Act) (w : World) : Prop where
  r : R w0 w
  defers : a.defers = a0.defers
  size : a.tmps.size = a0.tmps.size
  out : ∀ t, (∀ j o, l[j]? = some o → o.dst = some t → listed.getD j false = false) → a.tmps[t]? = a0.tmps[t]?
  done : ∀ j o, l[j]? = some o → listed.getD j false = true → (∀ d, o.dst = some d → ∃ v, a.tmps[d]? = some v ∧ V j v w) ∧ (o.dst = none → ∃ v, V j v w)
  closed : ∀ j o, l[j]? = some o → listed.getD j false = true → ∀ e ∈ o.after, Region.binds .any e = true → listed.getD e.on false = true

theorem onB_iff {o : Oper} {j : Nat} : onB o j = true ↔ ∃ e ∈ o.after, e.on = j ∧ Region.binds .any e = true := by
  unfold onB; rw [List.any_eq_true]; simp only [Array.mem_toList_iff, Bool.and_eq_true, beq_iff_eq]

theorem wpAny_V {l : List Oper} {Q : Exit → Act → World → Prop} {R : World → World → Prop} {w0 : World} {a0 : Act} {V : Nat → Value → World → Prop} {rds : List (List (Nat × Option Nat))}
    (hchk : checkB l a0.tmps.size rds = true) (hrf : ∀ u, R u u) (htr : ∀ u v x, R u v → R v x → R u x) (hst : ∀ j v u x, V j v u → R u x → V j v x)
    (hO : Obl P l.toArray R w0 a0 V 0 l rds)
    (hQ : ∀ a w, RInv l R w0 a0 V (Array.replicate l.length true) a w → Q .normal a w) :
    ∀ (fuel : Nat) (listed : Array Bool) (a : Act) (w : World), RInv l R w0 a0 V listed a w → listed.size = l.length → (List.range l.length).countP (fun j => !listed.getD j false) ≤ fuel →
      wpAny P .any l.toArray Q fuel listed a w := by
  simp only [checkB, Bool.and_eq_true, beq_iff_eq] at hchk
  obtain ⟨hlen, hall⟩ := hchk
  have hop : ∀ i o, l[i]? = some o → ∃ rd, rds[i]? = some rd ∧ opB l a0.tmps.size i o rd = true := by
    intro i o ho
    have hi : i < l.length := (List.getElem?_eq_some_iff.1 ho).1
    have hr : rds[i]? = some (rds[i]'(by omega)) := List.getElem?_eq_getElem (by omega)
    refine ⟨_, hr, ?_⟩
    have hz : ((l.zip rds).zipIdx)[i]? = some ((o, rds[i]'(by omega)), i) := by
      rw [List.getElem?_zipIdx, (List.getElem?_zip_eq_some (z := (o, rds[i]'(by omega)))).2 ⟨ho, hr⟩]; simp
    have := List.all_eq_true.1 hall _ (List.mem_of_getElem? hz)
    simpa using this
  have hfin : ∀ listed a w, RInv l R w0 a0 V listed a w → listed.size = l.length → (∀ j, j < l.length → listed.getD j false = true) → Q .normal a w := by
    intro listed a w hi hs hl
    apply hQ
    have : listed = Array.replicate l.length true := by
      apply Array.ext (by simp [hs])
      intro j h1 h2
      have := hl j (by omega)
      simp only [Array.getD_eq_getD_getElem?, Array.getElem?_eq_getElem h1, Option.getD_some] at this
      simp [this]
    rw [← this]; exact hi
  intro fuel
  induction fuel with
  | zero =>
    intro listed a w hi hs hc
    have hall' : ∀ j, j < l.length → listed.getD j false = true := by
      intro j hj
      cases hb : listed.getD j false with
      | true => rfl
      | false =>
        have : 0 < (List.range l.length).countP (fun j => !listed.getD j false) := List.countP_pos_iff.2 ⟨j, by simpa using hj, by simp [hb]⟩
        omega
    refine ⟨?_, hfin listed a w hi hs hall'⟩
    unfold Region.ready
    rw [List.filter_eq_nil_iff]
    intro j hj
    have hj : j < l.length := by simp at hj; exact hj
    have h1 := hall' j hj
    have : listed.getD j true = true := by
      simp only [Array.getD_eq_getD_getElem?, Array.getElem?_eq_getElem (show j < listed.size by omega), Option.getD_some] at h1 ⊢
      exact h1
    simp [this]
  | succ fuel ih =>
    intro listed a w hi hs hc
    refine ⟨fun hr => ?_, fun i hri => ?_⟩
    · refine hfin listed a w hi hs ?_
      have key : ∀ n j, j < n → j < l.length → listed.getD j false = true := by
        intro n
        induction n with
        | zero => intro j hj; omega
        | succ n ihn =>
          intro j hj hjl
          cases hb : listed.getD j false with
          | true => rfl
          | false =>
            exfalso
            have ho : l[j]? = some l[j] := List.getElem?_eq_getElem hjl
            obtain ⟨rd, -, hopB⟩ := hop j _ ho
            have hmem : j ∈ Region.ready .any l.toArray listed := by
              refine mem_ready.2 ⟨?_, l[j], by simp, fun e he hbd => ?_⟩
              · simp only [Array.getD_eq_getD_getElem?, Array.getElem?_eq_getElem (show j < listed.size by omega), Option.getD_some] at hb ⊢
                exact hb
              · simp only [opB, Bool.and_eq_true, List.all_eq_true] at hopB
                have := hopB.1.2 e (by simpa using he)
                simp [hbd] at this
                exact ihn e.on (by omega) (by omega)
            rw [hr] at hmem; cases hmem
      exact fun j hj => key (j + 1) j (by omega) hj
    · obtain ⟨hli, o, ho, hpre⟩ := mem_ready.1 hri
      have ho' : l[i]? = some o := by simpa using ho
      have hil : i < l.length := (List.getElem?_eq_some_iff.1 ho').1
      have hlif : listed.getD i false = false := by
        simp only [Array.getD_eq_getD_getElem?, Array.getElem?_eq_getElem (show i < listed.size by omega), Option.getD_some] at hli ⊢
        exact hli
      obtain ⟨rd, hrd, hopB⟩ := hop i o ho'
      simp only [opB, Bool.and_eq_true, List.all_eq_true] at hopB
      obtain ⟨⟨hent, hlt⟩, hdst⟩ := hopB
      have hex : ExecV P l.toArray R (V i) o a w := by
        have := Obl.get hO i o rd ho' hrd a w hi.r
        rw [Nat.zero_add] at this
        refine this.use (fun p hp => ?_)
        have he := hent p hp
        obtain ⟨t, x⟩ := p
        cases x with
        | none =>
          simp only [entryB, List.all_eq_true] at he
          refine hi.out t (fun j o' hj hd => ?_)
          have := he (o', j) (by
            have : (l.zipIdx)[j]? = some (o', j) := by rw [List.getElem?_zipIdx, hj]; simp
            exact List.mem_of_getElem? this)
          simp only [hd, bne_self_eq_false, Bool.false_or, Bool.or_eq_true, beq_iff_eq] at this
          rcases this with rfl | this
          · exact hlif
          · cases hb : listed.getD j false with
            | false => rfl
            | true =>
              obtain ⟨e, he, hon, hbd⟩ := onB_iff.1 this
              have := hi.closed j o' hj hb e he hbd
              rw [hon, hlif] at this; cases this
        | some j =>
          simp only [entryB, Bool.and_eq_true, beq_iff_eq] at he
          obtain ⟨hd, hon⟩ := he
          obtain ⟨e, hea, heo, hbd⟩ := onB_iff.1 hon
          have hlj := hpre e hea hbd
          rw [heo] at hlj
          cases hj : l[j]? with
          | none => simp [hj] at hd
          | some o' =>
            simp [hj] at hd
            exact (hi.done j o' hj hlj).1 t hd
      have hnext : ∀ v w', V i v w' → R w w' → wpAny P .any l.toArray Q fuel (listed.setIfInBounds i true) (a.put o.dst v) w' := by
        intro v w' hv hr
        have hset : ∀ j, (listed.setIfInBounds i true).getD j false = if j = i then true else listed.getD j false := by
          intro j
          by_cases hji : j = i
          · subst hji; simp [show j < listed.size by omega]
          · rw [getD_set_ne _ (fun h => hji h.symm)]; simp [hji]
        refine ih _ _ _ ?_ (by simp [hs]) ?_
        · refine ⟨htr _ _ _ hi.r hr, ?_, ?_, ?_, ?_, ?_⟩
          · cases o.dst <;> exact hi.defers
          · cases hd : o.dst with
            | none => exact hi.size
            | some d => simpa [Act.put] using hi.size
          · intro t ht
            have hne : o.dst ≠ some t := by
              intro h
              have := ht i o ho' h
              rw [hset] at this; simp at this
            have h1 : (a.put o.dst v).tmps[t]? = a.tmps[t]? := by
              cases hd : o.dst with
              | none => rfl
              | some d =>
                have : d ≠ t := fun e => hne (by rw [hd, e])
                simp [Act.put, Array.getElem?_setIfInBounds_ne this]
            rw [h1]
            refine hi.out t (fun j o' hj hd => ?_)
            have := ht j o' hj hd
            rw [hset] at this
            split at this
            · cases this
            · exact this
          · intro j o' hj hl
            rw [hset] at hl
            by_cases hji : j = i
            · subst hji
              obtain rfl : o = o' := by rw [ho'] at hj; exact Option.some.inj hj
              refine ⟨fun d hd => ⟨v, ?_, hv⟩, fun _ => ⟨v, hv⟩⟩
              have hdl : d < a.tmps.size := by
                rw [hi.size]
                simp only [hd, Bool.and_eq_true, decide_eq_true_eq] at hdst
                exact hdst.1
              simp [Act.put, hd, hdl]
            · rw [if_neg hji] at hl
              obtain ⟨h1, h2⟩ := hi.done j o' hj hl
              refine ⟨fun d hd => ?_, fun hd => let ⟨u, hu⟩ := h2 hd; ⟨u, hst _ _ _ _ hu hr⟩⟩
              obtain ⟨u, hu1, hu2⟩ := h1 d hd
              refine ⟨u, ?_, hst _ _ _ _ hu2 hr⟩
              cases hd' : o.dst with
              | none => exact hu1
              | some d' =>
                have hne : d' ≠ d := by
                  rintro rfl
                  simp only [hd', Bool.and_eq_true, List.all_eq_true] at hdst
                  have := hdst.2 (o', j) (by
                    have : (l.zipIdx)[j]? = some (o', j) := by rw [List.getElem?_zipIdx, hj]; simp
                    exact List.mem_of_getElem? this)
                  simp [hd, hji] at this
                simp [Act.put, Array.getElem?_setIfInBounds_ne hne, hu1]
          · intro j o' hj hl e he hbd
            rw [hset] at hl ⊢
            by_cases hji : j = i
            · subst hji
              obtain rfl : o = o' := by rw [ho'] at hj; exact Option.some.inj hj
              split
              · rfl
              · exact hpre e he hbd
            · rw [if_neg hji] at hl
              split
              · rfl
              · exact hi.closed j o' hj hl e he hbd
        · have := countP_lt (fun j => !listed.getD j false) (fun j => !(listed.setIfInBounds i true).getD j false) (List.range l.length) (fun x _ hq => by
            rw [hset] at hq; split at hq <;> simp_all) ⟨i, by simpa using hil, by simp only [hlif]; rfl, by rw [hset]; simp⟩
          omega
      unfold wpOp
      simp only [ho]
      unfold ExecV at hex
      split
      · rename_i hw
        rw [if_pos hw] at hex
        exact .inl (wp_mono2 (fun a' w' ⟨v, ha, hv, hr⟩ => ha ▸ hnext v w' hv hr) (fun _ _ _ h => h.elim) hex)
      · rename_i hw
        rw [if_neg hw] at hex
        exact hnext undef w hex (hrf w)

/-- The frame behind the region: every slot that is written holds what its operation has yielded. -/
def putAll : List Oper → Nat → (Nat → Value) → Array Value → Array Value
  | [], _, _, tm => tm
  | o :: l, i, vs, tm => putAll l (i + 1) vs (match o.dst with | some d => tm.setIfInBounds d (vs i) | none => tm)

theorem putAll_size : ∀ (l : List Oper) (i : Nat) (vs : Nat → Value) (tm : Array Value), (putAll l i vs tm).size = tm.size
  | [], _, _, _ => rfl
  | o :: l, i, vs, tm => by rw [putAll, putAll_size]; cases o.dst <;> simp

theorem putAll_out : ∀ (l : List Oper) (i : Nat) (vs : Nat → Value) (tm : Array Value) (t : Nat), (∀ o ∈ l, o.dst ≠ some t) → (putAll l i vs tm)[t]? = tm[t]?
  | [], _, _, _, _, _ => rfl
  | o :: l, i, vs, tm, t, h => by
    rw [putAll, putAll_out l _ _ _ t (fun o' ho => h o' (List.mem_cons_of_mem _ ho))]
    cases hd : o.dst with
    | none => rfl
    | some d =>
      have : d ≠ t := fun e => h o (by simp) (by rw [hd, e])
      simp [Array.getElem?_setIfInBounds_ne this]

theorem putAll_at : ∀ (l : List Oper) (i : Nat) (vs : Nat → Value) (tm : Array Value) (j t : Nat) (o : Oper), l[j]? = some o → o.dst = some t → t < tm.size → (∀ j' o', l[j']? = some o' → o'.dst = some t → j' = j) →
    (putAll l i vs tm)[t]? = some (vs (i + j))
  | [], _, _, _, j, _, _, h, _, _, _ => by simp at h
  | o :: l, i, vs, tm, j, t, o', h, hd, ht, hu => by
    cases j with
    | zero =>
      simp at h; subst h
      rw [putAll, putAll_out l _ _ _ t (fun o' ho hd' => by
        obtain ⟨j', hj'⟩ := List.getElem?_of_mem ho
        have := hu (j' + 1) o' (by simpa using hj') hd'
        omega)]
      simp [hd, ht]
    | succ j =>
      simp at h
      rw [putAll, putAll_at l (i + 1) vs _ j t o' h hd (by cases o.dst <;> simpa using ht) (fun j' o'' hj' hd' => by
        have := hu (j' + 1) o'' (by simpa using hj') hd'; omega)]
      congr 2; omega

/-- What holds behind the region. -/
def AllV (V : Nat → Value → World → Prop) (vs : Nat → Value) (w : World) : Nat → List Oper → Prop
  | _, [] => True
  | i, _ :: l => V i (vs i) w ∧ AllV V vs w (i + 1) l

theorem AllV.of {V : Nat → Value → World → Prop} {vs : Nat → Value} {w : World} : ∀ (l : List Oper) (i : Nat), (∀ j, j < l.length → V (i + j) (vs (i + j)) w) → AllV V vs w i l
  | [], _, _ => trivial
  | _ :: l, i, h => ⟨h 0 (by simp), AllV.of l (i + 1) (fun j hj => by have := h (j + 1) (by simp; omega); rwa [show i + (j + 1) = i + 1 + j by omega] at this)⟩

/-- A REGION THAT DRAWS ITS ORDER, by what each operation yields. -/
theorem wp_region_V {id : Nat} {l : List Oper} {Q : Exit → Act → World → Prop} {a0 : Act} {w0 : World} (hm : P.follows .mixedOrders = true) (R : World → World → Prop) (V : Nat → Value → World → Prop) (rds : List (List (Nat × Option Nat)))
    (hchk : checkB l a0.tmps.size rds = true) (hrf : ∀ u, R u u) (htr : ∀ u v x, R u v → R v x → R u x) (hst : ∀ j v u x, V j v u → R u x → V j v x)
    (hO : Obl P l.toArray R w0.drew a0 V 0 l rds)
    (hQ : ∀ vs w, R w0.drew w → AllV V vs w 0 l → Q .normal { tmps := putAll l 0 vs a0.tmps, defers := a0.defers } w) :
    (Code.region id l.toArray true).wp P Q a0 w0 := by
  refine wp_region_any hm ?_
  show wpAny P .any l.toArray Q l.length (Array.replicate l.length false) a0 w0.drew
  refine wpAny_V (R := R) (w0 := w0.drew) (a0 := a0) (V := V) hchk hrf htr hst hO ?_ l.length _ a0 w0.drew ?_ (by simp) (Nat.le_trans List.countP_le_length (by simp))
  · intro a w hi
    have hl : ∀ j, j < l.length → (Array.replicate l.length true).getD j false = true := by intro j hj; simp [hj]
    have hd : ∀ j, ∃ v, ∀ o, l[j]? = some o → V j v w ∧ ∀ d, o.dst = some d → a.tmps[d]? = some v := by
      intro j
      cases hj : l[j]? with
      | none => exact ⟨undef, fun o h => by cases h⟩
      | some o =>
        obtain ⟨h1, h2⟩ := hi.done j o hj (hl j (List.getElem?_eq_some_iff.1 hj).1)
        cases hd : o.dst with
        | none => obtain ⟨v, hv⟩ := h2 hd; exact ⟨v, fun o' ho => by cases ho; exact ⟨hv, fun d h => by rw [hd] at h; cases h⟩⟩
        | some d =>
          obtain ⟨v, hv1, hv2⟩ := h1 d hd
          exact ⟨v, fun o' ho => by cases ho; exact ⟨hv2, fun d' h => by rw [hd] at h; cases h; exact hv1⟩⟩
    obtain ⟨vs, hvs⟩ := Classical.axiomOfChoice hd
    have hva : AllV V vs w 0 l := AllV.of l 0 (fun j hj => by rw [Nat.zero_add]; exact (hvs j _ (List.getElem?_eq_getElem hj)).1)
    have hq := hQ vs w hi.r hva
    simp only [checkB, Bool.and_eq_true, beq_iff_eq] at hchk
    obtain ⟨hlen, hall⟩ := hchk
    have hop : ∀ i o, l[i]? = some o → ∃ rd, opB l a0.tmps.size i o rd = true := by
      intro i o ho
      have hi : i < l.length := (List.getElem?_eq_some_iff.1 ho).1
      have hr : rds[i]? = some (rds[i]'(by omega)) := List.getElem?_eq_getElem (by omega)
      refine ⟨rds[i]'(by omega), ?_⟩
      have hz : ((l.zip rds).zipIdx)[i]? = some ((o, rds[i]'(by omega)), i) := by
        rw [List.getElem?_zipIdx, (List.getElem?_zip_eq_some (z := (o, rds[i]'(by omega)))).2 ⟨ho, hr⟩]; simp
      have := List.all_eq_true.1 hall _ (List.mem_of_getElem? hz)
      simpa using this
    have : a = { tmps := putAll l 0 vs a0.tmps, defers := a0.defers } := by
      obtain ⟨tm, df⟩ := a
      have h1 := hi.defers
      have h2 := hi.size
      simp only at h1 h2
      congr 1
      apply Array.ext_getElem?
      intro t
      by_cases ht : ∃ (j : Nat) (o : Oper), l[j]? = some o ∧ o.dst = some t
      · obtain ⟨j, o, hj, hdo⟩ := ht
        obtain ⟨rd, hopB⟩ := hop j o hj
        simp only [opB, hdo, Bool.and_eq_true, List.all_eq_true, decide_eq_true_eq] at hopB
        have huniq : ∀ j' o', l[j']? = some o' → o'.dst = some t → j' = j := by
          intro j' o' hj' hd'
          have := hopB.2.2 (o', j') (by
            have : (l.zipIdx)[j']? = some (o', j') := by rw [List.getElem?_zipIdx, hj']; simp
            exact List.mem_of_getElem? this)
          simpa [hd'] using this
        rw [putAll_at l 0 vs a0.tmps j t o hj hdo hopB.2.1 huniq, Nat.zero_add]
        exact (hvs j o hj).2 t hdo
      · rw [putAll_out l 0 vs a0.tmps t (fun (o : Oper) ho hdo => ht (let ⟨j, hj⟩ := List.getElem?_of_mem ho; ⟨j, o, hj, hdo⟩))]
        exact hi.out t (fun j o hj hdo => (ht ⟨j, o, hj, hdo⟩).elim)
    rw [this]; exact hq
  · have hno : ∀ j, (Array.replicate l.length false).getD j false = true → False := by
      intro j h
      simp only [Array.getD_eq_getD_getElem?, Array.getElem?_replicate] at h
      split at h <;> simp at h
    exact ⟨hrf _, rfl, rfl, fun _ _ => rfl, fun j o _ h => (hno j h).elim, fun j o _ h => (hno j h).elim⟩

/-- What an operation yields, said so that it stays true while old blocks stay. -/
structure SV where
  p : Value → World → Prop
  st : ∀ v u x, p v u → Kp [] u x → p v x
def SV.val (c : Value) : SV := ⟨fun v _ => v = c, fun _ _ _ h _ => h⟩
def SV.any : SV := ⟨fun _ _ => True, fun _ _ _ _ _ => trivial⟩
/-- Bytes (numbers) of the call's own. -/
def SV.own (base : Nat) (e : TypeId) (k : IntKind) (n : Nat) (zs : List Int) : SV := ⟨fun v u => ∃ ad cap, v = .slice ad n cap ∧ Own u base e k ad cap zs, fun _ _ _ ⟨ad, cap, h1, h2⟩ hk => ⟨ad, cap, h1, h2.keep0 hk⟩⟩
/-- A slice that reads as numbers. -/
def SV.rd (k : IntKind) (n : Nat) (zs : List Int) : SV := ⟨fun v u => ∃ ad cap, v = .slice ad n cap ∧ Rd u k ad cap zs, fun _ _ _ ⟨ad, cap, h1, h2⟩ hk => ⟨ad, cap, h1, h2.keep0 hk⟩⟩
def svs (l : List SV) (j : Nat) : Value → World → Prop := ((l[j]?).getD SV.any).p

def AllS (vs : Nat → Value) (w : World) : Nat → List SV → Prop
  | _, [] => True
  | i, s :: L => s.p (vs i) w ∧ AllS vs w (i + 1) L
theorem AllV.get {V : Nat → Value → World → Prop} {vs : Nat → Value} {w : World} : ∀ {l : List Oper} {i : Nat}, AllV V vs w i l → ∀ j, j < l.length → V (i + j) (vs (i + j)) w
  | [], _, _, j, hj => by simp at hj
  | _ :: l, i, h, 0, _ => h.1
  | _ :: l, i, h, j + 1, hj => by have := AllV.get h.2 j (by simp at hj; omega); rwa [show i + 1 + j = i + (j + 1) by omega] at this
theorem AllS.of {vs : Nat → Value} {w : World} : ∀ (L : List SV) (i : Nat), (∀ (j : Nat) (s : SV), L[j]? = some s → s.p (vs (i + j)) w) → AllS vs w i L
  | [], _, _ => trivial
  | s :: L, i, h => ⟨h 0 s (by simp), AllS.of L (i + 1) (fun j s' hj => by have := h (j + 1) s' (by simpa using hj); rwa [show i + (j + 1) = i + 1 + j by omega] at this)⟩
theorem Kp.undrew {S : List Nat} {w w' : World} (h : Kp S w.drew w') : Kp S w w' := ⟨h.os, h.tape, h.output, h.size, h.block⟩

theorem wp_region_K {id : Nat} {l : List Oper} {Q : Exit → Act → World → Prop} {a0 : Act} {w0 : World} (hm : P.follows .mixedOrders = true) (L : List SV) (rds : List (List (Nat × Option Nat))) (hL : L.length = l.length)
    (hchk : checkB l a0.tmps.size rds = true) (hO : Obl P l.toArray (Kp []) w0.drew a0 (svs L) 0 l rds)
    (hQ : ∀ vs w, Kp [] w0 w → AllS vs w 0 L → Q .normal { tmps := putAll l 0 vs a0.tmps, defers := a0.defers } w) :
    (Code.region id l.toArray true).wp P Q a0 w0 :=
  wp_region_V hm (Kp []) (svs L) rds hchk (Kp.refl []) (fun _ _ _ h k => h.trans k (by simp) (by simp)) (fun j v u x h k => ((L[j]?).getD SV.any).st v u x h k) hO (fun vs w hk hv => hQ vs w hk.undrew (AllS.of L 0 (fun j s hj => by
    have := AllV.get hv j (by have := (List.getElem?_eq_some_iff.1 hj).1; omega)
    simpa [svs, hj] using this)))

theorem exec_val {ops : Array Oper} {o : Oper} {a : Act} {w : World} {Vi : Value → World → Prop} {c : Value} (hw : Region.wanted o (yielded ops a.tmps) = true) (hr : (execOp a.eval o).run P w = .ok (.value c) w) (hv : Vi c w) : ExecV P ops (Kp []) Vi o a w := by
  unfold ExecV
  rw [if_pos hw]
  unfold Oper.wp
  rw [hr]
  exact ⟨c, rfl, hv, Kp.refl _ _⟩
theorem exec_pass {ops : Array Oper} {o : Oper} {a : Act} {w : World} {Vi : Value → World → Prop} (hw : Region.wanted o (yielded ops a.tmps) = false) (hv : Vi undef w) : ExecV P ops (Kp []) Vi o a w := by
  unfold ExecV
  rw [if_neg (by simp [hw])]
  exact hv
theorem exec_call {ops : Array Oper} {o : Oper} {a : Act} {w : World} {Vi : Value → World → Prop} {f : FuncId} {args : Array Value} (hw : Region.wanted o (yielded ops a.tmps) = true) (hr : (execOp a.eval o).run P w = .ok (.enter f args) w)
    (hc : Calls P f args w fun e w' => ∃ v, e = .returned v ∧ Vi v w' ∧ Kp [] w w') : ExecV P ops (Kp []) Vi o a w := by
  unfold ExecV
  rw [if_pos hw]
  unfold Oper.wp
  rw [hr]
  exact hc.mono (fun e w' ⟨v, he, h1, h2⟩ => by subst he; exact ⟨v, rfl, h1, h2⟩)
theorem wanted_none {o : Oper} {y : Nat → Option Bool} (h : o.guard = none) : Region.wanted o y = true := by simp [Region.wanted, h]
theorem wanted_yes {ops : Array Oper} {o : Oper} {tmps : Array Value} {j t : Nat} {b : Bool} (h : o.guard = some (j, b)) (hd : (ops[j]?).bind (·.dst) = some t) (ht : tmps[t]? = some (.bool b)) : Region.wanted o (yielded ops tmps) = true := by
  simp [Region.wanted, h, yielded, hd, ht]
theorem wanted_not {ops : Array Oper} {o : Oper} {tmps : Array Value} {j t : Nat} {b : Bool} (h : o.guard = some (j, b)) (hd : (ops[j]?).bind (·.dst) = some t) (ht : tmps[t]? = some (.bool (!b))) : Region.wanted o (yielded ops tmps) = false := by
  simp [Region.wanted, h, yielded, hd, ht]
end
end Go.Proofs.Ythmaobmgogmaoaa
