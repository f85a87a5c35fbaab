/-
  Parts of the walks and their plain laws (E11). No condition.
-/
import Derived.Test.YtimemehaccgmmaaGreatDoorM04
import Derived.Orders
namespace Go.Proofs.YtimemehaccgmmaaGreatDoor
open Go.RowKit
set_option maxRecDepth 100000
set_option linter.unusedSimpArgs false
set_option linter.unusedVariables false
noncomputable section
section
variable {P : Program} {n : Fr} {ops : Array Oper} {s : List KI} {Q : Exit → Act → World → Prop}
/-- What an operation waits for. -/
def deps (o : Oper) : List Nat := o.after.toList.filterMap fun e => match e.ground with | .textOnly _ => none | .gcOnly _ => none | _ => some e.on
theorem deps_mem {o : Oper} {k : Nat} : k ∈ deps o ↔ ∃ e ∈ o.after, Region.binds .any e = true ∧ e.on = k := by
  unfold deps
  rw [List.mem_filterMap]
  constructor
  · rintro ⟨e, he, h⟩
    refine ⟨e, by simpa using he, ?_⟩
    unfold Region.binds
    split at h <;> simp_all <;> first | rfl | (cases h)
  · rintro ⟨e, he, h1, h2⟩
    refine ⟨e, by simpa using he, ?_⟩
    unfold Region.binds at h1
    split at h1 <;> simp_all
/-- Slots that an operation looks at. -/
def sees (ops : Array Oper) (o : Oper) : List Nat :=
  (o.op.operands.toList.filterMap fun x => match x with | .tmp t => some t | _ => none) ++ (match o.guard with | some (j, _) => ((ops[j]?).bind (·.dst)).toList | none => [])
theorem ready_mem {listed : Array Bool} {i : Nat} : i ∈ Region.ready .any ops listed ↔ i < ops.size ∧ listed.getD i true = false ∧ ∃ o, ops[i]? = some o ∧ ∀ k ∈ deps o, listed.getD k false = true := by
  unfold Region.ready
  simp only [List.mem_filter, List.mem_range, Bool.and_eq_true, Bool.not_eq_true']
  constructor
  · rintro ⟨h1, h2, h3⟩
    refine ⟨h1, h2, ?_⟩
    cases ho : ops[i]? with
    | none => rw [ho] at h3; simp at h3
    | some o =>
      refine ⟨o, rfl, fun k hk => ?_⟩
      rw [ho] at h3
      obtain ⟨e, he, hb, rfl⟩ := deps_mem.1 hk
      simp only [Option.map_some, Option.getD_some, Array.all_eq_true'] at h3
      have := h3 e he
      simpa [hb] using this
  · rintro ⟨h1, h2, o, ho, h3⟩
    refine ⟨h1, h2, ?_⟩
    rw [ho]
    simp only [Option.map_some, Option.getD_some, Array.all_eq_true']
    intro e he
    cases hb : Region.binds .any e with
    | false => rfl
    | true =>
        have := h3 _ (deps_mem.2 ⟨e, he, hb, rfl⟩)
        simpa [Array.getD_eq_getD_getElem?] using this

/-- What an operation yields that only looks: its number, the value, what the world must be. -/
structure Vq where
  i : Nat
  v : Value
  F : Option (World → Prop)
def Fw (F : Option (World → Prop)) (w : World) : Prop := match F with | some F => F w | none => True
def Sp (P : Program) (n : Fr) (ops : Array Oper) (L : Env) (q : Vq) : Prop :=
  ∃ o d, ops[q.i]? = some o ∧ o.dst = some d ∧ d < n.1 ∧ look L d = some q.v ∧
    ∀ a : Act, (∀ t ∈ sees ops o, ∀ u, look L t = some u → a.tmps.getD t undef = u) → ∀ w, Fw q.F w →
      (Region.wanted o (yielded ops a.tmps) = true ∧ (execOp a.eval o).run P w = .ok (.value q.v) w) ∨ (Region.wanted o (yielded ops a.tmps) = false ∧ q.v = undef)
/-- i beside k: neither writes what the other looks at, but what it waits for. -/
def apart1 (ops : Array Oper) (o : Oper) (k : Nat) : Bool :=
  match ops[k]? with
  | some ok => (match o.dst, ok.dst with
    | some d, some dk => !memN d (sees ops ok) && !Nat.beq d dk && (!memN dk (sees ops o) || memN k (deps o))
    | none, some dk => (!memN dk (sees ops o) || memN k (deps o))
    | _, none => false)
  | none => false
def apartN (ops : Array Oper) (o : Oper) : List Nat → Bool
  | [] => true
  | k :: l => apart1 ops o k && apartN ops o l
/-- Looks do not write what others look at, but what waits for them. -/
def Wt (ops : Array Oper) (D : List Vq) (o : Oper) : Prop := ∀ q ∈ D, ∀ oq d, ops[q.i]? = some oq → oq.dst = some d → d ∈ sees ops o → q.i ∈ deps o
theorem memN_iff {j : Nat} {l : List Nat} : memN j l = true ↔ j ∈ l := by
  induction l with
  | nil => simp [memN]
  | cons k l ih =>
    simp only [memN, List.mem_cons]
    cases hb : Nat.beq k j with
    | true => simp [Nat.eq_of_beq_eq_true hb]
    | false =>
      have : k ≠ j := fun e => by subst e; simp at hb
      simp [ih, Ne.symm this]
theorem apartN_spec {o : Oper} {D : List Vq} (h : apartN ops o (D.map Vq.i) = true) : ∀ q ∈ D, ∃ oq dq, ops[q.i]? = some oq ∧ oq.dst = some dq ∧ (∀ d, o.dst = some d → d ∉ sees ops oq ∧ d ≠ dq) ∧ (dq ∈ sees ops o → q.i ∈ deps o) := by
  induction D with
  | nil => simp
  | cons q D ih =>
    simp only [List.map_cons, apartN, Bool.and_eq_true] at h
    intro q' hq
    rcases List.mem_cons.1 hq with rfl | hq
    · have h1 := h.1
      unfold apart1 at h1
      split at h1
      · rename_i ok ho
        split at h1
        · rename_i d dk e1 e2
          simp only [Bool.and_eq_true, Bool.not_eq_true', Bool.or_eq_true] at h1
          refine ⟨ok, dk, ho, e2, fun d' hd => ?_, fun hs => ?_⟩
          · rw [e1] at hd; cases hd
            refine ⟨fun hm => ?_, fun e => ?_⟩
            · rw [memN_iff.2 hm] at h1; simp at h1
            · subst e; simp at h1
          · rcases h1.2 with h2 | h2
            · rw [memN_iff.2 hs] at h2; cases h2
            · exact memN_iff.1 h2
        · rename_i dk e1 e2
          simp only [Bool.not_eq_true', Bool.or_eq_true] at h1
          refine ⟨ok, dk, ho, e2, (fun d' hd => by rw [e1] at hd; cases hd), fun hs => ?_⟩
          rcases h1 with h2 | h2
          · rw [memN_iff.2 hs] at h2; cases h2
          · exact memN_iff.1 h2
        · cases h1
      · cases h1
    · exact ih h.2 q' hq
/-- A region that draws, under way. D: looks, told or not yet done; E: the others that are done. -/
structure Rn (ops : Array Oper) (n : Fr) (D : List Vq) (E : List Nat) (L : Env) (fuel : Nat) (listed : Array Bool) (a : Act) (w : World) : Prop where
  sz : listed.size = ops.size
  fu : fuel = (listed.toList.filter (! ·)).length
  done : ∀ i, listed.getD i true = true → i < ops.size → i ∈ E ∨ ∃ q ∈ D, q.i = i
  eff : ∀ i ∈ E, listed.getD i true = true ∧ i < ops.size
  slot : ∀ j v, look L j = some v → (∃ q ∈ D, listed.getD q.i true = false ∧ ∃ o, ops[q.i]? = some o ∧ o.dst = some j) ∨ a.tmps.getD j undef = v
  len : a.tmps.size = n.1
  defs : a.defers = n.2
  pend : ∀ q ∈ D, listed.getD q.i true = false → Fw q.F w
def DK (P : Program) (n : Fr) (ops : Array Oper) (s : List KI) (D : List Vq) (E : List Nat) (L : Env) (C : World → Prop) (Q : Exit → Act → World → Prop) : Prop :=
  (∀ q ∈ D, Sp P n ops L q) → (∀ q ∈ D, ∀ o, ops[q.i]? = some o → Wt ops D o) → ∀ fuel listed a w, Rn ops n D E L fuel listed a w → C w → wpAny P .any ops (Kw P s Q) fuel listed a w

/-- The region begins. -/
theorem dk {id : Nat} {L : Env} {C : World → Prop} (hm : P.follows .mixedOrders = true) (hC : ∀ w, C w → C w.drew) (h : DK P n ops s [] [] L C Q) : HK P n (.code (.region id ops true) :: s) L C Q := by
  intro a w ha hc
  refine wp_region_any hm ?_
  refine h (by simp) (by simp) _ _ a _ ⟨by simp, by simp, fun i h1 h2 => ?_, by simp, fun j v hj => .inr (ha.get j v hj), ha.size, ha.defs, by simp⟩ (hC w hc)
  simp [h2] at h1

theorem Rn.agree {D : List Vq} {E : List Nat} {L : Env} {fuel : Nat} {listed : Array Bool} {a : Act} {w : World} (h : Rn ops n D E L fuel listed a w) {o : Oper} (hw : Wt ops D o) (hd : ∀ k ∈ deps o, listed.getD k false = true) : ∀ t ∈ sees ops o, ∀ u, look L t = some u → a.tmps.getD t undef = u := by
  intro t ht u hu
  rcases h.slot t u hu with ⟨q, hq, h1, oq, h2, h3⟩ | h1
  · have := hd _ (hw q hq oq t h2 h3 ht)
    have hlt : q.i < listed.size := by
      rcases Nat.lt_or_ge q.i listed.size with h4 | h4
      · exact h4
      · simp [Array.getD_eq_getD_getElem?, Array.getElem?_eq_none h4] at h1
    simp [Array.getD_eq_getD_getElem?, Array.getElem?_eq_getElem hlt] at h1 this
    rw [h1] at this; cases this
  · exact h1
theorem listed_set {listed : Array Bool} {i j : Nat} (hi : i < listed.size) : (listed.setIfInBounds i true).getD j true = if i = j then true else listed.getD j true := by
  simp only [Array.getD_eq_getD_getElem?, Array.getElem?_setIfInBounds]
  split
  · rename_i e; subst e; simp [hi]
  · rfl
theorem count_list : ∀ (l : List Bool) (i : Nat), l[i]? = some false → ((l.set i true).filter (! ·)).length + 1 = (l.filter (! ·)).length
  | b :: l, 0, h => by simp at h; subst h; simp
  | b :: l, i + 1, h => by
    simp at h
    have := count_list l i h
    cases b <;> simp_all
theorem count_set {listed : Array Bool} {i : Nat} (hi : i < listed.size) (h : listed.getD i true = false) : ((listed.setIfInBounds i true).toList.filter (! ·)).length + 1 = (listed.toList.filter (! ·)).length := by
  rw [Array.toList_setIfInBounds]
  refine count_list _ _ ?_
  have : listed[i] = false := by simpa [Array.getD_eq_getD_getElem?, hi] using h
  simp [hi, this]
/-- A look that is not yet done is done. -/
theorem Rn.look {D : List Vq} {E : List Nat} {L : Env} {fuel : Nat} {listed : Array Bool} {a : Act} {w : World} (h : Rn ops n D E L (fuel + 1) listed a w) (hs : ∀ q ∈ D, Sp P n ops L q) (hW : ∀ q ∈ D, ∀ o, ops[q.i]? = some o → Wt ops D o) {q : Vq} (hq : q ∈ D) (hr : q.i ∈ Region.ready .any ops listed)
    {K : Act → World → Prop} (hK : ∀ a', Rn ops n D E L fuel (listed.setIfInBounds q.i true) a' w → K a' w) : wpOp P ops (Kw P s Q) q.i K a w := by
  obtain ⟨hi, hl, o, ho, hd⟩ := ready_mem.1 hr
  have hi' : q.i < listed.size := by rw [h.sz]; exact hi
  obtain ⟨o', d, ho', hdst, hdn, hlk, hrun⟩ := hs q hq
  obtain rfl : o = o' := by rw [ho] at ho'; exact Option.some.inj ho'
  have hag := h.agree (hW q hq o ho) hd
  have hfin : Rn ops n D E L fuel (listed.setIfInBounds q.i true) (a.put o.dst q.v) w := by
    refine ⟨by simpa using h.sz, ?_, fun j hj hlt => ?_, fun j hj => ?_, fun j v hv => ?_, ?_, ?_, fun q' hq' hp => ?_⟩
    · have := count_set hi' hl; have := h.fu; omega
    · rw [listed_set hi'] at hj
      split at hj
      · rename_i e; exact .inr ⟨q, hq, e⟩
      · exact h.done j hj hlt
    · rw [listed_set hi']
      split
      · exact ⟨rfl, by rename_i e; rw [← e]; exact hi⟩
      · exact h.eff j hj
    · by_cases e : j = d
      · subst e
        right
        rw [hlk] at hv; cases hv
        have hlt : j < a.tmps.size := by rw [h.len]; exact hdn
        simp [hdst, Act.put, Array.getD_eq_getD_getElem?, hlt]
      · rcases h.slot j v hv with ⟨q', hq', h1, oq, h2, h3⟩ | h1
        · by_cases e2 : q'.i = q.i
          · rw [e2, ho] at h2; cases h2; rw [hdst] at h3; cases h3; exact (e rfl).elim
          · exact .inl ⟨q', hq', by rw [listed_set hi', if_neg (Ne.symm e2)]; exact h1, oq, h2, h3⟩
        · right
          rw [← h1, hdst]
          simp only [Act.put, Array.getD_eq_getD_getElem?, Array.getElem?_setIfInBounds]
          rw [if_neg (Ne.symm e)]
    · rw [hdst]; simpa [Act.put] using h.len
    · rw [hdst]; exact h.defs
    · rw [listed_set hi'] at hp
      split at hp
      · cases hp
      · exact h.pend q' hq' hp
  unfold wpOp
  rw [ho]
  simp only
  rcases hrun a hag w (h.pend q hq hl) with ⟨h1, h2⟩ | ⟨h1, h2⟩
  · rw [if_pos h1]
    exact .inl (Oper.wp_val h2 (hK _ hfin))
  · rw [if_neg (by rw [h1]; simp), ← h2]
    exact hK _ hfin

variable {D : List Vq} {E : List Nat} {L : Env} {C : World → Prop}
/-- New bindings leave what was said of looks. -/
theorem Sp.cons {q : Vq} {o : Oper} {d : Nat} {v : Value} {oq : Oper} {dq : Nat} (h : Sp P n ops L q) (h1 : ops[q.i]? = some oq) (h2 : oq.dst = some dq) (h3 : d ∉ sees ops oq ∧ d ≠ dq) : Sp P n ops ((d, v) :: L) q := by
  obtain ⟨o', d', e1, e2, e3, e4, e5⟩ := h
  rw [h1] at e1; cases e1
  rw [h2] at e2; cases e2
  refine ⟨oq, dq, h1, h2, e3, by rw [look_cons, if_neg h3.2]; exact e4, fun a ha w hF => e5 a (fun t ht u hu => ha t ht u ?_) w hF⟩
  rw [look_cons, if_neg (fun e : d = t => h3.1 (e ▸ ht))]; exact hu
/-- All that an operation waits for is told. -/
def inV (D : List Vq) (E : List Nat) (k : Nat) : Bool := memN k E || memN k (D.map Vq.i)
def allV (D : List Vq) (E : List Nat) : List Nat → Bool
  | [] => true
  | k :: l => inV D E k && allV D E l
theorem inV_iff {k : Nat} : inV D E k = true ↔ k ∈ E ∨ ∃ q ∈ D, q.i = k := by
  unfold inV; rw [Bool.or_eq_true, memN_iff, memN_iff, List.mem_map]
theorem evS {o : Oper} {a : Act} (h : ∀ t ∈ sees ops o, ∀ u, look L t = some u → a.tmps.getD t undef = u) : ∀ x ∈ o.op.operands.toList, ∀ u, ev L x = some u → a.eval x = u := by
  intro x hx u hu
  cases x with
  | tmp t => exact h t (by unfold sees; rw [List.mem_append, List.mem_filterMap]; exact .inl ⟨_, hx, rfl⟩) u hu
  | const v => simp only [ev, Option.some.injEq] at hu; exact hu
  | global g => simp only [ev, Option.some.injEq] at hu; exact hu
  | func f => simp only [ev, Option.some.injEq] at hu; exact hu
/-- A look that is told ahead of its time. -/
theorem dq {i : Nat} {o : Oper} {d : Nat} {v : Value} (F : Option (World → Prop)) (ho : ops[i]? = some o) (hd : o.dst = some d) (hn : Nat.blt d n.1 = true) (hD : allV D E (deps o) = true) (hi : inV D E i = false) (hap : apartN ops o (D.map Vq.i) = true) (hself : memN d (sees ops o) = false)
    (hrun : (∀ a : Act, (∀ t ∈ sees ops o, ∀ u, look L t = some u → a.tmps.getD t undef = u) → ∀ w, Fw F w → (Region.wanted o (yielded ops a.tmps) = true ∧ (execOp a.eval o).run P w = .ok (.value v) w) ∨ (Region.wanted o (yielded ops a.tmps) = false ∧ v = undef)))
    (hF : ∀ w, C w → Fw F w) (k : DK P n ops s (⟨i, v, F⟩ :: D) E ((d, v) :: L) C Q) : DK P n ops s D E L C Q := by
  intro hS hW fuel listed a w hR hC
  have hsp := apartN_spec hap
  have hse : d ∉ sees ops o := fun hm => by rw [memN_iff.2 hm] at hself; cases hself
  have hdn : d < n.1 := Nat.le_of_ble_eq_true hn
  refine k ?_ ?_ fuel listed a w ⟨hR.sz, hR.fu, fun j h1 h2 => ?_, hR.eff, fun j u hu => ?_, hR.len, hR.defs, fun q hq hp => ?_⟩ hC
  · intro q hq
    rcases List.mem_cons.1 hq with rfl | hq
    · refine ⟨o, d, ho, hd, hdn, by rw [look_cons, if_pos rfl], fun a' ha' w' hF' => hrun a' (fun t ht u hu => ha' t ht u ?_) w' hF'⟩
      rw [look_cons, if_neg (fun e : d = t => hse (e ▸ ht))]; exact hu
    · obtain ⟨oq, dq', h1, h2, h3, h4⟩ := hsp q hq
      exact (hS q hq).cons (o := o) h1 h2 (h3 d hd)
  · intro q hq o' ho' q' hq' oq' dq' h1 h2 h3
    rcases List.mem_cons.1 hq with rfl | hq
    · have : o' = o := by rw [ho] at ho'; exact (Option.some.inj ho').symm
      subst this
      rcases List.mem_cons.1 hq' with rfl | hq'
      · rw [ho] at h1; cases h1; rw [hd] at h2; cases h2; exact (hse h3).elim
      · obtain ⟨oq, dq2, g1, g2, g3, g4⟩ := hsp q' hq'
        rw [g1] at h1; cases h1; rw [g2] at h2; cases h2
        exact g4 h3
    · rcases List.mem_cons.1 hq' with rfl | hq'
      · rw [ho] at h1; cases h1; rw [hd] at h2; cases h2
        obtain ⟨oq, dq2, g1, g2, g3, g4⟩ := hsp q hq
        rw [g1] at ho'; cases ho'
        exact ((g3 _ hd).1 h3).elim
      · exact hW q hq o' ho' q' hq' oq' dq' h1 h2 h3
  · rcases hR.done j h1 h2 with h3 | ⟨q, hq, h3⟩
    · exact .inl h3
    · exact .inr ⟨q, List.mem_cons_of_mem _ hq, h3⟩
  · rw [look_cons] at hu
    split at hu
    · rename_i e; subst e
      refine .inl ⟨_, List.mem_cons_self .., ?_, o, ho, hd⟩
      have hlt : i < ops.size := (Array.getElem?_eq_some_iff.1 ho).1
      cases hb : listed.getD i true with
      | false => rfl
      | true =>
        have := inV_iff.2 (hR.done i hb hlt)
        rw [this] at hi; cases hi
    · rcases hR.slot j u hu with ⟨q, hq, h1⟩ | h1
      · exact .inl ⟨q, List.mem_cons_of_mem _ hq, h1⟩
      · exact .inr h1
  · rcases List.mem_cons.1 hq with rfl | hq
    · exact hF w hC
    · exact hR.pend q hq hp

theorem OS.at {o : Oper} {X : Type} {v : X → Value} {p : X → Prop} {C' : X → World → Prop} (h : OS P o L C v p C') (hsel : ∀ cs b, o.op ≠ .select cs b) {a : Act} (ha : ∀ t ∈ sees ops o, ∀ u, look L t = some u → a.tmps.getD t undef = u) {w : World} (hc : C w) :
    Yl P (fun u w' => ∃ x, u = v x ∧ p x ∧ C' x w') ((execOp a.eval o).run P w) := by
  classical
  have e1 := evS (ops := ops) ha
  have := h (fun x => if x ∈ o.op.operands then a.eval x else (ev L x).getD undef) w (fun x u hx => by
    by_cases hm : x ∈ o.op.operands
    · simp only [hm, if_true]; exact e1 x (by simpa using hm) u hx
    · simp only [hm, if_false, hx]; rfl) hc
  rw [execOp_congr (ρ' := a.eval) o hsel (fun x hx => by simp [hx])] at this
  exact this
theorem gOk_at {o : Oper} {b : Bool} (h : gOk o ops L = some b) {a : Act} (ha : ∀ t ∈ sees ops o, ∀ u, look L t = some u → a.tmps.getD t undef = u) : Region.wanted o (yielded ops a.tmps) = b := by
  unfold gOk at h
  unfold Region.wanted
  split at h
  · simp only [‹o.guard = none›]; cases h; rfl
  · rename_i j want hg
    simp only [hg]
    split at h
    · rename_i d hd
      rw [Array.getElem?_toList] at hd
      have hy : ∀ v, look L d = some v → yielded ops a.tmps j = (match some v with | some (.bool b) => some b | _ => none) ∨ (v = undef ∧ yielded ops a.tmps j = none) := by
        intro v hv
        have h1 := ha d (by unfold sees; rw [List.mem_append]; right; rw [hg]; simp [hd]) v hv
        unfold yielded
        rw [hd]
        simp only [Option.bind_some]
        rw [Array.getD_eq_getD_getElem?] at h1
        cases hx : a.tmps[d]? with
        | none => rw [hx] at h1; exact .inr ⟨h1.symm, rfl⟩
        | some u => rw [hx] at h1; simp at h1; subst h1; exact .inl rfl
      split at h
      · rename_i b0 hb
        cases h
        rcases hy _ hb with h1 | ⟨h1, h2⟩
        · rw [h1]; cases b0 <;> cases want <;> rfl
        · cases h1
      · rename_i vs hb
        cases h
        rcases hy _ hb with h1 | ⟨h1, h2⟩
        · rw [h1]; rfl
        · rw [h2]; rfl
      · cases h
    · cases h
def lowL (i : Nat) : List Nat → Bool
  | [] => true
  | k :: l => Nat.blt k i && lowL i l
/-- Each operation waits for ones ahead of it alone. -/
def lowN : Nat → List Oper → Bool
  | _, [] => true
  | i, o :: l => lowL i (deps o) && lowN (i + 1) l
theorem lowL_spec {i : Nat} {l : List Nat} (h : lowL i l = true) : ∀ k ∈ l, k < i := by
  induction l with
  | nil => simp
  | cons a l ih =>
    simp only [lowL, Bool.and_eq_true] at h
    intro k hk
    rcases List.mem_cons.1 hk with rfl | hk
    · exact Nat.le_of_ble_eq_true h.1
    · exact ih h.2 k hk
theorem lowN_spec {l : List Oper} : ∀ {i : Nat}, lowN i l = true → ∀ j o, l[j]? = some o → ∀ k ∈ deps o, k < i + j := by
  induction l with
  | nil => intro i _ j o h; simp at h
  | cons a l ih =>
    intro i h j o hj k hk
    simp only [lowN, Bool.and_eq_true] at h
    cases j with
    | zero => simp at hj; subst hj; exact lowL_spec h.1 k hk
    | succ j => have := ih h.2 j o (by simpa using hj) k hk; omega
/-- Something is always ready. -/
theorem ready_some (hl : lowN 0 ops.toList = true) {listed : Array Bool} (hs : listed.size = ops.size) {i : Nat} (hi : i < ops.size) (h : listed.getD i true = false) : Region.ready .any ops listed ≠ [] := by
  have key : ∀ m i, i < m → i < ops.size → listed.getD i true = false → ∃ j, j ∈ Region.ready .any ops listed := by
    intro m
    induction m with
    | zero => intro i h; omega
    | succ m ih =>
      intro i him hi h
      by_cases hd : ∀ k ∈ deps ops[i], listed.getD k false = true
      · exact ⟨i, ready_mem.2 ⟨hi, h, ops[i], by simp, hd⟩⟩
      · obtain ⟨k, hk, hk2⟩ : ∃ k, k ∈ deps ops[i] ∧ ¬ listed.getD k false = true := by simpa using hd
        have hlt := lowN_spec hl i ops[i] (by simp [hi]) k hk
        refine ih k (by omega) (by omega) ?_
        have : k < listed.size := by omega
        simpa [Array.getD_eq_getD_getElem?, this] using hk2
  obtain ⟨j, hj⟩ := key (i + 1) i (by omega) hi h
  intro e; rw [e] at hj; simp at hj
/-- Only e can be begun now. -/
def onlyN (D : List Vq) (E : List Nat) (e : List Nat) : Nat → List Oper → Bool
  | _, [] => true
  | i, o :: l => (inV D E i || memN i e || !allV D E (deps o)) && onlyN D E e (i + 1) l
theorem allV_spec {l : List Nat} : allV D E l = true ↔ ∀ k ∈ l, inV D E k = true := by
  induction l with
  | nil => simp [allV]
  | cons a l ih => simp [allV, ih]
theorem onlyN_spec {e : List Nat} {l : List Oper} : ∀ {i : Nat}, onlyN D E e i l = true → ∀ j o, l[j]? = some o → inV D E (i + j) = true ∨ (i + j) ∈ e ∨ allV D E (deps o) = false := by
  induction l with
  | nil => intro i _ j o h; simp at h
  | cons a l ih =>
    intro i h j o hj
    simp only [onlyN, Bool.and_eq_true, Bool.or_eq_true, Bool.not_eq_true'] at h
    cases j with
    | zero => simp at hj; subst hj; rw [memN_iff] at h; rcases h.1 with (h1 | h1) | h1; exact .inl h1; exact .inr (.inl h1); exact .inr (.inr h1)
    | succ j => have := ih h.2 j o (by simpa using hj); rwa [show i + 1 + j = i + (j + 1) by omega] at this
/-- What looks want, that need not be done yet. -/
def allF (ds : List Nat) : List Vq → World → Prop
  | [], _ => True
  | q :: D, w => match q.F with | none => allF ds D w | some F => (match memN q.i ds with | true => allF ds D w | false => F w ∧ allF ds D w)
theorem allF_spec {ds : List Nat} {w : World} : ∀ {D : List Vq}, allF ds D w → ∀ q ∈ D, q.i ∉ ds → Fw q.F w := by
  intro D
  induction D with
  | nil => simp
  | cons q D ih =>
    intro h q' hq hn
    simp only [allF] at h
    rcases List.mem_cons.1 hq with rfl | hq
    · split at h
      · rename_i e; rw [e]; trivial
      · rename_i F e
        split at h
        · rename_i e2; exact (hn (memN_iff.1 e2)).elim
        · rw [e]; exact h.1
    · split at h
      · exact ih h q' hq hn
      · split at h
        · exact ih h q' hq hn
        · exact ih h.2 q' hq hn
def bind1 (d : Option Nat) (v : Value) (L : Env) : Env := match d with | some d => (d, v) :: L | none => L
/-- What one of the operations that act must bring. -/
def Ef (P : Program) (n : Fr) (ops : Array Oper) (s : List KI) (D : List Vq) (E : List Nat) (L : Env) (C : World → Prop) (Q : Exit → Act → World → Prop) (e : Nat) : Prop :=
  ∃ o, ops[e]? = some o ∧ apartN ops o (D.map Vq.i) = true ∧ dOk n o.dst = true ∧ gOk o ops L = some true ∧ (∀ cs b, o.op ≠ .select cs b) ∧ (∀ k ∈ deps o, inV D E k = true) ∧
    ∃ (X : Type) (v : X → Value) (p : X → Prop) (C' : X → World → Prop), OS P o L C v p C' ∧ (∀ x, p x → ∀ w, C' x w → allF (deps o) D w) ∧ ∀ x, p x → DK P n ops s D (e :: E) (bind1 o.dst (v x) L) (C' x) Q
theorem de (es : List Nat) (hl : lowN 0 ops.toList = true) (ho : onlyN D E es 0 ops.toList = true) (hne : ∃ e, e ∈ es ∧ inV D E e = false ∧ e < ops.size) (h : ∀ e ∈ es, Ef P n ops s D E L C Q e) : DK P n ops s D E L C Q := by
  intro hS hW fuel
  induction fuel with
  | zero =>
    intro listed a w hR hC
    obtain ⟨e, he, hi, hlt⟩ := hne
    exfalso
    have h0 := hR.fu
    cases hb : listed.getD e true with
    | true => rw [inV_iff.2 (hR.done e hb hlt)] at hi; cases hi
    | false =>
      have := count_set (listed := listed) (i := e) (by rw [hR.sz]; exact hlt) hb
      omega
  | succ fuel ih =>
    intro listed a w hR hC
    refine ⟨fun hr => ?_, fun i hi => ?_⟩
    · exfalso
      obtain ⟨e, he, hi, hlt⟩ := hne
      cases hb : listed.getD e true with
      | true => rw [inV_iff.2 (hR.done e hb hlt)] at hi; cases hi
      | false => exact ready_some hl hR.sz hlt hb hr
    · obtain ⟨hlt, hb, o, hoi, hd⟩ := ready_mem.1 hi
      have hdl : ∀ k ∈ deps o, inV D E k = true := fun k hk => by
        have hkl := lowN_spec hl i o (by simpa using hoi) k hk
        have hk2 := hd k hk
        refine inV_iff.2 (hR.done k ?_ (by omega))
        have : k < listed.size := by rw [hR.sz]; omega
        simpa [Array.getD_eq_getD_getElem?, this] using hk2
      rcases onlyN_spec ho i o (by simpa using hoi) with h1 | h1 | h1
      · rw [Nat.zero_add] at h1
        rcases inV_iff.1 h1 with h2 | ⟨q, hq, h2⟩
        · have := (hR.eff i h2).1; rw [this] at hb; cases hb
        · subst h2
          exact hR.look hS hW hq hi fun a' hR' => ih _ a' w hR' hC
      · rw [Nat.zero_add] at h1
        obtain ⟨o', ho', hap, hdo, hg, hsel, hdv, X, v, p, C', hos, hF, hk⟩ := h i h1
        have hoo : o = o' := by rw [hoi] at ho'; exact Option.some.inj ho'
        subst hoo
        have hsp := apartN_spec hap
        have hWo : Wt ops D o := fun q hq oq d h1 h2 h3 => by
          obtain ⟨oq', dq', g1, g2, g3, g4⟩ := hsp q hq
          rw [g1] at h1; cases h1; rw [g2] at h2; cases h2
          exact g4 h3
        have hag := hR.agree hWo hd
        unfold wpOp
        rw [hoi]
        simp only
        rw [if_pos (gOk_at hg hag)]
        refine .inl ((hos.at hsel hag hC).wp fun u w' ⟨x, hu, hp, hC'⟩ => ?_)
        subst hu
        have hi' : i < listed.size := by rw [hR.sz]; exact hlt
        refine hk x hp ?_ ?_ fuel _ _ _ ⟨by simpa using hR.sz, ?_, fun j hj hlj => ?_, fun j hj => ?_, fun j u hj => ?_, ?_, ?_, fun q hq hp' => ?_⟩ hC'
        · intro q hq
          obtain ⟨oq, dq', g1, g2, g3, g4⟩ := hsp q hq
          cases hds : o.dst with
          | none => exact hS q hq
          | some d => exact (hS q hq).cons (o := o) g1 g2 (g3 d hds)
        · exact hW
        · have := count_set hi' hb; have := hR.fu; omega
        · rw [listed_set hi'] at hj
          split at hj
          · rename_i e; exact .inl (e ▸ List.mem_cons_self ..)
          · rcases hR.done j hj hlj with h2 | h2
            · exact .inl (List.mem_cons_of_mem _ h2)
            · exact .inr h2
        · rw [listed_set hi']
          rcases List.mem_cons.1 hj with rfl | hj
          · exact ⟨by simp, hlt⟩
          · refine ⟨?_, (hR.eff j hj).2⟩
            split
            · rfl
            · exact (hR.eff j hj).1
        · cases hds : o.dst with
          | none =>
            rw [hds] at hj
            simp only [bind1] at hj
            rcases hR.slot j u hj with ⟨q, hq, h1, oq, h2, h3⟩ | h1
            · refine .inl ⟨q, hq, ?_, oq, h2, h3⟩
              rw [listed_set hi']
              split
              · rename_i e
                exfalso
                rw [← e, hoi] at h2; cases h2; rw [hds] at h3; cases h3
              · exact h1
            · exact .inr h1
          | some d =>
            rw [hds] at hj hdo
            simp only [bind1, look_cons] at hj
            have hdn : d < n.1 := Nat.le_of_ble_eq_true hdo
            split at hj
            · rename_i e; subst e
              cases hj
              right
              have : d < a.tmps.size := by rw [hR.len]; exact hdn
              simp [Act.put, Array.getD_eq_getD_getElem?, this]
            · rename_i e
              rcases hR.slot j u hj with ⟨q, hq, h1, oq, h2, h3⟩ | h1
              · refine .inl ⟨q, hq, ?_, oq, h2, h3⟩
                rw [listed_set hi']
                split
                · rename_i e2
                  exfalso
                  rw [← e2, hoi] at h2; cases h2; rw [hds] at h3; cases h3; exact e rfl
                · exact h1
              · right
                rw [← h1]
                simp only [Act.put, Array.getD_eq_getD_getElem?, Array.getElem?_setIfInBounds]
                rw [if_neg e]
        · cases hds : o.dst <;> simpa [Act.put] using hR.len
        · cases hds : o.dst <;> exact hR.defs
        · rw [listed_set hi'] at hp'
          split at hp'
          · cases hp'
          · refine allF_spec (hF x hp w' hC') q hq fun hm => ?_
            have := hd _ hm
            have hql : q.i < listed.size := by
              rcases Nat.lt_or_ge q.i listed.size with h4 | h4
              · exact h4
              · simp [Array.getD_eq_getD_getElem?, Array.getElem?_eq_none h4] at hp'
            simp [Array.getD_eq_getD_getElem?, Array.getElem?_eq_getElem hql] at this hp'
            rw [hp'] at this; cases this
      · exfalso
        have := allV_spec.2 hdl
        rw [this] at h1; cases h1

/-- Once for a region: the first t operations write slots of their own, which only those look at that wait for them. -/
def pairB (i j : Nat) (a b : Oper) (ops : Array Oper) : Bool :=
  match a.dst with
  | none => true
  | some d => bif Nat.beq i j then !memN d (sees ops b) else (!memN d (sees ops b) || memN i (deps b)) && (match b.dst with | some e => !Nat.beq d e | none => true)
def rowB (ops : Array Oper) (i : Nat) (a : Oper) : Nat → List Oper → Bool
  | _, [] => true
  | j, b :: l => pairB i j a b ops && rowB ops i a (j + 1) l
def sqB (ops : Array Oper) (body : List Oper) : Nat → List Oper → Bool
  | _, [] => true
  | i, a :: l => rowB ops i a 0 body && sqB ops body (i + 1) l
def ssaB (ops : Array Oper) (t : Nat) : Bool := sqB ops (ops.toList.take t) 0 (ops.toList.take t) && lowN 0 ops.toList
theorem rowB_spec {i : Nat} {a : Oper} {l : List Oper} : ∀ {j0 : Nat}, rowB ops i a j0 l = true → ∀ j b, l[j]? = some b → pairB i (j0 + j) a b ops = true := by
  induction l with
  | nil => intro j0 _ j b h; simp at h
  | cons c l ih =>
    intro j0 h j b hj
    simp only [rowB, Bool.and_eq_true] at h
    cases j with
    | zero => simp at hj; subst hj; exact h.1
    | succ j => have := ih h.2 j b (by simpa using hj); rwa [show j0 + 1 + j = j0 + (j + 1) by omega] at this
theorem sqB_spec {body l : List Oper} : ∀ {i0 : Nat}, sqB ops body i0 l = true → ∀ i a, l[i]? = some a → rowB ops (i0 + i) a 0 body = true := by
  induction l with
  | nil => intro i0 _ i a h; simp at h
  | cons c l ih =>
    intro i0 h i a hi
    simp only [sqB, Bool.and_eq_true] at h
    cases i with
    | zero => simp at hi; subst hi; exact h.1
    | succ i => have := ih h.2 i a (by simpa using hi); rwa [show i0 + 1 + i = i0 + (i + 1) by omega] at this
theorem ssa_pair {t i j : Nat} {a b : Oper} (h : ssaB ops t = true) (hi : ops[i]? = some a) (hj : ops[j]? = some b) (hit : i < t) (hjt : j < t) : pairB i j a b ops = true := by
  unfold ssaB at h
  rw [Bool.and_eq_true] at h
  have h1 := sqB_spec h.1 i a (by rw [List.getElem?_take, if_pos hit]; simpa using hi)
  have h2 := rowB_spec h1 j b (by rw [List.getElem?_take, if_pos hjt]; simpa using hj)
  simpa using h2
/-- A region under way whose looks are closed. -/
def DS (P : Program) (n : Fr) (ops : Array Oper) (t : Nat) (s : List KI) (D : List Vq) (E : List Nat) (L : Env) (C : World → Prop) (Q : Exit → Act → World → Prop) : Prop :=
  ssaB ops t = true → (∀ q ∈ D, q.i < t ∧ ∀ o, ops[q.i]? = some o → (∃ d, o.dst = some d) ∧ ∀ k ∈ deps o, inV D E k = true) → DK P n ops s D E L C Q
theorem apart_ssa {t i : Nat} {o : Oper} (h : ssaB ops t = true) (hD : ∀ q ∈ D, q.i < t ∧ ∀ o, ops[q.i]? = some o → (∃ d, o.dst = some d) ∧ ∀ k ∈ deps o, inV D E k = true) (hS : ∀ q ∈ D, Sp P n ops L q) (ho : ops[i]? = some o) (hit : i < t) (hi : inV D E i = false) : apartN ops o (D.map Vq.i) = true := by
  have key : ∀ D' : List Vq, (∀ q ∈ D', q ∈ D) → apartN ops o (D'.map Vq.i) = true := by
    intro D'
    induction D' with
    | nil => intro _; rfl
    | cons q D' ih =>
      intro hsub
      simp only [List.map_cons, apartN, Bool.and_eq_true]
      refine ⟨?_, ih fun q' hq' => hsub q' (List.mem_cons_of_mem _ hq')⟩
      have hq := hsub q (List.mem_cons_self ..)
      obtain ⟨oq, dq', e1, e2, -⟩ := hS q hq
      obtain ⟨h1, h2⟩ := hD q hq
      have hne : i ≠ q.i := fun e => by
        rw [e, inV_iff.2 (.inr ⟨q, hq, rfl⟩)] at hi; cases hi
      have hnd : i ∉ deps oq := fun hm => by
        have := (h2 oq e1).2 i hm; rw [this] at hi; cases hi
      have p1 := ssa_pair h ho e1 hit h1
      have p2 := ssa_pair h e1 ho h1 hit
      unfold apart1
      rw [e1]
      simp only [e2]
      have b1 : Nat.beq i q.i = false := by rw [Bool.eq_false_iff]; intro hb; exact hne (Nat.eq_of_beq_eq_true hb)
      have b2 : Nat.beq q.i i = false := by rw [Bool.eq_false_iff]; intro hb; exact hne (Nat.eq_of_beq_eq_true hb).symm
      have m1 : memN i (deps oq) = false := by rw [Bool.eq_false_iff]; intro hb; exact hnd (memN_iff.1 hb)
      unfold pairB at p1 p2
      rw [e2] at p1 p2
      simp only [b1, b2, cond_false, Bool.and_eq_true, m1, Bool.or_false] at p1 p2
      cases hod : o.dst with
      | none => simpa [Bool.or_comm] using p2.1
      | some d =>
        rw [hod] at p1
        simp only [Bool.and_eq_true] at p1 ⊢
        exact ⟨⟨p1.1, p1.2⟩, p2.1⟩
  exact key D fun _ h => h
theorem lo_ssa {t : Nat} (h : ssaB ops t = true) : lowN 0 ops.toList = true := by unfold ssaB at h; rw [Bool.and_eq_true] at h; exact h.2
theorem dS {id : Nat} {L : Env} {C : World → Prop} (t : Nat) (hm : P.follows .mixedOrders = true) (hC : ∀ w, C w → C w.drew) (hs : ssaB ops t = true) (h : DS P n ops t s [] [] L C Q) : HK P n (.code (.region id ops true) :: s) L C Q :=
  dk hm hC (h hs (by simp))
/-- A look. -/
theorem dQ {t i : Nat} {o : Oper} {d : Nat} {v : Value} (F : Option (World → Prop)) (ho : ops[i]? = some o) (hit : Nat.blt i t = true) (hd : o.dst = some d) (hn : Nat.blt d n.1 = true) (hD : allV D E (deps o) = true) (hi : inV D E i = false)
    (hrun : (∀ a : Act, (∀ t ∈ sees ops o, ∀ u, look L t = some u → a.tmps.getD t undef = u) → ∀ w, Fw F w → (Region.wanted o (yielded ops a.tmps) = true ∧ (execOp a.eval o).run P w = .ok (.value v) w) ∨ (Region.wanted o (yielded ops a.tmps) = false ∧ v = undef)))
    (hF : ∀ w, C w → Fw F w) (k : DS P n ops t s (⟨i, v, F⟩ :: D) E ((d, v) :: L) C Q) : DS P n ops t s D E L C Q := by
  intro hs hcl hS hW
  have hit' : i < t := Nat.le_of_ble_eq_true hit
  have hap := apart_ssa hs hcl hS ho hit' hi
  have hself : memN d (sees ops o) = false := by
    have := ssa_pair hs ho ho hit' hit'
    unfold pairB at this
    rw [hd] at this
    simpa using this
  refine dq F ho hd hn hD hi hap hself hrun hF (k hs fun q hq => ?_) hS hW
  have mono : ∀ k, inV D E k = true → inV (⟨i, v, F⟩ :: D) E k = true := fun k hk => inV_iff.2 ((inV_iff.1 hk).imp id fun ⟨q, hq, e⟩ => ⟨q, List.mem_cons_of_mem _ hq, e⟩)
  rcases List.mem_cons.1 hq with rfl | hq
  · refine ⟨hit', fun o' ho' => ?_⟩
    have : o' = o := by rw [ho] at ho'; exact (Option.some.inj ho').symm
    subst this
    exact ⟨⟨d, hd⟩, fun k hk => mono k (allV_spec.1 hD k hk)⟩
  · exact ⟨(hcl q hq).1, fun o' ho' => ⟨((hcl q hq).2 o' ho').1, fun k hk => mono k (((hcl q hq).2 o' ho').2 k hk)⟩⟩
def selB (o : Op) : Bool := match o with | .select _ _ => true | _ => false
/-- What acts: one at a time. -/
theorem dE {t e : Nat} {o : Oper} {X : Type} {v : X → Value} {p : X → Prop} {C' : X → World → Prop} (ho : ops[e]? = some o) (het : Nat.blt e t = true) (honly : onlyN D E [e] 0 ops.toList = true) (hi : inV D E e = false) (hdo : dOk n o.dst = true) (hg : gOk o ops L = some true) (hsel : selB o.op = false) (hd : allV D E (deps o) = true)
    (hos : OS P o L C v p C') (hF : ∀ x, p x → ∀ w, C' x w → allF (deps o) D w) (k : ∀ x, p x → DS P n ops t s D (e :: E) (bind1 o.dst (v x) L) (C' x) Q) : DS P n ops t s D E L C Q := by
  intro hs hcl hS hW
  have het' : e < t := Nat.le_of_ble_eq_true het
  refine de [e] (lo_ssa hs) honly ⟨e, by simp, hi, (Array.getElem?_eq_some_iff.1 ho).1⟩ (fun e' he' => ?_) hS hW
  have : e' = e := by simpa using he'
  subst this
  refine ⟨o, ho, apart_ssa hs hcl hS ho het' hi, hdo, hg, (fun cs b h => by rw [h] at hsel; cases hsel), allV_spec.1 hd, X, v, p, C', hos, hF, fun x hp => k x hp hs fun q hq => ?_⟩
  refine ⟨(hcl q hq).1, fun o' ho' => ⟨((hcl q hq).2 o' ho').1, fun k hk => ?_⟩⟩
  have := ((hcl q hq).2 o' ho').2 k hk
  exact inV_iff.2 ((inV_iff.1 this).imp (List.mem_cons_of_mem _) id)
/-- The tail: operations that each wait for all ahead of them. -/
def tailB (t : Nat) : Nat → List Oper → Bool
  | _, [] => true
  | i, o :: l => (Nat.blt i t || (List.range i).all fun k => memN k (deps o)) && tailB t (i + 1) l
theorem tailB_spec {t : Nat} {l : List Oper} : ∀ {i0 : Nat}, tailB t i0 l = true → ∀ i o, l[i]? = some o → t ≤ i0 + i → ∀ k, k < i0 + i → k ∈ deps o := by
  induction l with
  | nil => intro i0 _ i o h; simp at h
  | cons c l ih =>
    intro i0 h i o hi ht k hk
    simp only [tailB, Bool.and_eq_true, Bool.or_eq_true] at h
    cases i with
    | zero =>
      simp at hi; subst hi
      rcases h.1 with h1 | h1
      · have : i0 < t := Nat.le_of_ble_eq_true h1
        omega
      · rw [List.all_eq_true] at h1
        exact memN_iff.1 (h1 k (by simpa using hk))
    | succ i => exact ih h.2 i o (by simpa using hi) (by omega) k (by omega)
theorem seq_any : ∀ (l : List Oper) (t : Nat) (listed : Array Bool) (a : Act) (w : World), tailB t 0 ops.toList = true → listed.size = ops.size → (∀ j, l[j]? = ops[t + j]?) → (∀ j, j < ops.size → listed.getD j true = decide (j < t)) →
    wpList P ops (Kw P s Q) l a w → t + l.length = ops.size → lowN 0 ops.toList = true → wpAny P .any ops (Kw P s Q) l.length listed a w
  | [], t, listed, a, w, hB, hsz, hl, hj, h, hlen, hlow => by
    refine ⟨?_, h⟩
    apply List.eq_nil_iff_forall_not_mem.2
    intro i hi
    obtain ⟨h1, h2, -⟩ := ready_mem.1 hi
    rw [hj i h1] at h2
    simp at h2 hlen
    omega
  | o :: l, t, listed, a, w, hB, hsz, hl, hj, h, hlen, hlow => by
    have h0 : ops[t]? = some o := by simpa using (hl 0).symm
    have htl : t < ops.size := by simp at hlen; omega
    have hB' : tailB (t + 1) 0 ops.toList = true := by
      have key : ∀ (l : List Oper) (i : Nat), tailB t i l = true → tailB (t + 1) i l = true := by
        intro l
        induction l with
        | nil => intro i _; rfl
        | cons c l ih =>
          intro i h
          simp only [tailB, Bool.and_eq_true, Bool.or_eq_true] at h ⊢
          refine ⟨h.1.imp (fun h => ?_) id, ih _ h.2⟩
          have : i < t := Nat.le_of_ble_eq_true h
          exact Nat.ble_eq_true_of_le (by omega)
      exact key _ _ hB
    have hrd : ∀ i ∈ Region.ready .any ops listed, i = t := fun i hi => by
      obtain ⟨h1, h2, o', h3, h4⟩ := ready_mem.1 hi
      rw [hj i h1] at h2
      simp at h2
      rcases Nat.lt_or_ge t i with h5 | h5
      · have := h4 t (tailB_spec hB i o' (by simpa using h3) (by omega) t (by omega))
        have h6 := hj t htl
        have : listed.getD t true = true := by
          have hts : t < listed.size := by omega
          simpa [Array.getD_eq_getD_getElem?, hts] using this
        rw [this] at h6; simp at h6
      · omega
    refine ⟨fun hr => ?_, fun i hi => ?_⟩
    · exact absurd hr (ready_some hlow hsz htl (by rw [hj t htl]; simp))
    · obtain rfl := hrd i hi
      have hw : wpOp P ops (Kw P s Q) i (wpList P ops (Kw P s Q) l) a w := by unfold wpOp; simp only [h0]; exact h
      refine wpOp_mono (fun a' w' h' => seq_any l (i + 1) _ a' w' hB' (by simpa using hsz) (fun j => by have := hl (j + 1); simpa [Nat.add_assoc, Nat.add_comm 1 j] using this) (fun j hjl => ?_) h' (by simp at hlen; omega) hlow) hw
      rw [listed_set (by omega), hj j hjl]
      split
      · rename_i e; subst e; simp
      · rename_i e; simp; omega
/-- All ahead of the tail is told: the tail, one by one. -/
theorem dT {t : Nat} (hall : allV D E (List.range t) = true) (hB : tailB t 0 ops.toList = true) (hE : E.all (fun e => Nat.blt e t) = true) (ht : Nat.ble t ops.size = true) (k : HK P n (.ops ops (ops.toList.drop t) :: s) L C Q) : DS P n ops t s D E L C Q := by
  intro hs hcl hS hW fuel
  have hlow := lo_ssa hs
  have ht' : t ≤ ops.size := Nat.le_of_ble_eq_true ht
  have hEt : ∀ e ∈ E, e < t := fun e he => Nat.le_of_ble_eq_true (List.all_eq_true.1 hE e he)
  induction fuel with
  | zero =>
    intro listed a w hR hC
    have hno : ∀ i, i < ops.size → listed.getD i true = true := fun i hi => by
      cases hb : listed.getD i true with
      | true => rfl
      | false => have := count_set (listed := listed) (i := i) (by rw [hR.sz]; exact hi) hb; have := hR.fu; omega
    have hte : t = ops.size := by
      rcases Nat.lt_or_ge t ops.size with h1 | h1
      · have h2 := hR.done t (hno t h1) h1
        rcases h2 with h2 | ⟨q, hq, h2⟩
        · have := hEt t h2; omega
        · have := (hcl q hq).1; omega
      · omega
    subst hte
    have hk := k a w ⟨hR.len, hR.defs, fun j v hj => by
      rcases hR.slot j v hj with ⟨q, hq, h1, -⟩ | h1
      · rw [hno q.i (hcl q hq).1] at h1; cases h1
      · exact h1⟩ hC
    have hd : ops.toList.drop ops.size = [] := List.drop_of_length_le (by simp)
    rw [hd] at hk
    exact seq_any [] ops.size listed a w hB hR.sz (fun j => by simp) (fun j hj => by rw [hno j hj]; simp [hj]) hk (by simp) hlow
  | succ fuel ih =>
    intro listed a w hR hC
    by_cases hfull : ∀ i, i < t → listed.getD i true = true
    · have hfl : fuel + 1 = (ops.toList.drop t).length := by
        rw [hR.fu]
        have e1 : listed.toList = List.replicate t true ++ List.replicate (ops.size - t) false := by
          apply List.ext_getElem?
          intro i
          rw [List.getElem?_append]
          simp only [List.length_replicate]
          by_cases h1 : i < t
          · have h2 : i < listed.size := by rw [hR.sz]; omega
            have := hfull i h1
            simp [Array.getD_eq_getD_getElem?, h2] at this
            simp [h1, h2, this]
          · by_cases h2 : i < ops.size
            · have h3 : i < listed.size := by rw [hR.sz]; omega
              have : listed[i] = false := by
                cases hb : listed[i] with
                | false => rfl
                | true =>
                  rcases hR.done i (by simp [Array.getD_eq_getD_getElem?, h3, hb]) h2 with h4 | ⟨q, hq, h4⟩
                  · have := hEt i h4; omega
                  · have := (hcl q hq).1; omega
              rw [if_neg h1, List.getElem?_replicate, if_pos (by omega)]
              simp [h3, this]
            · rw [if_neg h1, List.getElem?_replicate, if_neg (by omega)]
              simp [hR.sz]; omega
        rw [e1]
        simp
      have hk := k a w ⟨hR.len, hR.defs, fun j v hj => by
        rcases hR.slot j v hj with ⟨q, hq, h1, -⟩ | h1
        · rw [hfull q.i (hcl q hq).1] at h1; cases h1
        · exact h1⟩ hC
      rw [hfl]
      refine seq_any _ t listed a w hB hR.sz (fun j => by simp) (fun j hj => ?_) hk (by simp; omega) hlow
      by_cases h1 : j < t
      · rw [hfull j h1]; simp [h1]
      · cases hb : listed.getD j true with
        | false => simp [h1]
        | true =>
          rcases hR.done j hb hj with h4 | ⟨q, hq, h4⟩
          · have := hEt j h4; omega
          · have := (hcl q hq).1; omega
    · obtain ⟨i, hi, hb⟩ : ∃ i, i < t ∧ listed.getD i true = false := by
        obtain ⟨i, h1⟩ := Classical.not_forall.1 hfull
        obtain ⟨h1, h2⟩ := Classical.not_imp.1 h1
        exact ⟨i, h1, by simpa using h2⟩
      refine ⟨fun hr => absurd hr (ready_some hlow hR.sz (by omega) hb), fun j hj => ?_⟩
      obtain ⟨h1, h2, o, h3, h4⟩ := ready_mem.1 hj
      have hjt : j < t := by
        rcases Nat.lt_or_ge j t with h5 | h5
        · exact h5
        · have := h4 i (tailB_spec hB j o (by simpa using h3) (by omega) i (by omega))
          have h6 : listed.getD i true = true := by
            have hts : i < listed.size := by rw [hR.sz]; omega
            simpa [Array.getD_eq_getD_getElem?, hts] using this
          rw [h6] at hb; cases hb
      have := allV_spec.1 hall j (by simpa using hjt)
      rcases inV_iff.1 this with h5 | ⟨q, hq, h5⟩
      · have := (hR.eff j h5).1; rw [this] at h2; cases h2
      · subst h5
        exact hR.look hS hW hq hj fun a' hR' => ih _ a' w hR' hC
end
end
end Go.Proofs.YtimemehaccgmmaaGreatDoor
