/-
  Parts of the walks and their plain laws (E23 E24 E25). No condition.
-/
import Derived.Test.YtimemehaccgmmaaGreatDoorM09
namespace Go.Proofs.YtimemehaccgmmaaGreatDoor
open Go.RowKit
set_option maxRecDepth 100000
set_option linter.unusedSimpArgs false
set_option linter.unusedVariables false
noncomputable section
section
variable {P : Program} {n : Fr} {t : Nat} {ops : Array Oper} {s : List KI} {L L' L0 : Env} {C C' : World → Prop} {Q : Exit → Act → World → Prop} {J : List (World → Prop)} {H H' H0 : List RC} {D : List Vq} {E E' E0 : List Nat}
/-- What is bound, what is done: in whatever order it stands. -/
theorem dsw (hL : ∀ j, look L j = look L' j) (hE : ∀ e, e ∈ E ↔ e ∈ E') (hC : ∀ w, C w → C' w) (k : DS P n ops t s D E' L' C' Q) : DS P n ops t s D E L C Q := by
  intro hs hcl hS hW fuel listed a w hR hc
  have hin : ∀ k, inV D E k = inV D E' k := fun k => by
    rw [Bool.eq_iff_iff, inV_iff, inV_iff, hE]
  refine k hs (fun q hq => ⟨(hcl q hq).1, fun o ho => ⟨((hcl q hq).2 o ho).1, fun k hk => by rw [← hin]; exact ((hcl q hq).2 o ho).2 k hk⟩⟩) (fun q hq => ?_) hW fuel listed a w ?_ (hC w hc)
  · obtain ⟨o, d, h1, h2, h3, h4, h5⟩ := hS q hq
    exact ⟨o, d, h1, h2, h3, by rw [← hL]; exact h4, fun a ha w hw => h5 a (fun t ht u hu => ha t ht u (by rw [← hL]; exact hu)) w hw⟩
  · exact ⟨hR.sz, hR.fu, fun i h1 h2 => (hR.done i h1 h2).imp (hE i).1 id, fun i hi => hR.eff i ((hE i).2 hi), fun j v hj => hR.slot j v (by rw [hL]; exact hj), hR.len, hR.defs, hR.pend⟩
/-- One of the ways to go on. -/
def EfS (P : Program) (n : Fr) (ops : Array Oper) (t : Nat) (s : List KI) (D : List Vq) (E : List Nat) (L : Env) (C : World → Prop) (Q : Exit → Act → World → Prop) (e : Nat) : Prop :=
  ∃ o, ops[e]? = some o ∧ Nat.blt e t = true ∧ inV D E e = false ∧ dOk n o.dst = true ∧ gOk o ops L = some true ∧ selB o.op = false ∧ allV D E (deps o) = true ∧
    ∃ (X : Type) (v : X → Value) (p : X → Prop) (C' : X → World → Prop), OS P o L C v p C' ∧ (∀ x, p x → ∀ w, C' x w → allF (deps o) D w) ∧ ∀ x, p x → DS P n ops t s D (e :: E) (bind1 o.dst (v x) L) (C' x) Q
theorem dEs (es : List Nat) (hne : es ≠ []) (honly : onlyN D E es 0 ops.toList = true) (h : ∀ e ∈ es, EfS P n ops t s D E L C Q e) : DS P n ops t s D E L C Q := by
  intro hs hcl hS hW
  refine de es (lo_ssa hs) honly ?_ (fun e he => ?_) hS hW
  · obtain ⟨e, he⟩ := List.exists_mem_of_ne_nil es hne
    obtain ⟨o, ho, -, hi, -⟩ := h e he
    exact ⟨e, he, hi, (Array.getElem?_eq_some_iff.1 ho).1⟩
  · obtain ⟨o, ho, het, hi, hdo, hg, hsel, hd, X, v, p, C', hos, hF, k⟩ := h e he
    refine ⟨o, ho, apart_ssa hs hcl hS ho (Nat.le_of_ble_eq_true het) hi, hdo, hg, (fun cs b h => by rw [h] at hsel; cases hsel), allV_spec.1 hd, X, v, p, C', hos, hF, fun x hp => k x hp hs fun q hq => ?_⟩
    refine ⟨(hcl q hq).1, fun o' ho' => ⟨((hcl q hq).2 o' ho').1, fun k hk => ?_⟩⟩
    have := ((hcl q hq).2 o' ho').2 k hk
    exact inV_iff.2 ((inV_iff.1 this).imp (List.mem_cons_of_mem _) id)
/-- A chain of two operations: a new element, and its being laid behind a slice. -/
structure Cn where
  b : Nat
  a : Nat
  d1 : Nat
  d2 : Nat
  r0 : RC
  u1 : Nat → RC
  v1 : Nat → Value
  r2 : Option Addr × Nat → RC
  v2 : Option Addr × Nat → Value
inductive Pg
  | z
  | o (b : Nat)
  | t (b : Nat) (q : Option Addr × Nat)
def bnC (c : Cn) : Pg → Env
  | .z => []
  | .o b => [(c.d1, c.v1 b)]
  | .t b q => [(c.d2, c.v2 q), (c.d1, c.v1 b)]
def rsC (c : Cn) : Pg → List RC
  | .z => [c.r0]
  | .o b => [c.u1 b, c.r0]
  | .t _ q => [c.r2 q]
def shp : Pg → Nat
  | .z => 0
  | .o _ => 1
  | .t _ _ => 2
def edC (c : Cn) : Nat → List Nat
  | 0 => []
  | 1 => [c.b]
  | _ => [c.a, c.b]
def nxC (c : Cn) : Nat → List Nat
  | 0 => [c.b]
  | 1 => [c.a]
  | _ => []
/-- What each chain brings. -/
structure CnOk (P : Program) (n : Fr) (ops : Array Oper) (t : Nat) (D : List Vq) (J : List (World → Prop)) (L0 : Env) (c : Cn) : Prop where
  ob : ∃ o, ops[c.b]? = some o ∧ Nat.blt c.b t = true ∧ o.dst = some c.d1 ∧ Nat.blt c.d1 n.1 = true ∧ o.guard = none ∧ selB o.op = false ∧ ∀ H, OS P o L0 (Ctx J (c.r0 :: H)) c.v1 (fun _ => True) (fun b => Ctx J (c.u1 b :: c.r0 :: H))
  oa : ∃ o, ops[c.a]? = some o ∧ Nat.blt c.a t = true ∧ o.dst = some c.d2 ∧ Nat.blt c.d2 n.1 = true ∧ o.guard = none ∧ selB o.op = false ∧ ∀ b H, OS P o ((c.d1, c.v1 b) :: L0) (Ctx J (c.u1 b :: c.r0 :: H)) c.v2 (fun _ => True) (fun q => Ctx J (c.r2 q :: H))
theorem look_app {l1 l2 : Env} {j : Nat} : look (l1 ++ l2) j = (look l1 j).or (look l2 j) := by
  induction l1 with
  | nil => rfl
  | cons x l1 ih =>
    obtain ⟨k, v⟩ := x
    rw [List.cons_append, look_cons, look_cons]
    split
    · rfl
    · exact ih
theorem look_key {l : Env} {j : Nat} (h : j ∉ l.map Prod.fst) : look l j = none := by
  induction l with
  | nil => rfl
  | cons x l ih =>
    obtain ⟨k, v⟩ := x
    simp only [List.map_cons, List.mem_cons, not_or] at h
    rw [look_cons, if_neg (fun e => h.1 e.symm)]; exact ih h.2
theorem OS.ext {o : Oper} {X : Type} {v : X → Value} {p : X → Prop} {C1 : X → World → Prop} (h : OS P o L C v p C1) (hL : ∀ j u, look L j = some u → look L' j = some u) : OS P o L' C v p C1 := by
  intro ρ w hρ hc
  refine h ρ w (fun x u hx => hρ x u ?_) hc
  cases x with
  | tmp j => exact hL j u hx
  | _ => exact hx
theorem OS.imp {o : Oper} {X : Type} {v : X → Value} {p : X → Prop} {C1 C2 : X → World → Prop} {C0 : World → Prop} (h : OS P o L C v p C1) (h0 : ∀ w, C0 w → C w) (h2 : ∀ x w, C1 x w → C2 x w) : OS P o L C0 v p C2 := by
  intro ρ w hρ hc
  have := h ρ w hρ (h0 w hc)
  generalize (execOp ρ o).run P w = r at this ⊢
  unfold Yl at this ⊢
  split at this
  · obtain ⟨x, h3, h4, h5⟩ := this; exact ⟨x, h3, h4, h2 x _ h5⟩
  · obtain ⟨x, h3, h4, h5⟩ := this; exact ⟨x, h3, h4, h2 x _ h5⟩
  · exact this.mono fun e w' ⟨u, h6, x, h3, h4, h5⟩ => ⟨u, h6, x, h3, h4, h2 x _ h5⟩
  · exact this.elim
theorem look_mid {A B : Env} {d : Nat} {v : Value} (h : d ∉ A.map Prod.fst) (j : Nat) : look ((d, v) :: (A ++ B)) j = look (A ++ (d, v) :: B) j := by
  rw [look_app, look_cons, look_cons, look_app]
  split
  · rename_i e; subst e; rw [look_key h]; rfl
  · rfl
def LLc (L0 : Env) (cs : List (Cn × Pg)) : Env := cs.flatMap (fun x => bnC x.1 x.2) ++ L0
def HHc (H0 : List RC) (cs : List (Cn × Pg)) : List RC := cs.flatMap (fun x => rsC x.1 x.2) ++ H0
def EEs (E0 : List Nat) (r : List (Cn × Nat)) : List Nat := r.flatMap (fun x => edC x.1 x.2) ++ E0
def NNs (r : List (Cn × Nat)) : List Nat := r.flatMap fun x => nxC x.1 x.2
def allP : List Cn → List (List (Cn × Nat))
  | [] => [[]]
  | c :: cs => (allP cs).flatMap fun r => [(c, 0) :: r, (c, 1) :: r, (c, 2) :: r]
def sh2 (cs : List (Cn × Pg)) : List (Cn × Nat) := cs.map fun x => (x.1, shp x.2)
theorem sh2_mem : ∀ cs : List (Cn × Pg), sh2 cs ∈ allP (cs.map Prod.fst)
  | [] => by simp [sh2, allP]
  | (c, p) :: cs => by
    have ih := sh2_mem cs
    simp only [List.map_cons, allP, List.mem_flatMap]
    refine ⟨sh2 cs, ih, ?_⟩
    cases p <;> simp [sh2, shp]
def rdy (ops : Array Oper) (D : List Vq) (E : List Nat) (e : Nat) : Bool := match ops[e]? with | some o => allV D E (deps o) | none => false
def chkP (ops : Array Oper) (D : List Vq) (E0 : List Nat) (r : List (Cn × Nat)) : Bool :=
  (NNs r).isEmpty || (onlyN D (EEs E0 r) ((NNs r).filter (rdy ops D (EEs E0 r))) 0 ops.toList && (!((NNs r).filter (rdy ops D (EEs E0 r))).isEmpty && (NNs r).all fun e => !inV D (EEs E0 r) e))
theorem bnC_key {c : Cn} {p : Pg} {j : Nat} (h : j ∈ (bnC c p).map Prod.fst) : j = c.d1 ∨ j = c.d2 := by
  cases p <;> simp [bnC] at h <;> omega
theorem key_mem {cs : List (Cn × Pg)} {j : Nat} (h : j ∈ (cs.flatMap (fun x => bnC x.1 x.2)).map Prod.fst) : j ∈ (cs.map Prod.fst).flatMap fun c => [c.d1, c.d2] := by
  simp only [List.mem_map, List.mem_flatMap] at h ⊢
  obtain ⟨y, ⟨x, hx', hy⟩, rfl⟩ := h
  have := bnC_key (List.mem_map_of_mem (f := Prod.fst) hy)
  exact ⟨x.1, ⟨x, hx', rfl⟩, by simpa using this⟩
theorem allF_all {ds : List Nat} {w : World} : ∀ {D : List Vq}, (∀ q ∈ D, Fw q.F w) → allF ds D w := by
  intro D
  induction D with
  | nil => intro _; trivial
  | cons q D ih =>
    intro h
    have h1 := ih fun q' hq => h q' (List.mem_cons_of_mem _ hq)
    have h2 := h q (List.mem_cons_self ..)
    obtain ⟨qi, qv, qF⟩ := q
    cases qF with
    | none => exact h1
    | some F =>
      have h3 : F w := h2
      show (match memN qi ds with | true => allF ds D w | false => F w ∧ allF ds D w)
      split
      · exact h1
      · exact ⟨h3, h1⟩
theorem sum_mem {α : Type} {f : α → Nat} {x : α} : ∀ {l : List α}, x ∈ l → f x ≤ (l.map f).sum
  | y :: l, h => by
    simp only [List.map_cons, List.sum_cons]
    rcases List.mem_cons.1 h with rfl | h
    · omega
    · have := sum_mem (f := f) h; omega
theorem LLc_mid {l r : List (Cn × Pg)} {c : Cn} {pg : Pg} : LLc L0 (l ++ (c, pg) :: r) = l.flatMap (fun x => bnC x.1 x.2) ++ (bnC c pg ++ (r.flatMap (fun x => bnC x.1 x.2) ++ L0)) := by
  simp [LLc]
theorem HHc_mid {l r : List (Cn × Pg)} {c : Cn} {pg : Pg} : HHc H0 (l ++ (c, pg) :: r) = l.flatMap (fun x => rsC x.1 x.2) ++ (rsC c pg ++ (r.flatMap (fun x => rsC x.1 x.2) ++ H0)) := by
  simp [HHc]
theorem EEs_mid {l r : List (Cn × Pg)} {c : Cn} {pg : Pg} {e : Nat} : e ∈ EEs E0 (sh2 (l ++ (c, pg) :: r)) ↔ e ∈ edC c (shp pg) ∨ (e ∈ (sh2 l).flatMap (fun x => edC x.1 x.2) ∨ e ∈ (sh2 r).flatMap (fun x => edC x.1 x.2) ∨ e ∈ E0) := by
  simp only [EEs, sh2, List.map_append, List.map_cons, List.flatMap_append, List.flatMap_cons, List.mem_append]
  constructor
  · rintro ((h | h | h) | h)
    · exact .inr (.inl h)
    · exact .inl h
    · exact .inr (.inr (.inl h))
    · exact .inr (.inr (.inr h))
  · rintro (h | h | h | h)
    · exact .inl (.inr (.inl h))
    · exact .inl (.inl h)
    · exact .inl (.inr (.inr h))
    · exact .inr h
theorem parN (chs : List Cn) (hok : ∀ c ∈ chs, CnOk P n ops t D J L0 c) (hnd : (chs.flatMap fun c => [c.d1, c.d2]).Nodup) (hL0 : ∀ d ∈ chs.flatMap (fun c => [c.d1, c.d2]), look L0 d = none)
    (hsh : (allP chs).all (chkP ops D E0) = true) (hD : ∀ H w, Ctx J (H ++ H0) w → ∀ q ∈ D, Fw q.F w)
    (k : ∀ cs : List (Cn × Pg), cs.map Prod.fst = chs → (∀ x ∈ cs, shp x.2 = 2) → DS P n ops t s D (EEs E0 (sh2 cs)) (LLc L0 cs) (Ctx J (HHc H0 cs)) Q) :
    ∀ (m : Nat) (cs : List (Cn × Pg)), cs.map Prod.fst = chs → (cs.map fun x => 2 - shp x.2).sum ≤ m → DS P n ops t s D (EEs E0 (sh2 cs)) (LLc L0 cs) (Ctx J (HHc H0 cs)) Q := by
  intro m
  induction m with
  | zero =>
    intro cs hcs hm
    refine k cs hcs fun x hx' => ?_
    have := sum_mem (f := fun x : Cn × Pg => 2 - shp x.2) hx'
    have h2 : shp x.2 ≤ 2 := by cases x.2 <;> simp [shp]
    omega
  | succ m ih =>
    intro cs hcs hm
    by_cases hdone : ∀ x ∈ cs, shp x.2 = 2
    · exact k cs hcs hdone
    · have hch := List.all_eq_true.1 hsh _ (hcs ▸ sh2_mem cs)
      have hne0 : NNs (sh2 cs) ≠ [] := by
        intro h0
        apply hdone
        intro x hx'
        have h1 : nxC x.1 (shp x.2) = [] := by
          apply List.eq_nil_iff_forall_not_mem.2
          intro e he
          have : e ∈ NNs (sh2 cs) := List.mem_flatMap.2 ⟨(x.1, shp x.2), List.mem_map.2 ⟨x, hx', rfl⟩, he⟩
          rw [h0] at this; cases this
        cases h2 : x.2 <;> rw [h2] at h1 <;> simp [nxC, shp] at h1 ⊢
      unfold chkP at hch
      rw [show (NNs (sh2 cs)).isEmpty = false by cases h : NNs (sh2 cs) with | nil => exact absurd h hne0 | cons a l => rfl, Bool.false_or, Bool.and_eq_true, Bool.and_eq_true] at hch
      obtain ⟨hch1, hch3, hch2⟩ := hch
      refine dEs ((NNs (sh2 cs)).filter (rdy ops D (EEs E0 (sh2 cs)))) (fun h0 => by rw [h0] at hch3; cases hch3) hch1 fun e he => ?_
      · obtain ⟨he, hdp⟩ := List.mem_filter.1 he
        have hin := List.all_eq_true.1 hch2 e he
        rw [Bool.not_eq_true'] at hin
        unfold rdy at hdp
        obtain ⟨y, hy, hey⟩ := List.mem_flatMap.1 he
        obtain ⟨⟨c, pg⟩, hx', rfl⟩ := List.mem_map.1 hy
        dsimp only at hey
        obtain ⟨l, r, rfl⟩ := List.append_of_mem hx'
        have hc := hok c (by rw [← hcs]; simp)
        have hks : ∀ j, j ∈ ((l ++ (c, pg) :: r).flatMap (fun x => bnC x.1 x.2)).map Prod.fst → look L0 j = none := fun j hj => hL0 j (hcs ▸ key_mem hj)
        have hnl : c.d1 ∉ (l.flatMap (fun x => bnC x.1 x.2)).map Prod.fst ∧ c.d2 ∉ (l.flatMap (fun x => bnC x.1 x.2)).map Prod.fst := by
          rw [← hcs, List.map_append, List.map_cons, List.flatMap_append, List.flatMap_cons] at hnd
          have h3 := (List.nodup_append.1 hnd).2.2
          exact ⟨fun hh => h3 _ (key_mem hh) _ (by simp) rfl, fun hh => h3 _ (key_mem hh) _ (by simp) rfl⟩
        have hLsub : ∀ j u, look L0 j = some u → look (LLc L0 (l ++ (c, pg) :: r)) j = some u := by
          intro j u hj
          unfold LLc
          rw [look_app]
          have : look ((l ++ (c, pg) :: r).flatMap (fun x => bnC x.1 x.2)) j = none := look_key fun hh => by rw [hks j hh] at hj; cases hj
          rw [this]; exact hj
        have hDF : ∀ cs' w, Ctx J (HHc H0 cs') w → ∀ q ∈ D, Fw q.F w := fun cs' w h => hD _ w h
        cases pg with
        | t b q => simp [nxC, shp] at hey
        | z =>
          obtain rfl : e = c.b := by simpa [nxC, shp] using hey
          obtain ⟨o, ho, hbt, hd, hdn, hgd, hsel, hos⟩ := hc.ob
          rw [ho] at hdp
          refine ⟨o, ho, hbt, hin, by rw [hd]; exact hdn, by unfold gOk; rw [hgd], hsel, hdp, Nat, c.v1, fun _ => True, fun b => Ctx J (HHc H0 (l ++ (c, .o b) :: r)), ?_, fun b _ w h => allF_all (hDF _ w h), fun b _ => ?_⟩
          · refine ((hos ((l.flatMap (fun x => rsC x.1 x.2)) ++ (r.flatMap (fun x => rsC x.1 x.2) ++ H0))).ext hLsub).imp (fun w h => h.perm ?_) (fun b w h => h.perm ?_)
            · rw [HHc_mid]; exact List.perm_middle
            · rw [HHc_mid]; exact List.perm_append_comm_assoc [c.u1 b, c.r0] _ _
          · refine dsw (fun j => ?_) (fun e => ?_) (fun w h => h) (ih (l ++ (c, .o b) :: r) (by simpa using hcs) ?_)
            · rw [hd, LLc_mid, LLc_mid]
              exact look_mid hnl.1 j
            · rw [List.mem_cons, EEs_mid, EEs_mid]
              simp only [edC, shp, List.not_mem_nil, false_or, List.mem_singleton]
            · simp only [List.map_append, List.map_cons, List.sum_append, List.sum_cons, shp] at hm ⊢; omega
        | o b =>
          obtain rfl : e = c.a := by simpa [nxC, shp] using hey
          obtain ⟨o, ho, hbt, hd, hdn, hgd, hsel, hos⟩ := hc.oa
          rw [ho] at hdp
          refine ⟨o, ho, hbt, hin, by rw [hd]; exact hdn, by unfold gOk; rw [hgd], hsel, hdp, Option Addr × Nat, c.v2, fun _ => True, fun q => Ctx J (HHc H0 (l ++ (c, .t b q) :: r)), ?_, fun b _ w h => allF_all (hDF _ w h), fun q _ => ?_⟩
          · refine ((hos b ((l.flatMap (fun x => rsC x.1 x.2)) ++ (r.flatMap (fun x => rsC x.1 x.2) ++ H0))).ext fun j u hj => ?_).imp (fun w h => h.perm ?_) (fun q w h => h.perm ?_)
            · rw [look_cons] at hj
              split at hj
              · rename_i e1; subst e1
                rw [LLc_mid]
                have := look_mid (B := r.flatMap (fun x => bnC x.1 x.2) ++ L0) (v := c.v1 b) hnl.1 c.d1
                rw [look_cons, if_pos rfl] at this
                exact this.symm.trans hj
              · exact hLsub j u hj
            · rw [HHc_mid]; exact List.perm_append_comm_assoc _ [c.u1 b, c.r0] _
            · rw [HHc_mid]; exact List.perm_middle.symm
          · refine dsw (fun j => ?_) (fun e => ?_) (fun w h => h) (ih (l ++ (c, .t b q) :: r) (by simpa using hcs) ?_)
            · rw [hd, LLc_mid, LLc_mid]
              exact look_mid hnl.2 j
            · rw [List.mem_cons, EEs_mid, EEs_mid]
              simp only [edC, shp, List.mem_cons, List.not_mem_nil, or_false, or_assoc]
            · simp only [List.map_append, List.map_cons, List.sum_append, List.sum_cons, shp] at hm ⊢; omega
section
variable {α : Type} {f : α → List Value} {sz : Nat} {ad : Option Addr} {cap : Nat} {xs : List α} {e : TypeId}
abbrev apC (f : α → List Value) (sz : Nat) (e : TypeId) (ad : Option Addr) (cap : Nat) (xs : List α) (y : α) (b a d1 d2 : Nat) (te : TypeId) (vs : List Value) : Cn :=
  ⟨b, a, d1, d2, sl f sz e ad cap xs, fun b => pt b te vs, fun b => .slice (some ⟨b, 0, none⟩) 1 1, fun q => sl f sz e q.1 q.2 (xs ++ [y]), fun q => .slice q.1 (xs ++ [y]).length q.2⟩
theorem mkCn [Lf : Lies f sz] {y : α} {b a d1 d2 : Nat} {te : TypeId} {vs : List Value} {ob oa : Oper} {t0 t1 tx e' : TypeId} {parts : Array (Nat × Operand)} {ps : List (Nat × Value)} {m : Nat} {z : Value} {by' : Nat}
    (h1 : ops[b]? = some ob) (h2 : Nat.blt b t = true) (h3 : ob.dst = some d1) (h4 : Nat.blt d1 n.1 = true) (h5 : ob.guard = none) (h6 : selB ob.op = false) (ho : ob.op = .buildSlice t0 1 parts) (hp : evp L0 parts.toList = some ps) (hv : bsl P t0 1 ps = some (te, vs))
    (k1 : ops[a]? = some oa) (k2 : Nat.blt a t = true) (k3 : oa.dst = some d2) (k4 : Nat.blt d2 n.1 = true) (k5 : oa.guard = none) (k6 : selB oa.op = false)
    (ha : ∀ x : Nat, apo oa.op ((d1, .slice (some ⟨x, 0, none⟩) 1 1) :: L0) = some (t1, tx, ad, m, cap, .slice (some ⟨x, 0, none⟩) 1 1)) (hy : f y = vs) (hm : m = xs.length) (hi : inf P t1 = some (e, z, sz, by')) (hz : (cs1 z).map (·.length) = some sz) (hby : Nat.ble by' 100000 = true) (htx : P.underlying tx = some (.slice e')) (hb : xs.length + 1 ≤ 1000000000) :
    CnOk P n ops t D J L0 (apC f sz e ad cap xs y b a d1 d2 te vs) :=
  ⟨⟨ob, h1, h2, h3, h4, h5, h6, fun H => oBs ho hp hv⟩, ⟨oa, k1, k2, k3, k4, k5, k6, fun x H => oAp1 (k := 0) (G := fun q => sl f sz e q.1 q.2 (xs ++ [y]) :: H) (ha x) rfl hy hm hi hz hby htx hb fun _ => rfl⟩⟩
def allD : List Vq → World → Prop
  | [], _ => True
  | q :: D, w => Fw q.F w ∧ allD D w
theorem allD_iff {w : World} : ∀ {D : List Vq}, allD D w → ∀ q ∈ D, Fw q.F w
  | q :: D, h, q', hq => by
    rcases List.mem_cons.1 hq with rfl | hq
    · exact h.1
    · exact allD_iff h.2 q' hq
theorem hDs (h : ∀ w, allJ J w → allH H0 w → allD D w) : ∀ H w, Ctx J (H ++ H0) w → ∀ q ∈ D, Fw q.F w := fun H w hc =>
  allD_iff (h w hc.js (allH_iff.2 fun r hr => allH_iff.1 hc.hs r (List.mem_append_right _ hr)))
theorem shp2 {p : Pg} (h : shp p = 2) : ∃ b q, p = .t b q := by
  cases p with
  | t b q => exact ⟨b, q, rfl⟩
  | _ => cases h
end
section
variable {α β γ : Type} {f : α → List Value} {g : β → List Value} {h : γ → List Value} {sz sz2 sz3 : Nat} {ad ad2 ad3 : Option Addr} {cap cap2 cap3 : Nat} {xs : List α} {ys : List β} {zs : List γ} {e e2 e3 : TypeId}
/-- Two new elements are laid behind two slices, in any order. -/
theorem par2 (b1 a1 b2 a2 : Nat) (y : α) (z : β) {d1 d1' d2 d2' : Nat} {te te2 : TypeId} {vs vs2 : List Value}
    (k : ∀ (q1 q2 : Option Addr × Nat) (x1 x2 : Nat), DS P n ops t s D (a1 :: b1 :: a2 :: b2 :: E0) ((d1', .slice q1.1 (xs ++ [y]).length q1.2) :: (d1, .slice (some ⟨x1, 0, none⟩) 1 1) :: (d2', .slice q2.1 (ys ++ [z]).length q2.2) :: (d2, .slice (some ⟨x2, 0, none⟩) 1 1) :: L0) (Ctx J (sl f sz e q1.1 q1.2 (xs ++ [y]) :: sl g sz2 e2 q2.1 q2.2 (ys ++ [z]) :: H0)) Q)
    (h1 : CnOk P n ops t D J L0 (apC f sz e ad cap xs y b1 a1 d1 d1' te vs)) (h2 : CnOk P n ops t D J L0 (apC g sz2 e2 ad2 cap2 ys z b2 a2 d2 d2' te2 vs2))
    (hnd : [d1, d1', d2, d2'].Nodup := by decide) (hl : ∀ d ∈ [d1, d1', d2, d2'], look L0 d = none := by intro d hd; simp only [List.mem_cons, List.not_mem_nil, or_false] at hd; rcases hd with rfl | rfl | rfl | rfl <;> rfl)
    (hsh : (allP [apC f sz e ad cap xs y b1 a1 d1 d1' te vs, apC g sz2 e2 ad2 cap2 ys z b2 a2 d2 d2' te2 vs2]).all (chkP ops D E0) = true := by rfl)
    (hD : ∀ w, allJ J w → allH H0 w → allD D w := by intro w j h; repeat' (first | exact trivial | exact h.1 | exact h.2.1 | exact h.2.2.1 | exact h.2.2.2.1 | exact h.2.2.2.2.1 | exact h.2.2.2.2.2.1 | exact j.1 | exact j.2.1 | exact j.2.2.1 | exact j.2.2.2.1 | exact j.2.2.2.2.1 | refine And.intro ?_ ?_)) : DS P n ops t s D E0 L0 (Ctx J (sl f sz e ad cap xs :: sl g sz2 e2 ad2 cap2 ys :: H0)) Q := by
  refine parN (H0 := H0) [apC f sz e ad cap xs y b1 a1 d1 d1' te vs, apC g sz2 e2 ad2 cap2 ys z b2 a2 d2 d2' te2 vs2] (fun c hc => ?_) hnd hl hsh (hDs hD) (fun cs hcs hall => ?_) 4 [(_, .z), (_, .z)] rfl (by simp [shp])
  · simp only [List.mem_cons, List.not_mem_nil, or_false] at hc
    rcases hc with rfl | rfl
    · exact h1
    · exact h2
  · match cs, hcs, hall with
    | [(c1, p1), (c2, p2)], hcs, hall =>
      simp only [List.map_cons, List.map_nil, List.cons.injEq, and_true] at hcs
      obtain ⟨rfl, rfl⟩ := hcs
      obtain ⟨x1, q1, rfl⟩ := shp2 (hall _ (List.mem_cons_self ..))
      obtain ⟨x2, q2, rfl⟩ := shp2 (hall _ (List.mem_cons_of_mem _ (List.mem_cons_self ..)))
      exact k q1 q2 x1 x2
end
end
end
end Go.Proofs.YtimemehaccgmmaaGreatDoor
namespace Go.Proofs.YtimemehaccgmmaaGreatDoor
open Go.RowKit
set_option maxRecDepth 100000
set_option linter.unusedSimpArgs false
set_option linter.unusedVariables false
noncomputable section
section
variable {P : Program} {n : Fr} {ops : Array Oper} {o o1 o2 : Oper} {s : List KI} {L : Env} {C : World → Prop} {Q : Exit → Act → World → Prop} {J : List (World → Prop)} {H : List RC} {D : List Vq} {E : List Nat}
variable {α β : Type} {sz sz2 : Nat}
/-- make, in a region that draws. -/
theorem dm1 (f : α → List Value) [Lf : Lies f sz] (y : α) {t0 e0 : Nat} {m : Nat} {e t : TypeId} {x x2 : Operand} {kk : IntKind} {z : Value} {by' : Nat}
    (k : ∀ b : Nat, DS P n ops t0 s D (e0 :: E) (bind1 o.dst (.slice (some ⟨b, 0, none⟩) m m) L) (Ctx J (sl f sz e (some ⟨b, 0, none⟩) m (List.replicate m y) :: H)) Q)
    (h : fnd t0 D E (kB 9) nums ops.toList = some (e0, o) := by rfl) (honly : onlyM D E [e0] nums ops.toList = true := by rfl) (hdo : dOk n o.dst = true := by rfl) (hg : gOk o ops L = some true := by rfl) (hsel : selB o.op = false := by rfl)
    (hF : ∀ b : Nat, True → ∀ w, Ctx J (sl f sz e (some ⟨b, 0, none⟩) m (List.replicate m y) :: H) w → allF (deps o) D w := by exact af)
    (ho : o.op = .makeSlice t x x2 := by rfl) (hx' : ev L x = some (.int kk (m : Int)) := by rfl) (hx2' : ev L x2 = some (.int kk (m : Int)) := by rfl)
    (hi : inf P t = some (e, z, sz, by') := by rfl) (hz : cs1 z = some (f y) := by rfl) (hby : Nat.ble by' 100000 = true := by rfl) (hm : m ≤ 1000000000 := by first | omega | (simp <;> omega)) : DS P n ops t0 s D E L (Ctx J H) Q :=
  kq (kB 9) h (qX (oMk (f := f) (y := y) ho hx' hx2' hi hz hby hm) honly hdo hg hsel hF k)
/-- Two makes that may begin in either order. -/
theorem dm2 (e1 e2 : Nat) (f : α → List Value) [Lf : Lies f sz] (y : α) (g : β → List Value) [Lg : Lies g sz2] (u : β) {t0 d1 d2 m m2 : Nat} {e t e' t' : TypeId} {x x2 x' x2' : Operand} {kk kk' : IntKind} {z z' : Value} {by1 by2 : Nat}
    (k : ∀ b b2 : Nat, DS P n ops t0 s D (e2 :: e1 :: E) ((d2, .slice (some ⟨b2, 0, none⟩) m2 m2) :: (d1, .slice (some ⟨b, 0, none⟩) m m) :: L) (Ctx J (sl g sz2 e' (some ⟨b2, 0, none⟩) m2 (List.replicate m2 u) :: sl f sz e (some ⟨b, 0, none⟩) m (List.replicate m y) :: H)) Q)
    (h1 : ops[e1]? = some o1 := by rfl) (h2 : ops[e2]? = some o2 := by rfl) (ht : (Nat.blt e1 t0 && Nat.blt e2 t0 && !inV D E e1 && !inV D E e2 && !inV D (e1 :: E) e2 && !inV D (e2 :: E) e1) = true := by rfl)
    (hd1 : o1.dst = some d1 := by rfl) (hd2 : o2.dst = some d2 := by rfl) (hdd : Nat.beq d1 d2 = false := by rfl) (hdo : (dOk n o1.dst && dOk n o2.dst) = true := by rfl)
    (hg1 : o1.guard = none := by rfl) (hg2 : o2.guard = none := by rfl)
    (hv : (allV D E (deps o1) && allV D E (deps o2) && allV D (e1 :: E) (deps o2) && allV D (e2 :: E) (deps o1)) = true := by rfl)
    (ho : (onlyN D E [e1, e2] 0 ops.toList && onlyN D (e1 :: E) [e2] 0 ops.toList && onlyN D (e2 :: E) [e1] 0 ops.toList) = true := by rfl)
    (hF : ∀ H, ∀ w, Ctx J H w → allF (deps o1) D w ∧ allF (deps o2) D w := by exact fun _ _ _ => ⟨fun _ _ _ _ => trivial, fun _ _ _ _ => trivial⟩)
    (hq1 : o1.op = .makeSlice t x x2 := by rfl) (hx1 : ev L x = some (.int kk (m : Int)) := by rfl) (hx2 : ev L x2 = some (.int kk (m : Int)) := by rfl) (hx1b : ∀ v, ev ((d2, v) :: L) x = some (.int kk (m : Int)) := by exact fun _ => rfl) (hx2b : ∀ v, ev ((d2, v) :: L) x2 = some (.int kk (m : Int)) := by exact fun _ => rfl)
    (hq2 : o2.op = .makeSlice t' x' x2' := by rfl) (hy1 : ev L x' = some (.int kk' (m2 : Int)) := by rfl) (hy2 : ev L x2' = some (.int kk' (m2 : Int)) := by rfl) (hy1b : ∀ v, ev ((d1, v) :: L) x' = some (.int kk' (m2 : Int)) := by exact fun _ => rfl) (hy2b : ∀ v, ev ((d1, v) :: L) x2' = some (.int kk' (m2 : Int)) := by exact fun _ => rfl)
    (hi : inf P t = some (e, z, sz, by1) := by rfl) (hz : cs1 z = some (f y) := by rfl) (hby : Nat.ble by1 100000 = true := by rfl) (hm : m ≤ 1000000000 := by first | omega | (simp <;> omega))
    (hi' : inf P t' = some (e', z', sz2, by2) := by rfl) (hz' : cs1 z' = some (g u) := by rfl) (hby' : Nat.ble by2 100000 = true := by rfl) (hm' : m2 ≤ 1000000000 := by first | omega | (simp <;> omega)) : DS P n ops t0 s D E L (Ctx J H) Q := by
  simp only [Bool.and_eq_true, Bool.not_eq_true'] at ht hdo hv ho
  obtain ⟨⟨⟨⟨⟨ht1, ht2⟩, hi1⟩, hi2⟩, hi3⟩, hi4⟩ := ht
  obtain ⟨⟨⟨hv1, hv2⟩, hv3⟩, hv4⟩ := hv
  obtain ⟨⟨ho1, ho2⟩, ho3⟩ := ho
  have hne : d1 ≠ d2 := fun h => by rw [h, Nat.beq_refl] at hdd; cases hdd
  have hs1 : selB o1.op = false := by rw [hq1]; rfl
  have hs2 : selB o2.op = false := by rw [hq2]; rfl
  have gk : ∀ (o : Oper) (L : Env), o.guard = none → gOk o ops L = some true := fun o L h => by simp only [gOk, h]
  refine dEs [e1, e2] (by simp) ho1 fun j hj => ?_
  rcases List.mem_cons.1 hj with rfl | hj
  · refine ⟨o1, h1, ht1, hi1, hdo.1, gk _ _ hg1, hs1, hv1, _, _, _, _, oMk (f := f) (y := y) hq1 hx1 hx2 hi hz hby hm, fun b _ w hc => (hF _ w hc).1, fun b _ => ?_⟩
    rw [hd1]
    refine dEs [e2] (by simp) ho2 fun j2 hj2 => ?_
    obtain rfl := List.mem_singleton.1 hj2
    refine ⟨o2, h2, ht2, hi3, hdo.2, gk _ _ hg2, hs2, hv3, _, _, _, _, oMk (f := g) (y := u) hq2 (hy1b _) (hy2b _) hi' hz' hby' hm', fun b _ w hc => (hF _ w hc).2, fun b2 _ => ?_⟩
    rw [hd2]
    exact k b b2
  · obtain rfl := List.mem_singleton.1 hj
    refine ⟨o2, h2, ht2, hi2, hdo.2, gk _ _ hg2, hs2, hv2, _, _, _, _, oMk (f := g) (y := u) hq2 hy1 hy2 hi' hz' hby' hm', fun b _ w hc => (hF _ w hc).2, fun b2 _ => ?_⟩
    rw [hd2]
    refine dEs [e1] (by simp) ho3 fun j2 hj2 => ?_
    obtain rfl := List.mem_singleton.1 hj2
    refine ⟨o1, h1, ht1, hi4, hdo.1, gk _ _ hg1, hs1, hv4, _, _, _, _, oMk (f := f) (y := y) hq1 (hx1b _) (hx2b _) hi hz hby hm, fun b _ w hc => (hF _ w hc).1, fun b _ => ?_⟩
    rw [hd1]
    refine dsw (fun j => ?_) (fun e => ?_) (fun w hc => hc.perm (List.Perm.swap _ _ _)) (k b b2)
    · simp only [bind1, look]
      cases q2 : Nat.beq d2 j with
      | false => cases q1 : Nat.beq d1 j <;> rfl
      | true => cases q1 : Nat.beq d1 j with
        | false => rfl
        | true => exact absurd ((Nat.eq_of_beq_eq_true q1).trans (Nat.eq_of_beq_eq_true q2).symm) hne
    · simp only [List.mem_cons]; exact ⟨fun h => h.elim (fun h => .inr (.inl h)) (fun h => h.elim .inl fun h => .inr (.inr h)), fun h => h.elim (fun h => .inr (.inl h)) (fun h => h.elim .inl fun h => .inr (.inr h))⟩
end
end
end Go.Proofs.YtimemehaccgmmaaGreatDoor
namespace Go.Proofs.YtimemehaccgmmaaGreatDoor
open Go.RowKit
set_option maxRecDepth 100000
set_option linter.unusedSimpArgs false
set_option linter.unusedVariables false
noncomputable section
section
variable {P : Program} {n : Fr} {ops : Array Oper} {s : List KI} {L L0 : Env} {C : World → Prop} {Q : Exit → Act → World → Prop} {J : List (World → Prop)} {H H0 : List RC} {D : List Vq} {E0 : List Nat} {t : Nat}
variable {α β : Type} {sz sz2 : Nat}
theorem OS.pv {o : Oper} {X : Type} {v : X → Value} {C' : X → World → Prop} (x0 : X) (hv : pv P o.op L = some (v x0)) (hC : ∀ w, C w → C' x0 w) : OS P o L C v (fun _ => True) C' := by
  intro ρ w hρ hc
  rw [pv_sound (fun h => hρ _ _ h) hv w]
  exact ⟨x0, rfl, trivial, hC w hc⟩
/-- A make, and its being given to a variable. -/
abbrev maC (f : α → List Value) (sz : Nat) (e : TypeId) (m : Nat) (y : α) (b a d1 d2 : Nat) : Cn :=
  ⟨b, a, d1, d2, sl f sz e none 0 [], fun b => sl f sz e (some ⟨b, 0, none⟩) m (List.replicate m y), fun b => .slice (some ⟨b, 0, none⟩) m m, fun q => sl f sz e q.1 q.2 (List.replicate m y), fun q => .slice q.1 m q.2⟩
theorem mkMa {f : α → List Value} [Lf : Lies f sz] {y : α} {b a d1 d2 m : Nat} {ob oa : Oper} {e t1 : TypeId} {x x2 : Operand} {kk : IntKind} {z : Value} {by' : Nat}
    (h1 : ops[b]? = some ob) (h2 : Nat.blt b t = true) (h3 : ob.dst = some d1) (h4 : Nat.blt d1 n.1 = true) (h5 : ob.guard = none) (h6 : selB ob.op = false) (ho : ob.op = .makeSlice t1 x x2) (hq1 : ev L0 x = some (.int kk (m : Int))) (hq2 : ev L0 x2 = some (.int kk (m : Int)))
    (hi : inf P t1 = some (e, z, sz, by')) (hz : cs1 z = some (f y)) (hby : Nat.ble by' 100000 = true) (hm : m ≤ 1000000000)
    (k1 : ops[a]? = some oa) (k2 : Nat.blt a t = true) (k3 : oa.dst = some d2) (k4 : Nat.blt d2 n.1 = true) (k5 : oa.guard = none) (k6 : selB oa.op = false) (ka : ∀ v, pv P oa.op ((d1, v) :: L0) = some v) :
    CnOk P n ops t D J L0 (maC f sz e m y b a d1 d2) :=
  ⟨⟨ob, h1, h2, h3, h4, h5, h6, fun H => oMk ho hq1 hq2 hi hz hby hm⟩, ⟨oa, k1, k2, k3, k4, k5, k6, fun x H => OS.pv ((some ⟨x, 0, none⟩ : Option Addr), m) (ka _) fun w h => h.drp 1⟩⟩
/-- Two makes, each given to a variable, in any order. -/
theorem par2m (f : α → List Value) (y : α) (g : β → List Value) (u : β) (b1 a1 b2 a2 : Nat) {d1 d1' d2 d2' m m2 : Nat} {e e2 : TypeId}
    (h1 : CnOk P n ops t D J L0 (maC f sz e m y b1 a1 d1 d1')) (h2 : CnOk P n ops t D J L0 (maC g sz2 e2 m2 u b2 a2 d2 d2'))
    (k : ∀ (q1 q2 : Option Addr × Nat) (x1 x2 : Nat), DS P n ops t s D (a1 :: b1 :: a2 :: b2 :: E0) ((d1', .slice q1.1 m q1.2) :: (d1, .slice (some ⟨x1, 0, none⟩) m m) :: (d2', .slice q2.1 m2 q2.2) :: (d2, .slice (some ⟨x2, 0, none⟩) m2 m2) :: L0) (Ctx J (sl f sz e q1.1 q1.2 (List.replicate m y) :: sl g sz2 e2 q2.1 q2.2 (List.replicate m2 u) :: H0)) Q)
    (hnd : [d1, d1', d2, d2'].Nodup := by decide) (hl : ∀ d ∈ [d1, d1', d2, d2'], look L0 d = none := by intro d hd; simp only [List.mem_cons, List.not_mem_nil, or_false] at hd; rcases hd with rfl | rfl | rfl | rfl <;> rfl)
    (hsh : (allP [maC f sz e m y b1 a1 d1 d1', maC g sz2 e2 m2 u b2 a2 d2 d2']).all (chkP ops D E0) = true := by rfl)
    (hD : ∀ w, allJ J w → allH H0 w → allD D w := by intro w j h; repeat' (first | exact trivial | exact h.1 | exact h.2.1 | exact h.2.2.1 | exact h.2.2.2.1 | exact j.1 | exact j.2.1 | exact j.2.2.1 | exact j.2.2.2.1 | refine And.intro ?_ ?_)) : DS P n ops t s D E0 L0 (Ctx J H0) Q := by
  refine dsw (fun _ => rfl) (fun _ => Iff.rfl) (fun w h => ?_) (parN (H0 := H0) [maC f sz e m y b1 a1 d1 d1', maC g sz2 e2 m2 u b2 a2 d2 d2'] (fun c hc => ?_) hnd hl hsh (hDs hD) (fun cs hcs hall => ?_) 4 [(_, .z), (_, .z)] rfl (by simp [shp]))
  · have h2 : Ctx J (sl g sz2 e2 none 0 [] :: H0) w := h.new (Kp.refl _ _) (.inl ⟨rfl, rfl⟩) (by simp [sl, ob]) (by simp [sl, ob])
    exact h2.new (Kp.refl _ _) (.inl ⟨rfl, rfl⟩) (by simp [sl, ob]) (by simp [sl, ob])
  · simp only [List.mem_cons, List.not_mem_nil, or_false] at hc
    rcases hc with rfl | rfl
    · exact h1
    · exact h2
  · match cs, hcs, hall with
    | [(c1, p1), (c2, p2)], hcs, hall =>
      simp only [List.map_cons, List.map_nil, List.cons.injEq, and_true] at hcs
      obtain ⟨rfl, rfl⟩ := hcs
      obtain ⟨x1, q1, rfl⟩ := shp2 (hall _ (List.mem_cons_self ..))
      obtain ⟨x2, q2, rfl⟩ := shp2 (hall _ (List.mem_cons_of_mem _ (List.mem_cons_self ..)))
      exact k q1 q2 x1 x2
def ckE (ops : Array Oper) (D : List Vq) (E : List Nat) (es : List Nat) : Bool := es.all (fun e => !inV D E e && rdy ops D E e) && onlyN D E es 0 ops.toList
/-- One of the ways to go on, all that is plain told by a check. -/
def StS (P : Program) (n : Fr) (ops : Array Oper) (t : Nat) (s : List KI) (D : List Vq) (E : List Nat) (L : Env) (C : World → Prop) (Q : Exit → Act → World → Prop) (e : Nat) : Prop :=
  ∃ o d, ops[e]? = some o ∧ Nat.blt e t = true ∧ o.dst = some d ∧ Nat.blt d n.1 = true ∧ o.guard = none ∧ selB o.op = false ∧
    ∃ (X : Type) (v : X → Value) (C' : X → World → Prop), OS P o L C v (fun _ => True) C' ∧ (∀ x w, C' x w → ∀ q ∈ D, Fw q.F w) ∧ ∀ x, DS P n ops t s D (e :: E) ((d, v x) :: L) (C' x) Q
theorem stE {E : List Nat} (es : List Nat) (hne : es ≠ []) (hck : ckE ops D E es = true) (h : ∀ e ∈ es, StS P n ops t s D E L C Q e) : DS P n ops t s D E L C Q := by
  simp only [ckE, Bool.and_eq_true, List.all_eq_true, Bool.not_eq_true'] at hck
  refine dEs es hne hck.2 fun e he => ?_
  obtain ⟨o, d, h1, h2, h3, h4, h5, h6, X, v, C', h7, h8, k⟩ := h e he
  obtain ⟨c1, c2⟩ := hck.1 e he
  simp only [rdy, h1] at c2
  refine ⟨o, h1, h2, c1, by rw [h3]; exact h4, by simp only [gOk, h5], h6, c2, X, v, _, C', h7, fun x _ w hc => allF_all (h8 x w hc), fun x _ => ?_⟩
  rw [h3]; exact k x
/-- A make with its assignment, and another make, in any order. -/
theorem par21 (f : α → List Value) (y : α) (g : β → List Value) [Lg : Lies g sz2] (u : β) (b1 a1 e2 : Nat) {d1 d1' d2 m m2 : Nat} {e e' t1 : TypeId} {o2 : Oper} {x x2 : Operand} {kk : IntKind} {z : Value} {by' : Nat}
    (h1 : CnOk P n ops t D J L0 (maC f sz e m y b1 a1 d1 d1'))
    (g1 : ops[e2]? = some o2) (g2 : Nat.blt e2 t = true) (g3 : o2.dst = some d2) (g4 : Nat.blt d2 n.1 = true) (g5 : o2.guard = none) (g6 : selB o2.op = false) (go : o2.op = .makeSlice t1 x x2) (gq1 : ev L0 x = some (.int kk (m2 : Int))) (gq2 : ev L0 x2 = some (.int kk (m2 : Int)))
    (gi : inf P t1 = some (e', z, sz2, by')) (gz : cs1 z = some (g u)) (gb : Nat.ble by' 100000 = true) (gm : m2 ≤ 1000000000)
    (k : ∀ (q1 : Option Addr × Nat) (x1 y2 : Nat), DS P n ops t s D (a1 :: b1 :: e2 :: E0) ((d1', .slice q1.1 m q1.2) :: (d1, .slice (some ⟨x1, 0, none⟩) m m) :: (d2, .slice (some ⟨y2, 0, none⟩) m2 m2) :: L0) (Ctx J (sl f sz e q1.1 q1.2 (List.replicate m y) :: sl g sz2 e' (some ⟨y2, 0, none⟩) m2 (List.replicate m2 u) :: H0)) Q)
    (hnd : [d1, d1', d2].Nodup := by decide) (hl : ∀ d ∈ [d1, d1', d2], look L0 d = none := by intro d hd; simp only [List.mem_cons, List.not_mem_nil, or_false] at hd; rcases hd with rfl | rfl | rfl <;> rfl)
    (hsh : (ckE ops D E0 [b1, e2] && ckE ops D (b1 :: E0) [a1, e2] && ckE ops D (e2 :: E0) [b1] && ckE ops D (a1 :: b1 :: E0) [e2] && ckE ops D (e2 :: b1 :: E0) [a1] && ckE ops D (b1 :: e2 :: E0) [a1]) = true := by rfl)
    (hD : ∀ w, allJ J w → allH H0 w → allD D w := by intro w j h; repeat' (first | exact trivial | exact h.1 | exact h.2.1 | exact h.2.2.1 | exact h.2.2.2.1 | exact j.1 | exact j.2.1 | exact j.2.2.1 | exact j.2.2.2.1 | refine And.intro ?_ ?_)) : DS P n ops t s D E0 L0 (Ctx J H0) Q := by
  simp only [Bool.and_eq_true] at hsh
  obtain ⟨⟨⟨⟨⟨c1, c2⟩, c3⟩, c4⟩, c5⟩, c6⟩ := hsh
  have e0 : ∀ H w, Ctx J H w → Ctx J (sl f sz e none 0 [] :: H) w := fun H w h => h.new (Kp.refl _ _) (.inl ⟨rfl, rfl⟩) (by simp [sl, ob]) (by simp [sl, ob])
  obtain ⟨o1, p1, p2, p3, p4, p5, p6, hob⟩ := h1.ob
  obtain ⟨oa, r1, r2, r3, r4, r5, r6, hoa⟩ := h1.oa
  have nd1 : d1 ≠ d1' ∧ d1 ≠ d2 ∧ d1' ≠ d2 := by
    simp only [List.nodup_cons, List.mem_cons, List.not_mem_nil, or_false, not_or] at hnd
    exact ⟨hnd.1.1, hnd.1.2, hnd.2.1⟩
  have l1 := hl d1 (by simp)
  have l1' := hl d1' (by simp)
  have l2 := hl d2 (by simp)
  have xt : ∀ {d : Nat} {v : Value} {L : Env}, look L d = none → ∀ j u, look L j = some u → look ((d, v) :: L) j = some u := by
    intro d v L hn j u hj
    simp only [look]
    cases q : Nat.beq d j with
    | false => exact hj
    | true => rw [← Nat.eq_of_beq_eq_true q, hn] at hj; cases hj
  have bf : ∀ {a b : Nat}, a ≠ b → Nat.beq a b = false := fun {a b} h => by
    cases q : Nat.beq a b with
    | false => rfl
    | true => exact absurd (Nat.eq_of_beq_eq_true q) h
  have fb := hDs hD
  have base : ∀ H, OS P o2 L0 (Ctx J H) (fun b : Nat => .slice (some ⟨b, 0, none⟩) m2 m2) (fun _ => True) (fun b => Ctx J (sl g sz2 e' (some ⟨b, 0, none⟩) m2 (List.replicate m2 u) :: H)) := fun H => oMk go gq1 gq2 gi gz gb gm
  have lk : ∀ (va vb vc : Value) (j : Nat), look ((d2, vc) :: (d1', vb) :: (d1, va) :: L0) j = look ((d1', vb) :: (d1, va) :: (d2, vc) :: L0) j ∧ look ((d1', vb) :: (d2, vc) :: (d1, va) :: L0) j = look ((d1', vb) :: (d1, va) :: (d2, vc) :: L0) j := by
    intro va vb vc j
    simp only [look]
    cases qa : Nat.beq d1 j <;> cases qb : Nat.beq d1' j <;> cases qc : Nat.beq d2 j <;> first
      | exact ⟨rfl, rfl⟩
      | exact absurd ((Nat.eq_of_beq_eq_true qa).trans (Nat.eq_of_beq_eq_true qb).symm) nd1.1
      | exact absurd ((Nat.eq_of_beq_eq_true qa).trans (Nat.eq_of_beq_eq_true qc).symm) nd1.2.1
      | exact absurd ((Nat.eq_of_beq_eq_true qb).trans (Nat.eq_of_beq_eq_true qc).symm) nd1.2.2
  refine stE [b1, e2] (by simp) c1 fun j hj => ?_
  rcases List.mem_cons.1 hj with rfl | hj
  · refine ⟨o1, d1, p1, p2, p3, p4, p5, p6, _, _, _, (hob H0).imp (e0 H0) (fun _ _ h => h), fun b w hc => fb [_, _] w hc, fun b => ?_⟩
    refine stE [a1, e2] (by simp) c2 fun j2 hj2 => ?_
    rcases List.mem_cons.1 hj2 with rfl | hj2
    · refine ⟨oa, d1', r1, r2, r3, r4, r5, r6, _, _, _, hoa b H0, fun q w hc => fb [_] w hc, fun q => ?_⟩
      refine stE [e2] (by simp) c4 fun j3 hj3 => ?_
      obtain rfl := List.mem_singleton.1 hj3
      refine ⟨o2, d2, g1, g2, g3, g4, g5, g6, _, _, _, ((base (sl f sz e q.1 q.2 (List.replicate m y) :: H0)).ext (xt l1)).ext (xt (by simp only [look, bf nd1.1]; exact l1')), fun y2 w hc => fb [_, _] w hc, fun y2 => ?_⟩
      exact dsw (fun j => (lk _ _ _ j).1) (fun e => by simp only [List.mem_cons]; exact ⟨fun h => h.elim (fun h => .inr (.inr (.inl h))) (fun h => h.elim .inl fun h => h.elim (fun h => .inr (.inl h)) fun h => .inr (.inr (.inr h))), fun h => h.elim (fun h => .inr (.inl h)) (fun h => h.elim (fun h => .inr (.inr (.inl h))) fun h => h.elim .inl fun h => .inr (.inr (.inr h)))⟩) (fun w hc => hc.perm (List.Perm.swap _ _ _)) (k q b y2)
    · obtain rfl := List.mem_singleton.1 hj2
      refine ⟨o2, d2, g1, g2, g3, g4, g5, g6, _, _, _, (base (sl f sz e (some ⟨b, 0, none⟩) m (List.replicate m y) :: sl f sz e none 0 [] :: H0)).ext (xt l1), fun y2 w hc => fb [_, _, _] w hc, fun y2 => ?_⟩
      refine stE [a1] (by simp) c5 fun j3 hj3 => ?_
      obtain rfl := List.mem_singleton.1 hj3
      refine ⟨oa, d1', r1, r2, r3, r4, r5, r6, _, _, _, ((hoa b (sl g sz2 e' (some ⟨y2, 0, none⟩) m2 (List.replicate m2 u) :: H0)).ext (xt (by simp only [look, bf nd1.2.1]; exact l2))).imp (fun w hc => hc.perm (List.perm_middle (l₁ := [_, _])).symm) (fun _ _ h => h), fun q w hc => fb [_, _] w hc, fun q => ?_⟩
      exact dsw (fun j => (lk _ _ _ j).2) (fun e => by simp only [List.mem_cons]; exact ⟨fun h => h.elim .inl fun h => h.elim (fun h => .inr (.inr (.inl h))) fun h => h.elim (fun h => .inr (.inl h)) fun h => .inr (.inr (.inr h)), fun h => h.elim .inl fun h => h.elim (fun h => .inr (.inr (.inl h))) fun h => h.elim (fun h => .inr (.inl h)) fun h => .inr (.inr (.inr h))⟩) (fun w hc => hc) (k q b y2)
  · obtain rfl := List.mem_singleton.1 hj
    refine ⟨o2, d2, g1, g2, g3, g4, g5, g6, _, _, _, base H0, fun y2 w hc => fb [_] w hc, fun y2 => ?_⟩
    refine stE [b1] (by simp) c3 fun j2 hj2 => ?_
    obtain rfl := List.mem_singleton.1 hj2
    refine ⟨o1, d1, p1, p2, p3, p4, p5, p6, _, _, _, ((hob (sl g sz2 e' (some ⟨y2, 0, none⟩) m2 (List.replicate m2 u) :: H0)).ext (xt l2)).imp (e0 _) (fun _ _ h => h), fun b w hc => fb [_, _, _] w hc, fun b => ?_⟩
    refine stE [a1] (by simp) c6 fun j3 hj3 => ?_
    obtain rfl := List.mem_singleton.1 hj3
    refine ⟨oa, d1', r1, r2, r3, r4, r5, r6, _, _, _, (hoa b (sl g sz2 e' (some ⟨y2, 0, none⟩) m2 (List.replicate m2 u) :: H0)).ext (fun j u' hj' => ?_), fun q w hc => fb [_, _] w hc, fun q => k q b y2⟩
    simp only [look] at hj' ⊢
    cases q1 : Nat.beq d1 j with
    | true => rw [q1] at hj'; exact hj'
    | false =>
      rw [q1] at hj'
      cases q2 : Nat.beq d2 j with
      | false => exact hj'
      | true => rw [← Nat.eq_of_beq_eq_true q2, show (bif false then _ else look L0 d2) = look L0 d2 from rfl, l2] at hj'; cases hj'
end
end
end Go.Proofs.YtimemehaccgmmaaGreatDoor
