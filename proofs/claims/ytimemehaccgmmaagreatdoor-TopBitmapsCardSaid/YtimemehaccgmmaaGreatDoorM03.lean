/-
  Parts of the walks and their plain laws (E7 E8). No condition.
-/
import Derived.Test.YtimemehaccgmmaaGreatDoorM02
namespace Go.Proofs.YtimemehaccgmmaaGreatDoor
open Go.RowKit
set_option maxRecDepth 100000
set_option linter.unusedSimpArgs false
set_option linter.unusedVariables false
noncomputable section
section
variable {P : Program} {n : Nat} {o : Oper} {L : Env} {C : World → Prop} {J : List (World → Prop)} {H H' : List RC}
theorem Yl_val {R : Value → World → Prop} {r : Result Next} {v : Value} {w : World} (h : r = .ok (.value v) w) (hr : R v w) : Yl P R r := by rw [h]; exact hr
theorem oWr {k : IntKind} {z y : Int} (h : pvw P o.op L = some (k, z)) (hw : k.wrap z = y) : OS P o L C (fun _ : Unit => .int k y) (fun _ => True) (fun _ => C) := by
  intro ρ w hρ hc
  rw [pvw_sound (fun h => hρ _ _ h) h w, hw]
  exact ⟨(), rfl, trivial, hc⟩
theorem oRem {k : IntKind} {a b : Int} (h : pvd o.op L = some (true, k, a, b)) (hh : 0 ≤ a ∧ 0 < b) : OS P o L C (fun _ : Unit => .int k (a % b)) (fun _ => True) (fun _ => C) := by
  intro ρ w hρ hc
  rw [pvd_sound (fun h => hρ _ _ h) h (by omega) w, if_pos rfl, Int.tmod_eq_emod_of_nonneg hh.1]
  exact ⟨(), rfl, trivial, hc⟩
theorem oQuo {k : IntKind} {a b y : Int} (h : pvd o.op L = some (false, k, a, b)) (hh : 0 ≤ a ∧ 0 < b) (hw : k.wrap (a / b) = y) : OS P o L C (fun _ : Unit => .int k y) (fun _ => True) (fun _ => C) := by
  intro ρ w hρ hc
  rw [pvd_sound (fun h => hρ _ _ h) h (by omega) w, if_neg (by simp), Int.tdiv_eq_ediv_of_nonneg hh.1, hw]
  exact ⟨(), rfl, trivial, hc⟩

theorem oPk {c a b : Operand} {t : Bool} {v : Value} (ho : o.op = .pick c a b) (hc : ev L c = some (.bool t)) (hv : (bif t then ev L a else ev L b) = some v) : OS P o L C (fun _ : Unit => v) (fun _ => True) (fun _ => C) := by
  intro ρ w hρ hC
  refine Yl_val ?_ ⟨(), rfl, trivial, hC⟩
  cases t with
  | true => simp only [execOp, ho, hρ _ _ hc, hρ _ _ hv, asBool]; rfl
  | false => simp only [execOp, ho, hρ _ _ hc, hρ _ _ hv, asBool]; rfl
/-- Shifts by a number that is not negative. -/
def psh (o : Op) (L : Env) : Option (Bool × IntKind × Int × Int) :=
  match o with
  | .binOp op _ x y _ => match op, ev L x, ev L y with
    | .shl, some (.int k a), some (.int _ b) => some (true, k, a, b)
    | .shr, some (.int k a), some (.int _ b) => some (false, k, a, b)
    | _, _, _ => none
  | _ => none
theorem psh_sound {ρ : Operand → Value} (E : ∀ {x v}, ev L x = some v → ρ x = v) {k : IntKind} {r : Bool} {a : Int} {m : Nat} (h : psh o.op L = some (r, k, a, (m : Int))) (w : World) :
    (execOp ρ o).run P w = .ok (.value (.int k (if r then k.wrap (a * 2 ^ min m k.bits) else a.fdiv (2 ^ min m k.bits)))) w := by
  obtain ⟨dst, op, ty, pos, after, guard⟩ := o
  simp only at h
  have hn : ¬ (m : Int) < 0 := by omega
  unfold psh at h
  split at h
  · split at h
    all_goals first | (cases h; done) | skip
    all_goals
      rename_i e1 e2
      simp only [Option.some.injEq, Prod.mk.injEq] at h
      obtain ⟨rfl, rfl, rfl, rfl⟩ := h
      simp only [execOp, E e1, E e2]
      rw [Sem.run_bind, Sem.run_bind, guard_int _ _ _ _ _ _ w (by simp) (by simp)]
      simp [binOp, Op.shift, hn]
  · cases h
theorem oShl {k : IntKind} {a y : Int} {m : Nat} (h : psh o.op L = some (true, k, a, (m : Int))) (hw : k.wrap (a * 2 ^ min m k.bits) = y) : OS P o L C (fun _ : Unit => .int k y) (fun _ => True) (fun _ => C) := by
  intro ρ w hρ hC
  exact Yl_val (psh_sound (fun h => hρ _ _ h) h w) ⟨(), by simp [hw], trivial, hC⟩
theorem oShr {k : IntKind} {a y : Int} {m : Nat} (h : psh o.op L = some (false, k, a, (m : Int))) (hw : a / 2 ^ min m k.bits = y) : OS P o L C (fun _ : Unit => .int k y) (fun _ => True) (fun _ => C) := by
  intro ρ w hρ hC
  refine Yl_val (psh_sound (fun h => hρ _ _ h) h w) ⟨(), ?_, trivial, hC⟩
  simp only [Bool.false_eq_true, if_false]
  rw [Int.fdiv_eq_ediv_of_nonneg _ (Int.le_of_lt (Int.pow_pos (by omega))), hw]

theorem Ctx.alloc {w : World} (h : Ctx J H w) (t : TypeId) (vs : List Value) : Ctx J (pt w.heap.size t vs :: H) (w.alloc (.cells vs.toArray t)) :=
  h.new ((Kp.refl [] w).alloc _) (heap_alloc_at rfl) (fun b hb => by simp [pt] at hb; subst hb; simp) (by simp [pt])
theorem run_new (t : TypeId) (v : Value) (vs : List Value) (h : cs1 v = some vs) (w : World) : (newVar t v).run P w = .ok ⟨w.heap.size, 0, none⟩ (w.alloc (.cells vs.toArray t)) := by
  unfold newVar newRow newObj; rw [cs1_eq h]; rfl
/-- New variables. -/
theorem oAl {t : TypeId} {i : TypeInfo} {z : Value} {vs : List Value} (ho : o.op = .alloc t) (hi : P.info? t = some i) (hz : i.zero = some z) (hv : cs1 z = some vs) :
    OS P o L (Ctx J H) (fun b : Nat => .pointer (some ⟨b, 0, none⟩)) (fun _ => True) (fun b => Ctx J (pt b t vs :: H)) := by
  intro ρ w hρ hc
  refine Yl_val (v := .pointer (some ⟨w.heap.size, 0, none⟩)) (w := w.alloc (.cells vs.toArray t)) ?_ ⟨_, rfl, trivial, hc.alloc t vs⟩
  simp [execOp, ho, Instr.alloc, zeroValue, typeInfo, hi, hz, run_new t z vs hv]
theorem oBx {t : TypeId} {x : Operand} {v : Value} {vs : List Value} (ho : o.op = .box t x) (hx : ev L x = some v) (hv : cs1 v = some vs) :
    OS P o L (Ctx J H) (fun b : Nat => .pointer (some ⟨b, 0, none⟩)) (fun _ => True) (fun b => Ctx J (pt b t vs :: H)) := by
  intro ρ w hρ hc
  refine Yl_val (v := .pointer (some ⟨w.heap.size, 0, none⟩)) (w := w.alloc (.cells vs.toArray t)) ?_ ⟨_, rfl, trivial, hc.alloc t vs⟩
  simp [execOp, ho, Instr.box, hρ _ _ hx, run_new t v vs hv]
def rep : Nat → List Value → List Value
  | 0, _ => []
  | n + 1, l => l ++ rep n l
def bsl (P : Program) (t : TypeId) (len : Nat) (ps : List (Nat × Value)) : Option (TypeId × List Value) :=
  match P.underlying t with
  | some (.slice e) => (match P.info? e with
    | some i => (match i.zero with
      | some z => (match cs1 z with
        | some zs => bif Nat.beq zs.length i.size && Nat.blt 0 i.size && Nat.ble (len * i.size) 16777216 then (match fillL (fun j => nrm i.size (fun z => some (j * z, z))) (rep len zs) ps with | some q => some (e, q) | none => none) else none
        | none => none)
      | none => none)
    | none => none)
  | _ => none
theorem rep_eq (zs : Array Value) (hz : 0 < zs.size) : ∀ n, (Array.range (n * zs.size)).map (fun i => zs[i % zs.size]!) = (rep n zs.toList).toArray := by
  intro n
  apply Array.ext'
  simp only [Array.toList_map, Array.toList_range]
  have hl : ∀ n, (rep n zs.toList).length = n * zs.size := by
    intro n; induction n with
    | zero => simp [rep]
    | succ n ih => simp [rep, ih, Nat.succ_mul]; omega
  have hg : ∀ n i, i < n * zs.size → (rep n zs.toList)[i]? = zs.toList[i % zs.size]? := by
    intro n; induction n with
    | zero => intro i h; simp at h
    | succ n ih =>
      intro i h
      simp only [rep]
      by_cases h1 : i < zs.size
      · rw [List.getElem?_append_left (by simpa using h1), Nat.mod_eq_of_lt h1]
      · rw [List.getElem?_append_right (by simpa using h1), Array.length_toList, ih (i - zs.size) (by rw [Nat.succ_mul] at h; omega), ← Nat.mod_eq_sub_mod (by omega)]
  apply List.ext_getElem?
  intro i
  by_cases h : i < n * zs.size
  · have hm := Nat.mod_lt i hz
    rw [hg n i h]
    simp [h, hm]
  · rw [List.getElem?_eq_none (by simpa using h), List.getElem?_eq_none (by rw [hl]; omega)]
theorem oBs {t e : TypeId} {len : Nat} {parts : Array (Nat × Operand)} {ps : List (Nat × Value)} {vs : List Value} (ho : o.op = .buildSlice t len parts) (hp : evp L parts.toList = some ps) (hv : bsl P t len ps = some (e, vs)) :
    OS P o L (Ctx J H) (fun b : Nat => .slice (some ⟨b, 0, none⟩) len len) (fun _ => True) (fun b => Ctx J (pt b e vs :: H)) := by
  intro ρ w hρ hc
  unfold bsl at hv
  split at hv
  · rename_i e' h1
    split at hv
    · rename_i i h2
      split at hv
      · rename_i z h3
        split at hv
        · rename_i zs h4
          cases hb : (Nat.beq zs.length i.size && Nat.blt 0 i.size && Nat.ble (len * i.size) 16777216) with
          | false => rw [hb] at hv; cases hv
          | true =>
            rw [hb] at hv
            simp only [Bool.and_eq_true] at hb
            have b1 := Nat.eq_of_beq_eq_true hb.1.1
            have b2 : 0 < i.size := Nat.le_of_ble_eq_true hb.1.2
            have b3 := Nat.le_of_ble_eq_true hb.2
            simp only [cond_true] at hv
            split at hv
            · rename_i q h5
              cases hv
              have e2 := fill_eq h5
              have e1 := evp_eval (fun h => hρ _ _ h) hp
              have e4 : (Array.map (fun (x : Nat × Operand) => (x.1, ρ x.2)) parts) = ps.toArray := by apply Array.ext'; rw [← e1]; simp
              have hz := cs1_eq h4
              have hrep := rep_eq zs.toArray (by simpa [b1] using b2) len
              simp only [List.size_toArray, b1, List.toList_toArray] at hrep
              refine Yl_val (v := .slice (some ⟨w.heap.size, 0, none⟩) len len) (w := w.alloc (.cells vs.toArray e)) ?_ ⟨_, rfl, trivial, hc.alloc e vs⟩
              simp only [nrm_eq] at e2
              have e5 : (if len * i.size = 0 then pure #[] else do pure (← zeroValue e).cells : Sem (Array Value)).run P w = .ok (if len * i.size = 0 then #[] else zs.toArray) w := by
                split
                · rfl
                · simp [zeroValue, typeInfo, h2, h3, hz]
              have e6 : (Array.range (len * i.size)).map (fun j => (if len * i.size = 0 then #[] else zs.toArray)[j % (if len * i.size = 0 then #[] else zs.toArray).size]!) = (rep len zs).toArray := by
                split
                · rename_i h0
                  have : len = 0 := by rcases Nat.mul_eq_zero.1 h0 with h | h; exact h; omega
                  subst this
                  simp [rep]
                · simpa [b1] using hrep
              have e7 : (sizeOf e).run P w = .ok i.size w := by simp [sizeOf, typeInfo, h2]
              have e8 : (Instr.buildSlice t len ps.toArray).run P w = .ok (.slice (some ⟨w.heap.size, 0, none⟩) len len) (w.alloc (.cells vs.toArray e)) := by
                unfold Instr.buildSlice
                rw [Sem.run_bind, run_und h1]
                simp only [Result.andThen_ok]
                rw [Sem.run_bind, e7]
                simp only [Result.andThen_ok]
                rw [if_neg (by omega)]
                simp only [pure_bind]
                split at e6
                · rename_i h0
                  rw [if_pos h0, e6, e2]; rfl
                · rename_i h0
                  have : (zeroValue e).run P w = .ok z w := by simp [zeroValue, typeInfo, h2, h3]
                  rw [if_neg h0, Sem.run_bind, this]
                  simp only [Result.andThen_ok]
                  rw [hz, e6, e2]; rfl
              simp only [execOp, ho, e4, Sem.run_bind, e8]
              rfl
            · cases hv
        · cases hv
      · cases hv
    · cases hv
  · cases hv
/-- What is called, with what. -/
def cle (L : Env) (c : Call) : Option (FuncId × List Value) :=
  match c.callee, evs L c.args.toList with
  | .value f, some us => (match ev L f with
    | some (.func (.func f) first cap) => some (f, first.toList ++ (us ++ cap.toList))
    | _ => none)
  | _, _ => none
theorem oCl {c : Call} {f : FuncId} {args : List Value} {X : Type} {v : X → Value} {p : X → Prop} {C' : X → World → Prop} (ho : o.op = .call c) (hc : cle L c = some (f, args)) (ht : Tr P f args C v p C') : OS P o L C v p C' := by
  intro ρ w hρ hC
  obtain ⟨callee, cargs, tys⟩ := c
  unfold cle at hc
  split at hc
  · rename_i f' us h1 h2
    simp only at h1 h2
    subst h1
    split at hc
    · rename_i g first cap h3
      cases hc
      have e1 := evs_eval (fun h => hρ _ _ h) h2
      have e2 : cargs.map ρ = us.toArray := by apply Array.ext'; rw [← e1]; simp
      have e3 : first ++ us.toArray ++ cap = (first.toList ++ (us ++ cap.toList)).toArray := by apply Array.ext'; simp
      simp only [execOp, ho, resolve, e2, hρ _ _ h3, Deferred.ofValue, invoke, Sem.run_bind, Sem.run_pure, Result.andThen_ok, e3]
      rw [ht.en]
      refine (ht.go w hC).mono fun e w' ⟨x, h4, h5, h6⟩ => ⟨v x, h4, x, rfl, h5, h6⟩
    · cases hc
  · cases hc
end
end
end Go.Proofs.YtimemehaccgmmaaGreatDoor
namespace Go.Proofs.YtimemehaccgmmaaGreatDoor
open Go.RowKit
set_option maxRecDepth 100000
set_option linter.unusedSimpArgs false
set_option linter.unusedVariables false
noncomputable section
section
variable {P : Program} {n : Fr} {ops : Array Oper} {o : Oper} {l : List Oper} {s s' : List KI} {L L' : Env} {C C' : World → Prop} {Q : Exit → Act → World → Prop} {J : List (World → Prop)} {H H' : List RC}
/-- Branches. -/
theorem brD {x : Operand} {a b : Code} {p : Prop} {_ : Decidable p} (h : ev L x = some (.bool (decide p))) (k : (p → HK P n (.code a :: s) L C Q) ∧ (¬ p → HK P n (.code b :: s) L C Q)) : HK P n (.code (.cond x a b) :: s) L C Q := by
  intro w1 w ha hc
  by_cases hp : p
  · exact wp_cond_true (by rw [ev_eval ha.get h]; simp [hp]) (k.1 hp w1 w ha hc)
  · exact wp_cond_false (by rw [ev_eval ha.get h]; simp [hp]) (k.2 hp w1 w ha hc)
theorem brT {x : Operand} {a b : Code} {p : Prop} {_ : Decidable p} (h : ev L x = some (.bool (decide p))) (hp : p) (k : HK P n (.code a :: s) L C Q) : HK P n (.code (.cond x a b) :: s) L C Q :=
  brD h ⟨fun _ => k, fun h => (h hp).elim⟩
theorem brF {x : Operand} {a b : Code} {p : Prop} {_ : Decidable p} (h : ev L x = some (.bool (decide p))) (hp : ¬ p) (k : HK P n (.code b :: s) L C Q) : HK P n (.code (.cond x a b) :: s) L C Q :=
  brD h ⟨fun h => (hp h).elim, fun _ => k⟩
theorem brB {x : Operand} {a b : Code} {p : Bool} (h : ev L x = some (.bool p)) (k : (p = true → HK P n (.code a :: s) L C Q) ∧ (p = false → HK P n (.code b :: s) L C Q)) : HK P n (.code (.cond x a b) :: s) L C Q := by
  intro w1 w ha hc
  cases p with
  | true => exact wp_cond_true (ev_eval ha.get h) (k.1 rfl w1 w ha hc)
  | false => exact wp_cond_false (ev_eval ha.get h) (k.2 rfl w1 w ha hc)
theorem brN {x : Operand} {a b : Code} {p : Prop} {_ : Decidable p} (h : ev L x = some (.bool !(decide p))) (k : (¬ p → HK P n (.code a :: s) L C Q) ∧ (p → HK P n (.code b :: s) L C Q)) : HK P n (.code (.cond x a b) :: s) L C Q :=
  brB h ⟨fun e => k.1 (by simpa using e), fun e => k.2 (by simpa using e)⟩
/-- A guard's Bool. -/
def gsl (o : Oper) (ops : Array Oper) (L : Env) : Option (Nat × Value) :=
  match o.guard with
  | some (j, _) => (match (ops.toList[j]?).bind (·.dst) with | some d => (match look L d with | some v => some (d, v) | none => none) | none => none)
  | none => match o.op with | .pick (.tmp d) _ _ => (match look L d with | some v => some (d, v) | none => none) | _ => none
theorem gsl_look {d : Nat} {v : Value} (h : gsl o ops L = some (d, v)) : look L d = some v := by
  unfold gsl at h
  split at h
  · split at h
    · split at h
      · cases h; assumption
      · cases h
    · cases h
  · split at h
    · split at h
      · cases h; assumption
      · cases h
    · cases h
theorem Kn.same {a : Act} {d : Nat} {v : Value} (h : Kn n L a) (hv : look L d = some v) : Kn n ((d, v) :: L) a :=
  ⟨h.size, h.defs, fun j u hj => by
    rw [look_cons] at hj
    split at hj
    · rename_i e; subst e; exact h.get _ _ (by rw [hv, ← hj])
    · exact h.get _ _ hj⟩
theorem gB {d : Nat} {b : Bool} (h : gsl o ops L = some (d, .bool b)) (k : (b = true → HK P n (.ops ops (o :: l) :: s) ((d, .bool true) :: L) C Q) ∧ (b = false → HK P n (.ops ops (o :: l) :: s) ((d, .bool false) :: L) C Q)) : HK P n (.ops ops (o :: l) :: s) L C Q := by
  intro a w ha hc
  have := ha.same (gsl_look h)
  cases b with
  | true => exact k.1 rfl a w this hc
  | false => exact k.2 rfl a w this hc
theorem gD {d : Nat} {p : Prop} {_ : Decidable p} (h : gsl o ops L = some (d, .bool (decide p))) (k : (p → HK P n (.ops ops (o :: l) :: s) ((d, .bool true) :: L) C Q) ∧ (¬ p → HK P n (.ops ops (o :: l) :: s) ((d, .bool false) :: L) C Q)) : HK P n (.ops ops (o :: l) :: s) L C Q :=
  gB h ⟨fun e => k.1 (by simpa using e), fun e => k.2 (by simpa using e)⟩
theorem gT {d : Nat} {p : Prop} {_ : Decidable p} (h : gsl o ops L = some (d, .bool (decide p))) (hp : p) (k : HK P n (.ops ops (o :: l) :: s) ((d, .bool true) :: L) C Q) : HK P n (.ops ops (o :: l) :: s) L C Q := gD h ⟨fun _ => k, fun h => (h hp).elim⟩
theorem gF {d : Nat} {p : Prop} {_ : Decidable p} (h : gsl o ops L = some (d, .bool (decide p))) (hp : ¬ p) (k : HK P n (.ops ops (o :: l) :: s) ((d, .bool false) :: L) C Q) : HK P n (.ops ops (o :: l) :: s) L C Q := gD h ⟨fun h => (hp h).elim, fun _ => k⟩
theorem gN {d : Nat} {p : Prop} {_ : Decidable p} (h : gsl o ops L = some (d, .bool !(decide p))) (k : (¬ p → HK P n (.ops ops (o :: l) :: s) ((d, .bool true) :: L) C Q) ∧ (p → HK P n (.ops ops (o :: l) :: s) ((d, .bool false) :: L) C Q)) : HK P n (.ops ops (o :: l) :: s) L C Q :=
  gB h ⟨fun e => k.1 (by simpa using e), fun e => k.2 (by simpa using e)⟩
/-- Which Bool an operation asks. -/
def gj (o : Oper) : List Nat := match o.guard with | some (j, _) => [j] | none => []
theorem brL {x : Operand} {a b : Code} {t : Bool} (h : ev L x = some (.bool t)) (k : HK P n (.code (bif t then a else b) :: s) L C Q) : HK P n (.code (.cond x a b) :: s) L C Q := by
  intro w1 w ha hc
  cases t with
  | true => exact wp_cond_true (ev_eval ha.get h) (k w1 w ha hc)
  | false => exact wp_cond_false (ev_eval ha.get h) (k w1 w ha hc)
/-- A step, and all plain ones behind it. -/
theorem hA {d : Nat} {v : Value} (hg : gOk o ops L = some true) (hd : o.dst = some d) (hn : Nat.blt d n.1 = true) (h : OS P o L C (fun _ : Unit => v) (fun _ => True) (fun _ => C')) (ha : adv P n 400 (gj o) (.ops ops l :: s) ((d, v) :: L) = some (s', L')) (k : HK P n s' L' C' Q) : HK P n (.ops ops (o :: l) :: s) L C Q :=
  hs hg hd hn h fun _ _ => adv_sound 400 _ ha k
theorem hA0 (hg : gOk o ops L = some true) (hd : o.dst = none) (h : OS P o L C (fun _ : Unit => undef) (fun _ => True) (fun _ => C')) (ha : adv P n 400 (gj o) (.ops ops l :: s) L = some (s', L')) (k : HK P n s' L' C' Q) : HK P n (.ops ops (o :: l) :: s) L C Q :=
  hs0 hg hd h fun _ _ => adv_sound 400 _ ha k
theorem aT {x : Operand} {a b : Code} {p : Prop} {_ : Decidable p} (h : ev L x = some (.bool (decide p))) (hp : p) (ha : adv P n 400 [] (.code a :: s) L = some (s', L')) (k : HK P n s' L' C Q) : HK P n (.code (.cond x a b) :: s) L C Q := brT h hp (adv_sound 400 _ ha k)
theorem aF {x : Operand} {a b : Code} {p : Prop} {_ : Decidable p} (h : ev L x = some (.bool (decide p))) (hp : ¬ p) (ha : adv P n 400 [] (.code b :: s) L = some (s', L')) (k : HK P n s' L' C Q) : HK P n (.code (.cond x a b) :: s) L C Q := brF h hp (adv_sound 400 _ ha k)
theorem aLt {x : Operand} {a b : Code} (h : ev L x = some (.bool true)) (ha : adv P n 400 [] (.code a :: s) L = some (s', L')) (k : HK P n s' L' C Q) : HK P n (.code (.cond x a b) :: s) L C Q := brL h (adv_sound 400 _ ha k)
theorem aLf {x : Operand} {a b : Code} (h : ev L x = some (.bool false)) (ha : adv P n 400 [] (.code b :: s) L = some (s', L')) (k : HK P n s' L' C Q) : HK P n (.code (.cond x a b) :: s) L C Q := brL h (adv_sound 400 _ ha k)
/-- A guard that is known: on, or past. -/
def gp (P : Program) (o : Oper) (ops : Array Oper) (L : Env) : Option Bool := match o.guard with | none => none | some _ => (match gOk o ops L with | some true => (match pv P o.op L with | some _ => some true | none => none) | x => x)
theorem gA {b : Bool} (h : gp P o ops L = some b) (ha : adv P n 400 (gj o) (.ops ops (o :: l) :: s) L = some (s', L')) (k : HK P n s' L' C Q) : HK P n (.ops ops (o :: l) :: s) L C Q := adv_sound 400 _ ha k
theorem je0 {r : World → Prop} : ∀ w, allJ (r :: J) w → r w := fun _ h => h.1
theorem je1 {a r : World → Prop} : ∀ w, allJ (a :: r :: J) w → r w := fun _ h => h.2.1
theorem je2 {a b r : World → Prop} : ∀ w, allJ (a :: b :: r :: J) w → r w := fun _ h => h.2.2.1
theorem je3 {a b c r : World → Prop} : ∀ w, allJ (a :: b :: c :: r :: J) w → r w := fun _ h => h.2.2.2.1
theorem je4 {a b c d r : World → Prop} : ∀ w, allJ (a :: b :: c :: d :: r :: J) w → r w := fun _ h => h.2.2.2.2.1
theorem je5 {a b c d e r : World → Prop} : ∀ w, allJ (a :: b :: c :: d :: e :: r :: J) w → r w := fun _ h => h.2.2.2.2.2.1
theorem je6 {a b c d e f r : World → Prop} : ∀ w, allJ (a :: b :: c :: d :: e :: f :: r :: J) w → r w := fun _ h => h.2.2.2.2.2.2.1
theorem je7 {a b c d e f g r : World → Prop} : ∀ w, allJ (a :: b :: c :: d :: e :: f :: g :: r :: J) w → r w := fun _ h => h.2.2.2.2.2.2.2.1

/-- Elements of a slice that is read. -/
def esz (P : Program) (t : TypeId) : Option Nat := match P.underlying t with | some (.slice e) => (match P.info? e with | some i => nrm i.size some | none => none) | _ => none
theorem esz_eq {t : TypeId} {z : Nat} (h : esz P t = some z) : ∃ e i, P.underlying t = some (.slice e) ∧ P.info? e = some i ∧ i.size = z := by
  unfold esz at h
  split at h
  · split at h
    · rw [nrm_eq] at h; cases h; exact ⟨_, _, ‹_›, ‹_›, rfl⟩
    · cases h
  · cases h
theorem run_ix {t : TypeId} {sz i len cap : Nat} {kk : IntKind} {ad : Option Addr} (ht : esz P t = some sz) (hi : i < len) (ha : ad = some ⟨ab ad, ao ad, none⟩) (w : World) :
    (Instr.indexAt t (.slice ad len cap) (.int kk i)).run P w = .ok (.pointer (some ⟨ab ad, ao ad + i * sz, none⟩)) w := by
  obtain ⟨e, inf, h1, h2, h3⟩ := esz_eq ht
  rw [ha]
  have h4 : (0 : Int) ≤ (i : Int) ∧ (i : Int) < (len : Int) := by omega
  simp [Instr.indexAt, asIntOf, run_und h1, sizeOf, typeInfo, h2, h3, h4, add_eq, ab, ao, hi]
section
variable {α : Type} {f : α → List Value} {sz : Nat} {ad : Option Addr} {cap : Nat} {xs : List α}
theorem rds_ad {w : World} (h : RdS f sz w ad cap xs) {i : Nat} (hi : i < xs.length) : ad = some ⟨ab ad, ao ad, none⟩ := by
  obtain ⟨b, off, rfl, -⟩ := h.2.2 i hi; rfl
theorem oIx {t : TypeId} {x y : Operand} {m i : Nat} {kk : IntKind} (ho : o.op = .indexAddr t x y) (hx : ev L x = some (.slice ad m cap)) (hy : ev L y = some (.int kk (i : Int))) (hJ : ∀ w, allJ J w → Rs f sz ad cap xs w) (ht : esz P t = some sz) (hm : m = xs.length) (hi : i < xs.length) :
    OS P o L (Ctx J H) (fun _ : Unit => .pointer (some ⟨ab ad, ao ad + i * sz, none⟩)) (fun _ => True) (fun _ => Ctx J H) := by
  intro ρ w hρ hc
  refine Yl_val ?_ ⟨(), rfl, trivial, hc⟩
  have := run_ix (P := P) (cap := cap) (kk := kk) ht (hm ▸ hi) (rds_ad (show RdS f sz w ad cap xs from hJ w hc.js) hi) w
  simp only [execOp, ho, hρ _ _ hx, hρ _ _ hy, Sem.run_bind, this]
  rfl
theorem oLe {t : TypeId} {x : Operand} {i : Nat} {v : Value} (ho : o.op = .load t x) (hx : ev L x = some (.pointer (some ⟨ab ad, ao ad + i * sz, none⟩))) (hJ : ∀ w, allJ J w → Rs f sz ad cap xs w) (hf : ∀ y, (f y).length = sz) (hi : i < xs.length) (hv : ldC P t (f xs[i]) 0 = some v) :
    OS P o L (Ctx J H) (fun _ : Unit => v) (fun _ => True) (fun _ => Ctx J H) := by
  intro ρ w hρ hc
  refine Yl_val ?_ ⟨(), rfl, trivial, hc⟩
  obtain ⟨b, off, e, hcell⟩ := (hJ w hc.js).2.2 i hi
  have := ldC_sound (P := P) (w := w) (b := b) (base := off + i * sz) hv (fun j u hj => by
    rw [hcell j (by rw [← hf xs[i]]; exact (List.getElem?_eq_some_iff.1 hj).1)]; exact hj)
  rw [e] at hx
  simp only [execOp, ho, hρ _ _ hx, Sem.run_bind, ab, ao]
  rw [Nat.add_zero] at this
  rw [this]; rfl
theorem oLf {t : TypeId} {x : Operand} {i g : Nat} {v : Value} (ho : o.op = .load t x) (hx : ev L x = some (.pointer (some ⟨ab ad, padd (ao ad + i * sz) g, none⟩))) (hJ : ∀ w, allJ J w → Rs f sz ad cap xs w) (hf : ∀ y, (f y).length = sz) (hi : i < xs.length) (hv : ldC P t (f xs[i]) g = some v) :
    OS P o L (Ctx J H) (fun _ : Unit => v) (fun _ => True) (fun _ => Ctx J H) := by
  intro ρ w hρ hc
  refine Yl_val ?_ ⟨(), rfl, trivial, hc⟩
  obtain ⟨b, off, e, hcell⟩ := (hJ w hc.js).2.2 i hi
  have := ldC_sound (P := P) (w := w) (b := b) (base := off + i * sz) hv (fun j u hj => by
    rw [hcell j (by rw [← hf xs[i]]; exact (List.getElem?_eq_some_iff.1 hj).1)]; exact hj)
  rw [e, padd_eq] at hx
  simp only [execOp, ho, hρ _ _ hx, Sem.run_bind, ab, ao]
  rw [this]; rfl
end

section
variable {α : Type} {f : α → List Value} {sz : Nat} {ad : Option Addr} {cap : Nat} {xs : List α}
theorem hIx {t : TypeId} {x y : Operand} {m i d : Nat} {kk : IntKind} (hg : gOk o ops L = some true) (hd : o.dst = some d) (hn : Nat.blt d n.1 = true) (ho : o.op = .indexAddr t x y) (hx : ev L x = some (.slice ad m cap)) (hy : ev L y = some (.int kk (i : Int))) (hJ : ∀ w, allJ J w → Rs f sz ad cap xs w) (ht : esz P t = some sz) (hm : m = xs.length) (hi : i < xs.length)
    (ha : adv P n 400 (gj o) (.ops ops l :: s) ((d, .pointer (some ⟨ab ad, ao ad + i * sz, none⟩)) :: L) = some (s', L')) (k : HK P n s' L' (Ctx J H) Q) : HK P n (.ops ops (o :: l) :: s) L (Ctx J H) Q :=
  hA hg hd hn (oIx ho hx hy hJ ht hm hi) ha k
end
/-- What is to be shown yet. -/
structure Hold (G : Prop) : Prop where
  out : G
theorem hx {d : Nat} {X : Type} {v : X → Value} {C' : X → World → Prop} (hg : gOk o ops L = some true) (hd : o.dst = some d) (hn : Nat.blt d n.1 = true) (h : OS P o L C v (fun _ => True) C') (k : ∀ x, HK P n (.ops ops l :: s) ((d, v x) :: L) (C' x) Q) : HK P n (.ops ops (o :: l) :: s) L C Q := hs hg hd hn h fun x _ => k x
end
end
end Go.Proofs.YtimemehaccgmmaaGreatDoor
