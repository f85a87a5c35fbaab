/-
  Parts of the walks and their plain laws (E3 E4 E5 E6). No condition.
-/
import Derived.Test.YtimemehaccgmmaaGreatDoorM01
import Derived.Laws.CopyRow
import Derived.Deep.WholeRow
import Derived.Below
import Derived.LoopN
import Derived.Laws.CopyOwn
import Derived.Deep.AppendSrc
import Derived.Laws.BytesArg
namespace Go.Proofs.YtimemehaccgmmaaGreatDoor
open Go.RowKit
set_option maxRecDepth 100000
set_option linter.unusedSimpArgs false
set_option linter.unusedVariables false
noncomputable section

/-- All blocks of w but those of S are in w' as they were. -/
structure Kp (S : List Nat) (w w' : World) : Prop where
  os : w'.os = w.os
  tape : w'.tape = w.tape
  output : w'.output = w.output
  size : w.heap.size ≤ w'.heap.size
  block : ∀ k, k < w.heap.size → k ∉ S → w'.heap[k]? = w.heap[k]?
  drawn : w.drawn ≤ w'.drawn

theorem Kp.refl (S : List Nat) (w : World) : Kp S w w := ⟨rfl, rfl, rfl, Nat.le_refl _, fun _ _ _ => rfl, Nat.le_refl _⟩
theorem Kp.trans {S T U : List Nat} {a b c : World} (h : Kp S a b) (k : Kp T b c) (hS : ∀ x, x ∈ S → x ∈ U ∨ a.heap.size ≤ x) (hT : ∀ x, x ∈ T → x ∈ U ∨ a.heap.size ≤ x) : Kp U a c :=
  ⟨k.os.trans h.os, k.tape.trans h.tape, k.output.trans h.output, Nat.le_trans h.size k.size, fun i hi hn => by
    rw [k.block i (Nat.lt_of_lt_of_le hi h.size) (fun hm => by rcases hT i hm with h | h; exact hn h; omega),
      h.block i hi (fun hm => by rcases hS i hm with h | h; exact hn h; omega)], Nat.le_trans h.drawn k.drawn⟩
theorem Kp.mono {S T : List Nat} {a b : World} (h : Kp S a b) (hS : ∀ x ∈ S, x ∈ T ∨ a.heap.size ≤ x) : Kp T a b := h.trans (Kp.refl [] b) hS (by simp)
theorem Kp.drew {S : List Nat} {a b : World} (h : Kp S a b) : Kp S a b.drew := ⟨h.os, h.tape, h.output, h.size, h.block, Nat.le_succ_of_le h.drawn⟩
theorem Kp.alloc {S : List Nat} {a b : World} (h : Kp S a b) (o : Obj) : Kp S a (b.alloc o) :=
  ⟨h.os, h.tape, h.output, by have := h.size; simp; omega, fun k hk hn => by
    have := h.size
    rw [Below.heap_alloc _ _ _ (by omega)]; exact h.block k hk hn, h.drawn⟩
theorem Kp.row (w : World) (b : Nat) (cs : Array Value) : Kp [b] w (w.setRow b cs) :=
  ⟨rfl, rfl, rfl, by simp, fun k hk hn => setRow_other w b k _ (by simpa using hn), Nat.le_refl _⟩
theorem lt_of_heap {w : World} {k : Nat} {o : Obj} (h : w.heap[k]? = some o) : k < w.heap.size := (Array.getElem?_eq_some_iff.1 h).1

/-- What the call itself may change: blocks, and what is known of them. -/
structure RC where
  S : List Nat
  A : World → Prop
  kp : ∀ w w', (∀ b ∈ S, w'.heap[b]? = w.heap[b]?) → A w → A w'

def allJ : List (World → Prop) → World → Prop
  | [], _ => True
  | j :: J, w => j w ∧ allJ J w
def allH : List RC → World → Prop
  | [], _ => True
  | r :: H, w => r.A w ∧ allH H w
def fp : List RC → List Nat
  | [] => []
  | r :: H => r.S ++ fp H
theorem allH_iff {H : List RC} {w : World} : allH H w ↔ ∀ r ∈ H, r.A w := by
  induction H with
  | nil => simp [allH]
  | cons r H ih => simp [allH, ih]
theorem fp_mem {H : List RC} {b : Nat} : b ∈ fp H ↔ ∃ r ∈ H, b ∈ r.S := by
  induction H with
  | nil => simp [fp]
  | cons r H ih => simp [fp, ih]
theorem fp_perm {H H' : List RC} (h : H.Perm H') : (fp H).Perm (fp H') := by
  induction h with
  | nil => exact .nil
  | cons x _ ih => exact List.Perm.append_left _ ih
  | swap x y l => simp only [fp, ← List.append_assoc]; exact List.Perm.append_right _ List.perm_append_comm
  | trans _ _ h1 h2 => exact h1.trans h2

/-- What is known of a world: J stays whatever becomes of the blocks of H; H is held. -/
structure Ctx (J : List (World → Prop)) (H : List RC) (w : World) : Prop where
  st : ∀ w', Kp (fp H) w w' → allJ J w'
  hs : allH H w
  lt : ∀ b ∈ fp H, b < w.heap.size
  nd : (fp H).Nodup

section
variable {J J' : List (World → Prop)} {H H' : List RC} {w w' : World} {r r' : RC}
theorem Ctx.js (h : Ctx J H w) : allJ J w := h.st w (Kp.refl _ _)
theorem Ctx.perm (h : Ctx J H w) (p : H.Perm H') : Ctx J H' w :=
  have q := fp_perm p
  ⟨fun w' k => h.st w' (k.mono fun x hx => .inl (q.mem_iff.2 hx)), allH_iff.2 fun r hr => allH_iff.1 h.hs r (p.mem_iff.2 hr), fun b hb => h.lt b (q.mem_iff.2 hb), q.nodup_iff.1 h.nd⟩
theorem Ctx.ent (h : Ctx J H w) (e : ∀ w, allJ J w → allJ J' w) : Ctx J' H w := ⟨fun w' k => e _ (h.st w' k), h.hs, h.lt, h.nd⟩
theorem Ctx.rest (h : Ctx J (r :: H) w) : Ctx J H w :=
  ⟨fun w' k => h.st w' (k.mono fun x hx => .inl (by simp [fp, hx])), h.hs.2, fun b hb => h.lt b (by simp [fp, hb]), (List.nodup_append.1 h.nd).2.1⟩
theorem Ctx.fz (h : Ctx J (r :: H) w) : Ctx (r.A :: J) H w :=
  ⟨fun w' k => ⟨r.kp w w' (fun b hb => k.block b (h.lt b (by simp [fp, hb])) (fun hm => (List.nodup_append.1 h.nd).2.2 b hb b hm rfl)) h.hs.1, h.rest.st w' k⟩, h.rest.hs, h.rest.lt, h.rest.nd⟩
/-- The first thing that is held is changed, or blocks are made. -/
theorem Ctx.upd (h : Ctx J (r :: H) w) (k : Kp r.S w w') (hA : r'.A w') (hS : ∀ b ∈ r'.S, (b ∈ r.S ∨ w.heap.size ≤ b) ∧ b < w'.heap.size) (hn : r'.S.Nodup) : Ctx J (r' :: H) w' := by
  have hd := (List.nodup_append.1 h.nd).2.2
  refine ⟨fun w2 k2 => h.st w2 (k.trans k2 (fun x hx => .inl (by simp [fp, hx])) fun x hx => ?_), ⟨hA, allH_iff.2 fun q hq => q.kp w w' (fun b hb => k.block b (h.lt b ?_) fun hm => ?_) (allH_iff.1 h.hs.2 q hq)⟩, fun b hb => ?_, List.nodup_append.2 ⟨hn, (List.nodup_append.1 h.nd).2.1, fun a ha b hb e => ?_⟩⟩
  · simp only [fp, List.mem_append] at hx ⊢
    rcases hx with hx | hx
    · rcases (hS x hx).1 with h1 | h1
      · exact .inl (.inl h1)
      · exact .inr h1
    · exact .inl (.inr hx)
  · simp only [fp, List.mem_append]; exact .inr (fp_mem.2 ⟨q, hq, hb⟩)
  · exact hd b hm b (fp_mem.2 ⟨q, hq, hb⟩) rfl
  · simp only [fp, List.mem_append] at hb
    rcases hb with hb | hb
    · exact (hS b hb).2
    · exact Nat.lt_of_lt_of_le (h.lt b (by simp [fp, hb])) k.size
  · subst e
    rcases (hS a ha).1 with h1 | h1
    · exact hd a h1 a hb rfl
    · exact absurd (h.lt a (by simp [fp, hb])) (by omega)
/-- New blocks. -/
theorem Ctx.new (h : Ctx J H w) (k : Kp [] w w') (hA : r'.A w') (hS : ∀ b ∈ r'.S, w.heap.size ≤ b ∧ b < w'.heap.size) (hn : r'.S.Nodup) : Ctx J (r' :: H) w' :=
  have h0 : Ctx J (⟨[], fun _ => True, fun _ _ _ _ => trivial⟩ :: H) w := ⟨fun w' k => h.st w' (k.mono fun x hx => .inl (by simpa [fp] using hx)), ⟨trivial, h.hs⟩, fun b hb => h.lt b (by simpa [fp] using hb), by simpa [fp] using h.nd⟩
  h0.upd k hA (fun b hb => ⟨.inr (hS b hb).1, (hS b hb).2⟩) hn
theorem Ctx.keep (h : Ctx J H w) (k : Kp [] w w') : Ctx J H w' :=
  (h.new (r' := ⟨[], fun _ => True, fun _ _ _ _ => trivial⟩) k trivial (by simp) (by simp)).rest
/-- A fact that new blocks bear. -/
theorem Ctx.fact (h : Ctx J H w) (k : Kp [] w w') {F : World → Prop} (hF : ∀ w'', (∀ b, w.heap.size ≤ b → b < w'.heap.size → w''.heap[b]? = w'.heap[b]?) → F w'') : Ctx (F :: J) H w' :=
  have h1 := h.keep k
  ⟨fun w2 k2 => ⟨hF w2 fun b h2 h3 => k2.block b h3 fun hm => absurd (h.lt b hm) (by omega), h1.st w2 k2⟩, h1.hs, h1.lt, h1.nd⟩
end

/-- The k-th, and what lies there instead. -/
def setH : List RC → Nat → RC → List RC
  | [], _, _ => []
  | _ :: H, 0, r => r :: H
  | a :: H, k + 1, r => a :: setH H k r
theorem setH_perm {H : List RC} {k : Nat} {r : RC} (h : H[k]? = some r) : ∃ H0, H.Perm (r :: H0) ∧ ∀ r', (setH H k r').Perm (r' :: H0) := by
  induction H generalizing k with
  | nil => simp at h
  | cons a H ih =>
    cases k with
    | zero => simp at h; subst h; exact ⟨H, .refl _, fun r' => .refl _⟩
    | succ k =>
      obtain ⟨H0, h1, h2⟩ := ih (by simpa using h)
      exact ⟨a :: H0, (h1.cons a).trans (.swap _ _ _), fun r' => ((h2 r').cons a).trans (.swap _ _ _)⟩
theorem Ctx.upd' {J : List (World → Prop)} {H : List RC} {w w' : World} {r r' : RC} {k : Nat} (h : Ctx J H w) (hr : H[k]? = some r) (kp : Kp r.S w w') (hA : r'.A w') (hS : ∀ b ∈ r'.S, (b ∈ r.S ∨ w.heap.size ≤ b) ∧ b < w'.heap.size) (hn : r'.S.Nodup) : Ctx J (setH H k r') w' := by
  obtain ⟨H0, h1, h2⟩ := setH_perm hr
  exact ((h.perm h1).upd kp hA hS hn).perm (h2 r').symm
theorem Ctx.at {J : List (World → Prop)} {H : List RC} {w : World} {r : RC} {k : Nat} (h : Ctx J H w) (hr : H[k]? = some r) : r.A w := allH_iff.1 h.hs r (List.mem_of_getElem? hr)

/-- Block b holds these cells. -/
def pt (b : Nat) (t : TypeId) (vs : List Value) : RC := ⟨[b], fun w => w.heap[b]? = some (.cells vs.toArray t (0, 0)), fun w w' h ha => by rw [h b (by simp)]; exact ha⟩

end
end Go.Proofs.YtimemehaccgmmaaGreatDoor
namespace Go.Proofs.YtimemehaccgmmaaGreatDoor
open Go.RowKit
set_option maxRecDepth 100000
set_option linter.unusedSimpArgs false
set_option linter.unusedVariables false
noncomputable section
variable {P : Program}

/-- What an operation yields. -/
def Yl (P : Program) (R : Value → World → Prop) : Result Next → Prop
  | .ok (.value v) w => R v w
  | .ok .skip w => R undef w
  | .ok (.enter f args) w => Calls P f args w fun e w' => ∃ v, e = .returned v ∧ R v w'
  | _ => False
def OS (P : Program) (o : Oper) (L : Env) (C : World → Prop) {X : Type} (v : X → Value) (p : X → Prop) (C' : X → World → Prop) : Prop :=
  ∀ ρ w, (∀ x u, ev L x = some u → ρ x = u) → C w → Yl P (fun u w' => ∃ x, u = v x ∧ p x ∧ C' x w') ((execOp ρ o).run P w)

theorem Yl.wp {o : Oper} {a : Act} {w : World} {K : Act → World → Prop} {Q : Exit → Act → World → Prop} {R : Value → World → Prop}
    (h : Yl P R ((execOp a.eval o).run P w)) (hk : ∀ v w', R v w' → K (a.put o.dst v) w') : o.wp P a w K Q := by
  unfold Oper.wp
  generalize (execOp a.eval o).run P w = r at *
  unfold Yl at h
  split at h
  · exact hk _ _ h
  · exact hk _ _ h
  · exact Calls.mono h fun e w' he => by obtain ⟨v, rfl, hr⟩ := he; exact hk _ _ hr
  · exact h.elim

section
variable {n : Fr} {ops : Array Oper} {o : Oper} {l : List Oper} {s : List KI} {L : Env} {C : World → Prop} {Q : Exit → Act → World → Prop} {X : Type} {v : X → Value} {p : X → Prop} {C' : X → World → Prop}
theorem hs {d : Nat} (hg : gOk o ops L = some true) (hd : o.dst = some d) (hn : Nat.blt d n.1 = true) (h : OS P o L C v p C') (k : ∀ x, p x → HK P n (.ops ops l :: s) ((d, v x) :: L) (C' x) Q) : HK P n (.ops ops (o :: l) :: s) L C Q := by
  intro a w ha hc
  refine wpList_step fun K hK => ?_
  rw [if_pos (gOk_sound hg ha.get)]
  refine (h a.eval w (fun x u hx => ev_eval ha.get hx) hc).wp fun u w' ⟨x, e, hp, hc'⟩ => hK _ _ ?_
  subst e
  have := ha.put (d := some d) hn (v x)
  rw [hd]
  exact k x hp _ w' this hc'
theorem hs0 (hg : gOk o ops L = some true) (hd : o.dst = none) (h : OS P o L C v p C') (k : ∀ x, p x → HK P n (.ops ops l :: s) L (C' x) Q) : HK P n (.ops ops (o :: l) :: s) L C Q := by
  intro a w ha hc
  refine wpList_step fun K hK => ?_
  rw [if_pos (gOk_sound hg ha.get)]
  refine (h a.eval w (fun x u hx => ev_eval ha.get hx) hc).wp fun u w' ⟨x, e, hp, hc'⟩ => hK _ _ ?_
  subst e
  rw [hd]
  exact k x hp _ w' ha hc'
theorem Oper.wp_monoQ {o : Oper} {a : Act} {w : World} {K K' : Act → World → Prop} {Q Q' : Exit → Act → World → Prop} (h : ∀ a w, K a w → K' a w) (hq : ∀ e a w, Q e a w → Q' e a w) (hh : o.wp P a w K Q) : o.wp P a w K' Q' := by
  unfold Oper.wp at *
  generalize (execOp a.eval o).run P w = r at *
  have hl : LetsOut Q → LetsOut Q' := fun ⟨a, w, h⟩ => ⟨a, w, hq _ _ _ h⟩
  cases r with
  | ok x w' =>
    cases x <;> simp only [Oper.upon] at hh ⊢ <;>
      first
        | exact h _ _ hh
        | exact Calls.mono hh (fun e w'' he => by cases e <;> first | exact h _ _ he | exact hq _ _ _ he | exact hl he)
        | exact Rows.mono hh (fun _ _ he => h _ _ he)
  | halt x w' => cases x <;> simp only [Oper.upon] at hh ⊢ <;> first | exact hh | exact hq _ _ _ hh
theorem wpList_mono {Q Q' : Exit → Act → World → Prop} (hq : ∀ e a w, Q e a w → Q' e a w) : ∀ (l : List Oper) (a : Act) (w : World), wpList P ops Q l a w → wpList P ops Q' l a w := by
  intro l
  induction l with
  | nil => intro a w h; exact hq _ _ _ h
  | cons o l ih =>
    intro a w h
    unfold wpList at h ⊢
    split
    · rename_i hw; rw [if_pos hw] at h
      exact h.imp (Oper.wp_monoQ (fun a w => ih a w) hq) fun ⟨h1, a, w, h2⟩ => ⟨h1, a, w, hq _ _ _ h2⟩
    · rename_i hw; rw [if_neg hw] at h; exact ih _ _ h
theorem Kw_mono {s s' : List KI} (h : ∀ e a w, Kw P s Q e a w → Kw P s' Q e a w) (k : KI) : ∀ e a w, Kw P (k :: s) Q e a w → Kw P (k :: s') Q e a w := by
  intro e a w hk
  cases k with
  | code c => cases e with
    | normal => exact wp_mono hk h
    | _ => exact h _ _ _ hk
  | ops x l => cases e with
    | normal => exact wpList_mono h l a w hk
    | _ => exact h _ _ _ hk
  | blk id => cases e with
    | exit j =>
      simp only [Kw] at hk ⊢
      split
      · rename_i e; rw [if_pos e] at hk; exact h _ _ _ hk
      · rename_i e; rw [if_neg e] at hk; exact h _ _ _ hk
    | _ => exact h _ _ _ hk
  | cut R => cases e with
    | normal => exact hk
    | _ => exact h _ _ _ hk

/-- Where a part ends: one of the states I x, CI x. -/
def Ed (n : Fr) (p : X → Prop) (I : X → Env) (CI : X → World → Prop) (a : Act) (w : World) : Prop := ∃ x, p x ∧ Kn n (I x) a ∧ CI x w
def covs (L M : Env) : Prop := M.map (fun p => look L p.1) = M.map (fun p => some p.2)
theorem Kn.cov {L M : Env} {a : Act} (h : Kn n L a) (hc : M.map (fun p => look L p.1) = M.map (fun p => some p.2)) : Kn n M a := by
  refine ⟨h.size, h.defs, fun j v hj => h.get j v ?_⟩
  have : ∀ M : Env, M.map (fun p => look L p.1) = M.map (fun p => some p.2) → look M j = some v → look L j = some v := by
    clear hj hc
    intro M
    induction M with
    | nil => intro _ hj; simp [look] at hj
    | cons p M ih =>
      intro hc hj
      obtain ⟨k, u⟩ := p
      simp only [List.map_cons, List.cons.injEq] at hc
      rw [look_cons] at hj
      split at hj
      · rename_i e; subst e; rw [hc.1]; exact hj
      · exact ih hc.2 hj
  exact this M hc hj
/-- Ways that meet again. -/
theorem ct {k : KI} (p : X → Prop) (I : X → Env) (CI : X → World → Prop) (h : HK P n (k :: .cut (Ed n p I CI) :: s) L C Q) (h2 : ∀ x, p x → HK P n s (I x) (CI x) Q) : HK P n (k :: s) L C Q := by
  intro a w ha hc
  refine Kw_mono (s := .cut (Ed n p I CI) :: s) ?_ k .normal a w (h a w ha hc)
  intro e a w hk
  cases e with
  | normal => obtain ⟨x, h3, h4, h5⟩ := hk; exact h2 x h3 a w h4 h5
  | _ => exact hk
theorem ed {p : X → Prop} {I : X → Env} {CI : X → World → Prop} (x : X) (hp : p x) (hc : (I x).map (fun p => look L p.1) = (I x).map (fun p => some p.2)) (hw : ∀ w, C w → CI x w) : HK P n (.cut (Ed n p I CI) :: s) L C Q :=
  fun a w ha h => ⟨x, hp, ha.cov hc, hw w h⟩
/-- A loop: its states, and what falls. -/
theorem lp {c : Code} (p : X → Prop) (I : X → Env) (CI : X → World → Prop) (m : X → Nat) (x0 : X) (hp : p x0) (h0 : (I x0).map (fun p => look L p.1) = (I x0).map (fun p => some p.2)) (hc : ∀ w, C w → CI x0 w)
    (h : ∀ x, p x → HK P n (.code c :: .cut (Ed n (fun y => p y ∧ m y < m x) I CI) :: s) (I x) (CI x) Q) : HK P n (.code (.loop c) :: s) L C Q := by
  have key : ∀ (j : Nat) (x : X) (a : Act) (w : World), m x < j → p x → Kn n (I x) a → CI x w → Code.rounds P c (Kw P s Q) j a w := by
    intro j
    induction j with
    | zero => intro x a w h; omega
    | succ j ih =>
      intro x a w hj hp ha hC
      rw [rounds_succ]
      refine wp_mono (h x hp a w ha hC) fun e a w hk => ?_
      cases e with
      | normal => obtain ⟨y, h1, h2, h3⟩ := hk; exact ih y a w (by omega) h1.1 h2 h3
      | _ => exact hk
  intro a w ha hC
  exact wp_loop_rounds (m x0 + 1) (key _ x0 a w (Nat.lt_succ_self _) hp (ha.cov h0) (hc w hC))

/-- A call's contract. -/
def Enters (P : Program) (f : FuncId) : Prop := ∀ args w, (callFunc f args).run P w = .ok (.enter f args) w
structure Tr (P : Program) (f : FuncId) (args : List Value) (C : World → Prop) (v : X → Value) (p : X → Prop) (C' : X → World → Prop) : Prop where
  go : ∀ w, C w → Calls P f args.toArray w fun e w' => ∃ x, e = .returned (v x) ∧ p x ∧ C' x w'
  en : Enters P f
def env0 : Nat → List Value → Env
  | _, [] => []
  | i, v :: vs => (i, v) :: env0 (i + 1) vs
theorem look_env0 : ∀ (vs : List Value) (i j : Nat), look (env0 i vs) j = if i ≤ j then vs[j - i]? else none := by
  intro vs
  induction vs with
  | nil => intro i j; simp [env0, look]
  | cons v vs ih =>
    intro i j
    rw [env0, look_cons, ih]
    by_cases e : i = j
    · subst e; simp
    · rw [if_neg e]
      by_cases h : i ≤ j
      · rw [if_pos h, if_pos (by omega), show j - i = (j - (i + 1)) + 1 by omega, List.getElem?_cons_succ]
      · rw [if_neg h, if_neg (by omega)]
theorem ent {f : FuncId} {fn : Func} {c : Code} {args : List Value} (hf : P.funcs[f]? = some fn) (hb : fn.body = some c) (hn : Nat.ble args.length fn.ntmps = true) (hm : (fn.name == "runtime.NumGoroutine") = false)
    (h : HK P (fn.ntmps, []) [.code c] (env0 0 args) C (bodyPost P fn fun e w' => ∃ x, e = .returned (v x) ∧ p x ∧ C' x w')) : Tr P f args C v p C' := by
  refine ⟨fun w hC => ?_, fun args w => ?_⟩
  rotate_left
  · have h1 : fn.name ≠ "runtime.NumGoroutine" := by simpa using hm
    simp [callFunc, hf, h1, hb]
  refine calls_of_wp hf hb ?_
  have hle : args.length ≤ fn.ntmps := Nat.le_of_ble_eq_true hn
  have hk := h { tmps := args.toArray ++ Array.replicate (fn.ntmps - args.toArray.size) undef, defers := [] } w ⟨by simp; omega, rfl, fun j v hj => ?_⟩ hC
  · refine wp_mono hk fun e a w q => ?_
    cases e <;> exact q
  · rw [look_env0] at hj
    simp only [Nat.zero_le, if_true, Nat.sub_zero] at hj
    obtain ⟨h1, h2⟩ := List.getElem?_eq_some_iff.1 hj
    simp [Array.getD_eq_getD_getElem?, Array.getElem?_append, h1, h2]
def res (fn : Func) (L : Env) : Option Value :=
  match fn.results.toList with
  | [] => some (.tuple #[])
  | [.tmp t] => look L t
  | [.tmp t, .tmp u] => match look L t, look L u with | some a, some b => some (.tuple #[a, b]) | _, _ => none
  | [.tmp t, .tmp u, .tmp z] => match look L t, look L u, look L z with | some a, some b, some c => some (.tuple #[a, b, c]) | _, _, _ => none
  | _ => none
theorem res_sound {fn : Func} {u : Value} (h : res fn L = some u) {a : Act} (ha : Kn n L a) (w : World) : (results fn a.tmps).run P w = .ok u w := by
  unfold res at h
  have hr : fn.results = fn.results.toList.toArray := by simp
  split at h
  · rename_i e; rw [e] at hr; cases h; exact results_none (by simpa using hr) _ _ _
  · rename_i t e; rw [e] at hr; rw [results_tmp (t := t) (by simpa using hr), ha.get _ _ h]
  · rename_i t t2 e; rw [e] at hr
    split at h
    · rename_i h1 h2; cases h
      rw [results_tmp2 (t := t) (u := t2) (by simpa using hr), ha.get _ _ h1, ha.get _ _ h2]
    · cases h
  · rename_i t t2 t3 e; rw [e] at hr
    split at h
    · rename_i h1 h2 h3; cases h
      have e1 := ha.get _ _ h1; have e2 := ha.get _ _ h2; have e3 := ha.get _ _ h3
      unfold results
      rw [hr]
      simp [Array.getD_eq_getD_getElem?] at e1 e2 e3 ⊢
      exact ⟨e1, e2, e3⟩
    · cases h
  · cases h
theorem rt {n : Nat} {fn : Func} (x : X) (hp : p x) (hr : res fn L = some (v x)) (hC : ∀ w, C w → C' x w) : HK P (n, []) (.code .ret :: s) L C (bodyPost P fn fun e w' => ∃ x, e = .returned (v x) ∧ p x ∧ C' x w') := by
  intro a w ha hc
  refine wp_ret ?_
  have key : ∀ s : List KI, Kw P s (bodyPost P fn fun e w' => ∃ x, e = .returned (v x) ∧ p x ∧ C' x w') .ret a w := by
    intro s
    induction s with
    | nil => exact ⟨ha.defs, v x, res_sound hr ha w, x, rfl, hp, hC w hc⟩
    | cons k s ih => cases k <;> exact ih
  exact key s
theorem rtE {n : Nat} {fn : Func} (x : X) (hp : p x) (hr : res fn L = some (v x)) (hC : ∀ w, C w → C' x w) : HK P (n, []) [] L C (bodyPost P fn fun e w' => ∃ x, e = .returned (v x) ∧ p x ∧ C' x w') :=
  fun a w ha hc => ⟨ha.defs, v x, res_sound hr ha w, x, rfl, hp, hC w hc⟩
end
end
end Go.Proofs.YtimemehaccgmmaaGreatDoor
namespace Go.Proofs.YtimemehaccgmmaaGreatDoor
open Go.RowKit
set_option maxRecDepth 100000
set_option linter.unusedSimpArgs false
set_option linter.unusedVariables false
noncomputable section
variable {P : Program}
theorem add_eq (b o k : Nat) : (⟨b, o, none⟩ : Addr).add k = ⟨b, o + k, none⟩ := by unfold Addr.add; split <;> simp_all
/-- A load, of what is known. -/
theorem ldC_sound {t : TypeId} {vs : List Value} {off base b : Nat} {v : Value} {w : World} (h : ldC P t vs off = some v) (hc : ∀ (j : Nat) (v : Value), vs[j]? = some v → w.cell? ⟨b, base + j, none⟩ = some v) :
    (Instr.loadAt t (.pointer (some ⟨b, base + off, none⟩))).run P w = .ok v w := by
  unfold ldC at h
  unfold Instr.loadAt Instr.sureAddr loadVar
  split at h
  · rename_i e
    rw [nthV_eq] at h
    simp [lsz_none e, hc _ _ h]
  · rename_i k e
    split at h
    · rename_i r hr
      cases h
      obtain ⟨h1, h2⟩ := tk_eq hr
      obtain ⟨e1, e2⟩ := lsz_some e w
      have := run_loadCells_list (P := P) w ⟨b, base + off, none⟩ r (fun j v hj => by
        rw [add_eq, Nat.add_assoc]
        refine hc _ _ ?_
        have := h2 j v hj
        simpa using this)
      rw [h1] at this
      simp [e1, e2, this]
    · cases h
  · cases h
def one1 (r : List Value) : Bool := r.all (·.oneCell')
/-- A store. -/
theorem stC_sound {t tt : TypeId} {vs q : List Value} {off b : Nat} {v : Value} {w : World} (h : stC P t vs off v = some q) (h1 : (cs1 v).any one1 = true) (hs : (P.info? t).map (·.size) = (cs1 v).map (·.length)) (hb : w.heap[b]? = some (.cells vs.toArray tt (0, 0))) :
    (Instr.storeAt t (.pointer (some ⟨b, off, none⟩)) v).run P w = .ok () (w.setRow b q.toArray) := by
  obtain ⟨r, hr, hq⟩ : ∃ r, cs1 v = some r ∧ spl vs off r = some q := by
    unfold stC at h
    split at h
    · rename_i r e1 e2
      split at h
      · exact ⟨_, e2, h⟩
      · cases h
    · rename_i k r e1 e2
      cases hb : Nat.beq r.length k with
      | false => rw [hb] at h; cases h
      | true => rw [hb] at h; exact ⟨_, e2, h⟩
    · cases h
  rw [hr] at h1 hs
  simp only [Option.any_some, one1] at h1
  obtain ⟨i, hi, hi2⟩ : ∃ i, P.info? t = some i ∧ i.size = r.length := by
    cases hp : P.info? t with
    | none => rw [hp] at hs; cases hs
    | some i => rw [hp] at hs; simp at hs; exact ⟨i, rfl, hs⟩
  obtain ⟨e1, e2⟩ := spl_eq hq
  have hc := cs1_eq hr
  have hlen : off + 0 + r.length ≤ vs.toArray.size ∨ r = [] := by rcases e2 with e2 | e2; exact .inl (by simpa using e2); exact .inr e2
  unfold Instr.storeAt Instr.sureAddr storeVar
  simp only [Sem.run_bind, Sem.run_pure, Result.andThen_ok, hc, sizeOf, typeInfo, program]
  simp [hi, hi2, Sem.run]
  rcases hlen with hlen | hlen
  · have := run_storeCells_at P b off tt r 0 vs.toArray w hb hlen (fun v hv => by simpa using List.all_eq_true.1 h1 v hv)
    rw [this]
    simp [e1]
  · subst hlen
    simp at e1
    rw [e1, setRow_self w b _ tt (0, 0) hb]
    rfl

section
variable {n : Nat} {o : Oper} {L : Env} {C : World → Prop} {J : List (World → Prop)} {H : List RC}
theorem oPv {v : Value} (h : pv P o.op L = some v) : OS P o L C (fun _ : Unit => v) (fun _ => True) (fun _ => C) := by
  intro ρ w hρ hc
  rw [pv_sound (fun h => hρ _ _ h) h w]
  exact ⟨(), rfl, trivial, hc⟩
theorem oLd {t tt : TypeId} {x : Operand} {b off k : Nat} {vs : List Value} {v : Value} (ho : o.op = .load t x) (hx : ev L x = some (.pointer (some ⟨b, off, none⟩))) (hH : H[k]? = some (pt b tt vs)) (hv : ldC P t vs off = some v) :
    OS P o L (Ctx J H) (fun _ : Unit => v) (fun _ => True) (fun _ => Ctx J H) := by
  intro ρ w hρ hc
  have h1 : w.heap[b]? = some (.cells vs.toArray tt (0, 0)) := hc.at hH
  have := ldC_sound (P := P) (base := 0) (w := w) (b := b) hv (fun j v hj => by rw [Nat.zero_add, cell_of_row w b j _ _ _ h1]; simpa using hj)
  rw [Nat.zero_add] at this
  simp only [execOp, ho, hρ _ _ hx, Sem.run_bind, this]
  exact ⟨(), rfl, trivial, hc⟩
theorem oLdJ {t tt : TypeId} {x : Operand} {b off : Nat} {vs : List Value} {v : Value} (ho : o.op = .load t x) (hx : ev L x = some (.pointer (some ⟨b, off, none⟩))) (hJ : ∀ w, allJ J w → (pt b tt vs).A w) (hv : ldC P t vs off = some v) :
    OS P o L (Ctx J H) (fun _ : Unit => v) (fun _ => True) (fun _ => Ctx J H) := by
  intro ρ w hρ hc
  have h1 : w.heap[b]? = some (.cells vs.toArray tt (0, 0)) := hJ w hc.js
  have := ldC_sound (P := P) (base := 0) (w := w) (b := b) hv (fun j v hj => by rw [Nat.zero_add, cell_of_row w b j _ _ _ h1]; simpa using hj)
  rw [Nat.zero_add] at this
  simp only [execOp, ho, hρ _ _ hx, Sem.run_bind, this]
  exact ⟨(), rfl, trivial, hc⟩
theorem oSt {t tt : TypeId} {x y : Operand} {b off k : Nat} {vs q : List Value} {v : Value} {H' : List RC} (ho : o.op = .store t x y) (hx : ev L x = some (.pointer (some ⟨b, off, none⟩))) (hy : ev L y = some v) (hH : H[k]? = some (pt b tt vs)) (hv : stC P t vs off v = some q)
    (h1 : (cs1 v).any one1 = true) (hs : (P.info? t).map (·.size) = (cs1 v).map (·.length)) (hH' : setH H k (pt b tt q) = H') :
    OS P o L (Ctx J H) (fun _ : Unit => undef) (fun _ => True) (fun _ => Ctx J H') := by
  intro ρ w hρ hc
  have hb : w.heap[b]? = some (.cells vs.toArray tt (0, 0)) := hc.at hH
  have := stC_sound (P := P) hv h1 hs hb
  simp only [execOp, ho, hρ _ _ hx, hρ _ _ hy, Sem.run_bind, this]
  subst hH'
  refine ⟨(), rfl, trivial, hc.upd' hH (Kp.row w b _) (setRow_heap w b _ _ tt _ hb) (fun b' hb' => ⟨.inl hb', ?_⟩) (by simp [pt])⟩
  simp [pt] at hb'; subst hb'; simpa using lt_of_heap hb
end
end
end Go.Proofs.YtimemehaccgmmaaGreatDoor
namespace Go.Proofs.YtimemehaccgmmaaGreatDoor
open Go.RowKit
set_option maxRecDepth 100000
set_option linter.unusedSimpArgs false
set_option linter.unusedVariables false
noncomputable section

theorem Kp.get {S : List Nat} {w w' : World} (h : Kp S w w') {k : Nat} {o : Obj} (hk : w.heap[k]? = some o) (hn : k ∉ S) : w'.heap[k]? = some o := by
  have hlt : k < w.heap.size := (Array.getElem?_eq_some_iff.1 hk).1
  rw [h.block k hlt hn]; exact hk
theorem Kp.cell {S : List Nat} {w w' : World} (h : Kp S w w') {a : Addr} {v : Value} (hc : w.cell? a = some v) (hn : a.block ∉ S) : w'.cell? a = some v := by
  rw [World.cell?_of_block (h.block a.block (World.block_lt_of_cell? w a hc) hn)]; exact hc
theorem Kp.setCell {S : List Nat} {a b : World} (h : Kp S a b) (p : Addr) (v : Value) (hp : p.block ∈ S ∨ a.heap.size ≤ p.block) : Kp S a (b.setCell p v) :=
  ⟨h.os, h.tape, h.output, by have := h.size; simpa using this, fun k hk hn => by
    rw [Below.heap_setCell _ _ _ _ (fun e => by rcases hp with hp | hp; exact hn (e ▸ hp); omega)]; exact h.block k hk hn, h.drawn⟩
theorem heap_alloc_at {w : World} {o : Obj} {k : Nat} (h : k = w.heap.size) : (w.alloc o).heap[k]? = some o := by rw [h]; exact heap_alloc_new w o
def ob (ad : Option Addr) (cap : Nat) : List Nat := if cap = 0 then [] else (ad.map (·.block)).toList
def ab (ad : Option Addr) : Nat := match ad with | some a => a.block | none => 0
def ao (ad : Option Addr) : Nat := match ad with | some a => a.off | none => 0
theorem setCells_eq (g : Nat) (t : TypeId) : ∀ (vs : List Value) (o : Nat) (cur : Array Value) (w : World), w.heap[g]? = some (.cells cur t (0, 0)) → o + vs.length ≤ cur.size →
    (w.setCells g o vs).heap[g]? = some (.cells (cur.toList.take o ++ vs ++ cur.toList.drop (o + vs.length)).toArray t (0, 0)) ∧ Kp [g] w (w.setCells g o vs) ∧ (w.setCells g o vs).heap.size = w.heap.size := by
  intro vs
  induction vs with
  | nil => intro o cur w h ho; refine ⟨by simpa [World.setCells] using h, Kp.refl _ _, rfl⟩
  | cons v l ih =>
    intro o cur w h ho
    simp only [List.length_cons] at ho
    have h1 := heap_setCell_same w g o cur t v h
    obtain ⟨h2, h3, h4⟩ := ih (o + 1) (cur.setIfInBounds o v) (w.setCell ⟨g, o, none⟩ v) h1 (by simp; omega)
    refine ⟨?_, ?_, ?_⟩
    · simp only [World.setCells]
      rw [h2]
      congr 2
      apply Array.toList_inj.1
      simp only [Array.toList_setIfInBounds, List.length_cons]
      apply List.ext_getElem?
      intro i
      simp only [List.append_assoc, List.getElem?_append, List.length_take, List.length_set, Array.length_toList, List.getElem?_take, List.getElem?_set, List.getElem?_drop, List.cons_append, List.getElem?_cons, List.length_cons, List.nil_append]
      have e1 : min (o + 1) cur.size = o + 1 := by omega
      have e2 : min o cur.size = o := by omega
      rw [e1, e2]
      by_cases c1 : i < o
      · simp [c1, show i < o + 1 by omega, show ¬ o = i by omega]
      · by_cases c2 : i = o
        · subst c2; simp [show i < cur.size by omega]
        · have c3 : ¬ i < o + 1 := by omega
          simp only [c1, c3, if_false]
          rw [if_neg (show ¬ i - o = 0 by omega)]
          rw [show i - o - 1 = i - (o + 1) by omega]
          split
          · rfl
          · rw [if_neg (by omega)]
            congr 1; omega
    · simp only [World.setCells]
      exact ((Kp.refl [g] w).setCell _ _ (by simp)).trans h3 (by simp) (by simp)
    · simp only [World.setCells]
      rw [h4]; simp

/-- How elements lie in cells. -/
class Lies {α : Type} (f : α → List Value) (sz : outParam Nat) : Prop where
  len : ∀ x, (f x).length = sz
  one : ∀ x, ∀ v ∈ f x, v.oneCell' = true
  pos : 0 < sz

/-- A slice whose elements, of sz cells each, read as the list l. -/
def RdS {α : Type} (f : α → List Value) (sz : Nat) (w : World) (ad : Option Addr) (cap : Nat) (l : List α) : Prop :=
  l.length ≤ cap ∧ cap ≤ 9223372036854775807 ∧ ∀ i (h : i < l.length), ∃ b off, ad = some ⟨b, off, none⟩ ∧ ∀ j, j < sz → w.cell? ⟨b, off + i * sz + j, none⟩ = (f l[i])[j]?

/-- What the call itself owns: a slice that it may append to. -/
def OwnS {α : Type} (f : α → List Value) (sz : Nat) (w : World) (base : Nat) (e : TypeId) (ad : Option Addr) (cap : Nat) (l : List α) : Prop :=
  (cap = 0 ∧ l = []) ∨
  ∃ g cur, ad = some ⟨g, 0, none⟩ ∧ base ≤ g ∧ w.heap[g]? = some (.cells cur e (0, 0)) ∧ cur.size = cap * sz ∧ l.length ≤ cap ∧ cap ≤ 9223372036854775807 ∧ cur.toList.take (l.length * sz) = l.flatMap f

theorem flat_length {α : Type} {f : α → List Value} {sz : Nat} (hf : ∀ x, (f x).length = sz) : ∀ l : List α, (l.flatMap f).length = l.length * sz
  | [] => by simp
  | x :: l => by rw [List.flatMap_cons, List.length_append, hf, flat_length hf l, List.length_cons, Nat.succ_mul]; omega
theorem flat_get {α : Type} {f : α → List Value} {sz : Nat} (hf : ∀ x, (f x).length = sz) : ∀ (l : List α) (i j : Nat) (h : i < l.length), j < sz → (l.flatMap f)[i * sz + j]? = (f l[i])[j]?
  | x :: l, 0, j, h, hj => by
    rw [List.flatMap_cons, Nat.zero_mul, Nat.zero_add, List.getElem?_append_left (by rw [hf]; exact hj)]; rfl
  | x :: l, i + 1, j, h, hj => by
    rw [List.flatMap_cons, List.getElem?_append_right (by rw [hf, Nat.succ_mul]; omega), hf, Nat.succ_mul, show i * sz + sz + j - sz = i * sz + j by omega, flat_get hf l i j (by simpa using h) hj]; rfl

section
variable {α : Type} {f : α → List Value} {sz : Nat} {w w' : World} {base : Nat} {e : TypeId} {ad : Option Addr} {cap : Nat} {l : List α}
theorem OwnS.nil (f : α → List Value) (sz : Nat) (w : World) (base : Nat) (e : TypeId) : OwnS f sz w base e none 0 [] := .inl ⟨rfl, rfl⟩
theorem OwnS.keep (h : OwnS f sz w base e ad cap l) {S : List Nat} (hk : Kp S w w') (hn : ∀ b, b ∈ ob ad cap → b ∉ S) : OwnS f sz w' base e ad cap l := by
  rcases h with h | ⟨g, cur, rfl, h1, h2, h3, h4, h5, h6⟩
  · exact .inl h
  · by_cases h0 : cap = 0
    · subst h0
      have : l = [] := List.eq_nil_of_length_eq_zero (by omega)
      exact .inl ⟨rfl, this⟩
    · exact .inr ⟨g, cur, rfl, h1, hk.get h2 (hn g (by simp [ob, h0])), h3, h4, h5, h6⟩
theorem OwnS.keep0 (h : OwnS f sz w base e ad cap l) (hk : Kp [] w w') : OwnS f sz w' base e ad cap l := h.keep hk (by simp)
theorem OwnS.alloc (h : OwnS f sz w base e ad cap l) (o : Obj) : OwnS f sz (w.alloc o) base e ad cap l := h.keep0 ((Kp.refl [] w).alloc o)
theorem OwnS.mono (h : OwnS f sz w base e ad cap l) {b' : Nat} (hb : b' ≤ base) : OwnS f sz w b' e ad cap l := by
  rcases h with h | ⟨g, cur, rfl, h1, h2⟩
  · exact .inl h
  · exact .inr ⟨g, cur, rfl, by omega, h2⟩
theorem OwnS.ob_ge (h : OwnS f sz w base e ad cap l) : ∀ b, b ∈ ob ad cap → base ≤ b ∧ b < w.heap.size := by
  intro b hb
  rcases h with ⟨h, -⟩ | ⟨g, cur, rfl, h1, h2, -⟩
  · simp [ob, h] at hb
  · unfold ob at hb
    split at hb
    · simp at hb
    · simp at hb; subst hb; exact ⟨h1, lt_of_heap h2⟩
theorem OwnS.rd (h : OwnS f sz w base e ad cap l) (L : Lies f sz) : RdS f sz w ad cap l := by
  rcases h with ⟨rfl, rfl⟩ | ⟨g, cur, rfl, h1, h2, h3, h4, h5, h6⟩
  · exact ⟨by simp, by omega, fun i hi => by simp at hi⟩
  · refine ⟨h4, h5, fun i hi => ⟨g, 0, rfl, fun j hj => ?_⟩⟩
    rw [Nat.zero_add, cell_of_row w g _ cur e _ h2]
    have hlt : i * sz + j < l.length * sz := by
      have : (i + 1) * sz ≤ l.length * sz := Nat.mul_le_mul_right _ hi
      rw [Nat.succ_mul] at this; omega
    have h7 := flat_get L.len l i j hi hj
    rw [← h6, List.getElem?_take, if_pos hlt] at h7
    rw [← h7]; simp
/-- An element of what the call owns. -/
theorem OwnS.at' (h : OwnS f sz w base e ad cap l) (L : Lies f sz) {i : Nat} (hi : i < l.length) :
    ∃ g, ad = some ⟨g, 0, none⟩ ∧ (∀ j, j < sz → w.cell? ⟨g, i * sz + j, none⟩ = (f l[i])[j]? ∧ w.frozen? ⟨g, i * sz + j, none⟩ = false) ∧ base ≤ g ∧ g ∈ ob ad cap := by
  have hr := h.rd L
  rcases h with ⟨rfl, rfl⟩ | ⟨g, cur, rfl, h1, h2, h3, h4, h5, h6⟩
  · simp at hi
  · obtain ⟨b, off, q1, q2⟩ := hr.2.2 i hi
    cases q1
    refine ⟨g, rfl, fun j hj => ⟨?_, frozen_of_row w g _ cur e h2⟩, h1, by simp [ob, show ¬ cap = 0 by omega]⟩
    have := q2 j hj
    rwa [Nat.zero_add] at this
end

section
variable {P : Program} {α : Type} {f : α → List Value} {sz : Nat}
/-- append of whatever yields the elements news. -/
theorem own_appendS (L : Lies f sz) (w : World) (t tx ty e : TypeId) (z : Value) (by' base : Nat) (ht : P.underlying t = some (.slice e)) (hi : (P.info? e).map (fun i => (i.zero, i.size, i.bytes)) = some (some z, sz, by')) (hz : z.cells.size = sz)
    (ad : Option Addr) (cap : Nat) (l news : List α) (x : Value) (m : Nat) (hm : m = news.length) (ho : OwnS f sz w base e ad cap l) (hs : Src P sz tx x m (news.flatMap f) w) (hb : (l.length + m) * by' ≤ 140737488355328) (hn : l.length + m ≤ 9223372036854775807) (hbase : base ≤ w.heap.size) :
    ∃ ad' cap' w', (Builtin.append_ #[t, tx] ty #[.slice ad l.length cap, x]).run P w = .ok (.slice ad' (l.length + m) cap') w' ∧ OwnS f sz w' base e ad' cap' (l ++ news) ∧ Kp (ob ad cap) w w' ∧ (∀ b, b ∈ ob ad' cap' → b ∈ ob ad cap ∨ w.heap.size ≤ b) ∧ (ad' = none → ad = none ∧ m = 0) := by
  obtain ⟨i, h1, h2, h3, h4⟩ := info_parts hi
  subst hm
  have hfl := flat_length L.len news
  by_cases hroom : l.length + news.length ≤ cap
  · rcases ho with ⟨rfl, rfl⟩ | ⟨g, cur, rfl, g1, g2, g3, g4, g5, g6⟩
    · obtain rfl : news = [] := List.eq_nil_of_length_eq_zero (by simpa using hroom)
      refine ⟨ad, 0, w, ?_, .inl ⟨rfl, rfl⟩, Kp.refl _ _, fun b hb => .inl hb, fun h => ⟨h, rfl⟩⟩
      have hcl : (Builtin.firstCells sz 0 x).run P w = .ok #[] w := hs.cells
      cases ad <;> rcases hs.kind with ⟨e', hk⟩ | hk <;> simp [Builtin.append_, run_underlying ht, run_underlying hk, sizeOf, typeInfo, h1, hs.len, h3, hcl, storeCells]
    · have hle : l.length * sz + news.length * sz ≤ cap * sz := by rw [← Nat.add_mul]; exact Nat.mul_le_mul_right _ hroom
      have hc : ∀ j, j < (news.flatMap f).length → (w.cell? ⟨g, 0 + l.length * i.size + j, none⟩).isSome = true := by
        intro j hj
        rw [cell_of_row w g _ cur e _ g2]
        rw [hfl] at hj
        rw [h3, Array.getElem?_eq_getElem (by rw [g3]; omega)]; rfl
      have := run_append_room_src (P := P) w t tx ty e i ht h1 g 0 l.length cap x news.length (news.flatMap f) (by rw [h3]; exact hs) hroom hc (fun j _ => frozen_of_row w g _ cur e g2)
      rw [h3, Nat.zero_add] at this
      obtain ⟨k1, k2, k3⟩ := setCells_eq g e (news.flatMap f) (l.length * sz) cur w g2 (by rw [hfl, g3]; omega)
      refine ⟨_, _, _, this, .inr ⟨g, _, rfl, g1, k1, ?_, by simpa using hroom, g5, ?_⟩, ?_, fun b hb => .inl hb, fun h => by cases h⟩
      · simp only [List.size_toArray, List.length_append, List.length_take, List.length_drop, Array.length_toList, hfl, g3]; omega
      · rw [g6]; simp only [List.flatMap_append]; exact List.take_left' (by rw [List.length_append, flat_length L.len, hfl, List.length_append, Nat.add_mul])
      · by_cases h0 : cap = 0
        · have e1 : news = [] := List.eq_nil_of_length_eq_zero (by omega)
          subst e1
          simpa [World.setCells] using Kp.refl _ w
        · simpa [ob, h0] using k2
  · have hold : (Builtin.firstCells i.size l.length (.slice ad l.length cap)).run P w.drew = .ok (l.flatMap f).toArray w.drew := by
      have hrd := ho.rd L
      rw [h3]
      rcases ho with ⟨rfl, rfl⟩ | ⟨g, cur, rfl, g1, g2, g3, g4, g5, g6⟩
      · cases ad with
        | none => exact run_firstCells_none w.drew sz _ _ _
        | some a => exact run_firstCells_some w.drew sz 0 _ _ _ [] (by simp) (by simp)
      · refine run_firstCells_some w.drew sz l.length _ _ _ _ (by rw [flat_length L.len]) (fun j u hj => ?_)
        rw [Addr.add_lit, Nat.zero_add]
        show w.cell? _ = _
        rw [cell_of_row w g _ cur e _ g2]
        have hjl : j < l.length * sz := by rw [← flat_length L.len l]; exact (List.getElem?_eq_some_iff.1 hj).1
        rw [← g6, List.getElem?_take, if_pos hjl] at hj
        simpa using hj
    have hfit : Builtin.nextslicecap (l.length + news.length) cap * i.bytes ≤ 281474976710656 := by
      rw [h4]; exact growslice_fits (by omega) hb
    have := run_append_grow_src (P := P) w t tx ty e i z ht h1 h2 ad l.length cap (l.flatMap f) hold x news.length (news.flatMap f) (by rw [h3]; exact hs) (by omega) (by omega) hfit
    have hge := grownCap_ge w (l.length + news.length) cap e
    have hle := grownCap_le_maxLen w (l.length + news.length) cap e (by unfold maxLen; omega)
    refine ⟨_, _, _, this, .inr ⟨w.heap.size, _, rfl, hbase, heap_alloc_at (by simp), ?_, by simpa using hge, ?_, ?_⟩, ((Kp.refl _ w).drew.alloc _), ?_, fun h => by cases h⟩
    · have e1 : (l.length + news.length) * sz + (grownCap w (l.length + news.length) cap e - (l.length + news.length)) * sz = grownCap w (l.length + news.length) cap e * sz := by
        rw [← Nat.add_mul]; congr 1; omega
      simp only [Array.size_append, List.size_toArray, List.length_append, flat_length L.len, hfl, size_zeroCells, hz]
      rw [← e1, Nat.add_mul]
    · unfold maxLen at hle; omega
    · simp only [Array.toList_append, List.flatMap_append]; exact List.take_left' (by rw [List.length_append, flat_length L.len, hfl, List.length_append, Nat.add_mul])
    · intro b hb
      unfold ob at hb
      split at hb
      · simp at hb
      · simp at hb; exact .inr (by omega)

end

section
variable {P : Program} {α : Type} {f : α → List Value} {sz : Nat}
/-- One new element, in a block of its own. -/
theorem src_oneS (L : Lies f sz) {w : World} {b : Nat} {x : α} {tx e' te : TypeId} {fr : Nat × Nat} (hk : P.underlying tx = some (.slice e')) (h : w.heap[b]? = some (.cells (f x).toArray te fr)) :
    Src P sz tx (.slice (some ⟨b, 0, none⟩) 1 1) 1 ([x].flatMap f) w :=
  Src.ofSlice w hk ⟨b, 0, none⟩ 1 1 _ (by simp [L.len]) (fun j u hj => by
    rw [Addr.add_lit, Nat.zero_add, cell_of_row w b j _ _ _ h]
    simpa using hj) (by simpa using L.one x)
/-- What an append takes from a slice that reads so. -/
theorem src_rdS (L : Lies f sz) {w : World} {ad : Option Addr} {cap : Nat} {l : List α} (h : RdS f sz w ad cap l) {tx e' : TypeId} (hk : P.underlying tx = some (.slice e')) :
    Src P sz tx (.slice ad l.length cap) l.length (l.flatMap f) w := by
  cases ad with
  | none =>
    have : l = [] := by
      cases l with
      | nil => rfl
      | cons x r => obtain ⟨b, off, h1, -⟩ := h.2.2 0 (by simp); cases h1
    subst this
    exact Src.ofNil w hk cap
  | some a =>
    refine Src.ofSlice w hk a l.length cap _ (by rw [flat_length L.len]) (fun j u hj => ?_) (fun v hv => by obtain ⟨x, -, hx⟩ := List.mem_flatMap.1 hv; exact L.one x v hx)
    have hjl : j < l.length * sz := by rw [← flat_length L.len l]; exact (List.getElem?_eq_some_iff.1 hj).1
    have hi : j / sz < l.length := Nat.div_lt_of_lt_mul (by rw [Nat.mul_comm]; exact hjl)
    have hjm : j % sz < sz := Nat.mod_lt _ L.pos
    have hdm : j / sz * sz + j % sz = j := by rw [Nat.mul_comm]; exact Nat.div_add_mod j sz
    obtain ⟨b, off, hab, hc⟩ := h.2.2 (j / sz) hi
    cases hab
    have h1 := hc (j % sz) hjm
    have h2 := flat_get L.len l (j / sz) (j % sz) hi hjm
    rw [hdm, hj] at h2
    rw [← h2, show off + j / sz * sz + j % sz = off + j by omega] at h1
    rw [Addr.add_lit]; exact h1
end

/-- A slice of the call's own. -/
def sl {α : Type} (f : α → List Value) (sz : Nat) (e : TypeId) (ad : Option Addr) (cap : Nat) (l : List α) : RC :=
  ⟨ob ad cap, fun w => OwnS f sz w 0 e ad cap l, fun w w' h ha => by
    rcases ha with h0 | ⟨g, cur, rfl, h1, h2, h3, h4, h5, h6⟩
    · exact .inl h0
    · by_cases h0 : cap = 0
      · subst h0
        have : l = [] := List.eq_nil_of_length_eq_zero (by omega)
        exact .inl ⟨rfl, this⟩
      · exact .inr ⟨g, cur, rfl, h1, by rw [h g (by simp [ob, h0])]; exact h2, h3, h4, h5, h6⟩⟩
/-- A slice that is read. -/
def Rs {α : Type} (f : α → List Value) (sz : Nat) (ad : Option Addr) (cap : Nat) (l : List α) (w : World) : Prop := RdS f sz w ad cap l
end
end Go.Proofs.YtimemehaccgmmaaGreatDoor
