/-
  Parts of the walks and their plain laws (E13 E14). No condition.
-/
import Derived.Test.YtimemehaccgmmaaGreatDoorM06
namespace Go.Proofs.YtimemehaccgmmaaGreatDoor
open Go.RowKit
set_option maxRecDepth 100000
set_option linter.unusedSimpArgs false
set_option linter.unusedVariables false
noncomputable section
section
variable {P : Program} {n : Fr} {s : List KI} {L : Env} {C : World → Prop} {Q : Exit → Act → World → Prop} {J : List (World → Prop)} {H : List RC}
variable {ops : Array Oper} {t : Nat} {D : List Vq} {E : List Nat}
/-- What an operation calls, with what. -/
def clo (L : Env) (o : Op) : Option (FuncId × List Value) := match o with | .call c => cle L c | _ => none
def CK (P : Program) (f : FuncId) (args : List Value) (C : World → Prop) (R : Value → (World → Prop) → Prop) : Prop :=
  ∃ (X : Type) (v : X → Value) (p : X → Prop) (C' : X → World → Prop), Tr P f args C v p C' ∧ ∀ x, p x → R (v x) (C' x)
theorem oClo {o : Oper} {f : FuncId} {args : List Value} {X : Type} {v : X → Value} {p : X → Prop} {C' : X → World → Prop} (hc : clo L o.op = some (f, args)) (ht : Tr P f args C v p C') : OS P o L C v p C' := by
  unfold clo at hc
  split at hc
  · rename_i c e; exact oCl e hc ht
  · cases hc
theorem kCl {o : Oper} {l : List Oper} {d : Nat} {f : FuncId} {args : List Value} (hd : o.dst = some d) (hn : Nat.blt d n.1 = true) (hg : gOk o ops L = some true) (hc : clo L o.op = some (f, args)) (k : CK P f args C (fun u C' => HK P n (.ops ops l :: s) ((d, u) :: L) C' Q)) : HK P n (.ops ops (o :: l) :: s) L C Q := by
  obtain ⟨X, v, p, C', ht, k⟩ := k
  exact hs hg hd hn (oClo hc ht) k
theorem kCl0 {o : Oper} {l : List Oper} {f : FuncId} {args : List Value} (hd : o.dst = none) (hg : gOk o ops L = some true) (hc : clo L o.op = some (f, args)) (k : CK P f args C (fun _ C' => HK P n (.ops ops l :: s) L C' Q)) : HK P n (.ops ops (o :: l) :: s) L C Q := by
  obtain ⟨X, v, p, C', ht, k⟩ := k
  exact hs0 hg hd (oClo hc ht) k
theorem kDCl {e : Nat} {o : Oper} {f : FuncId} {args : List Value} (hc : clo L o.op = some (f, args)) (honly : onlyM D E [e] nums ops.toList = true) (hdo : dOk n o.dst = true) (hg : gOk o ops L = some true) (hsel : selB o.op = false)
    (k : CK P f args C (fun u C' => (∀ x : Unit, True → ∀ w, C' w → allF (deps o) D w) ∧ DS P n ops t s D (e :: E) (bind1 o.dst u L) C' Q)) : DSq P n ops t s D E L C Q e o := by
  obtain ⟨X, v, p, C', ht, k⟩ := k
  exact qC (oClo hc ht) honly hdo hg hsel (fun x hx => (k x hx).1 () trivial) fun x hx => (k x hx).2
theorem ca {f : FuncId} {args : List Value} {R : Value → (World → Prop) → Prop} {X : Type} {v : X → Value} {p : X → Prop} {C' : X → World → Prop} (ht : Tr P f args C v p C') (k : ∀ x, p x → R (v x) (C' x)) : CK P f args C R := ⟨X, v, p, C', ht, k⟩
theorem af {X : Type} {p : X → Prop} {C : X → World → Prop} {ds : List Nat} (h : ∀ x, p x → ∀ w, C x w → allF ds D w := by intro x hx w h; first | trivial | (repeat' (first | exact trivial | exact h.at (k := 0) rfl | exact h.at (k := 1) rfl | exact h.at (k := 2) rfl | exact h.at (k := 3) rfl | exact h.at (k := 4) rfl | exact h.at (k := 5) rfl | exact h.at (k := 6) rfl | exact h.at (k := 7) rfl | exact je0 _ h.js | exact je1 _ h.js | exact je2 _ h.js | exact je3 _ h.js | exact je4 _ h.js | exact je5 _ h.js | exact je6 _ h.js | exact je7 _ h.js  | refine And.intro ?_ ?_))) : ∀ x, p x → ∀ w, C x w → allF ds D w := h
theorem wu8 (n : Int) : IntKind.u8.wrap n = n % 256 := rfl
theorem wu16 (n : Int) : IntKind.u16.wrap n = n % 65536 := rfl
theorem wu32 (n : Int) : IntKind.u32.wrap n = n % 4294967296 := rfl
theorem wu64 (n : Int) : IntKind.u64.wrap n = n % 18446744073709551616 := rfl
theorem om {a b : Nat} (h : a < b := by first | omega | (simp <;> omega)) : a < b := h
theorem ln {a b : Nat} (h : a = b := by first | rfl | omega | (simp <;> omega)) : a = b := h
theorem go {G R : Prop} (k : G) (h : Hold G → R := by
  intro zk
  first | refine adv_sound 400 [] rfl ?_ | refine dA rfl ?_ | refine And.intro af (dA rfl ?_)
  repeat (first
    | (refine kC ?_; first
      | refine aLt rfl rfl ?_
      | refine aLf rfl rfl ?_
      | refine aT rfl (by omega) rfl ?_
      | refine aF rfl (by omega) rfl ?_)
    | (refine kG rfl ?_; first
      | refine gA rfl rfl ?_
      | refine gT rfl (by omega) (gA rfl rfl ?_)
      | refine gF rfl (by omega) (gA rfl rfl ?_))
    | (refine kO 1 rfl ?_; first
      | refine hA rfl rfl rfl (oLd (k := 0) rfl rfl rfl rfl) rfl ?_
      | refine hA rfl rfl rfl (oLd (k := 1) rfl rfl rfl rfl) rfl ?_
      | refine hA rfl rfl rfl (oLd (k := 2) rfl rfl rfl rfl) rfl ?_
      | refine hA rfl rfl rfl (oLd (k := 3) rfl rfl rfl rfl) rfl ?_
      | refine hA rfl rfl rfl (oLd (k := 4) rfl rfl rfl rfl) rfl ?_
      | refine hA rfl rfl rfl (oLd (k := 5) rfl rfl rfl rfl) rfl ?_
      | refine hA rfl rfl rfl (oLdJ rfl rfl je0 rfl) rfl ?_
      | refine hA rfl rfl rfl (oLdJ rfl rfl je1 rfl) rfl ?_
      | refine hA rfl rfl rfl (oLdJ rfl rfl je2 rfl) rfl ?_
      | refine hA rfl rfl rfl (oLdJ rfl rfl je3 rfl) rfl ?_
      | refine hA rfl rfl rfl (oLdJ rfl rfl je4 rfl) rfl ?_
      | refine hA rfl rfl rfl (oLdJ rfl rfl je5 rfl) rfl ?_
      | refine hA rfl rfl rfl (oLe rfl rfl je0 (fun _ => rfl) om rfl) rfl ?_
      | refine hA rfl rfl rfl (oLe rfl rfl je1 (fun _ => rfl) om rfl) rfl ?_
      | refine hA rfl rfl rfl (oLe rfl rfl je2 (fun _ => rfl) om rfl) rfl ?_
      | refine hA rfl rfl rfl (oLe rfl rfl je3 (fun _ => rfl) om rfl) rfl ?_
      | refine hA rfl rfl rfl (oLe rfl rfl je4 (fun _ => rfl) om rfl) rfl ?_
      | refine hA rfl rfl rfl (oLe rfl rfl je5 (fun _ => rfl) om rfl) rfl ?_
      | refine hA rfl rfl rfl (oLf rfl rfl je0 (fun _ => rfl) om rfl) rfl ?_
      | refine hA rfl rfl rfl (oLf rfl rfl je1 (fun _ => rfl) om rfl) rfl ?_
      | refine hA rfl rfl rfl (oLf rfl rfl je2 (fun _ => rfl) om rfl) rfl ?_
      | refine hA rfl rfl rfl (oLf rfl rfl je3 (fun _ => rfl) om rfl) rfl ?_
      | refine hA rfl rfl rfl (oLf rfl rfl je4 (fun _ => rfl) om rfl) rfl ?_
      | refine hA rfl rfl rfl (oLf rfl rfl je5 (fun _ => rfl) om rfl) rfl ?_
      | refine hA rfl rfl rfl (oLeS (k := 0) rfl rfl rfl om rfl) rfl ?_
      | refine hA rfl rfl rfl (oLeS (k := 1) rfl rfl rfl om rfl) rfl ?_
      | refine hA rfl rfl rfl (oLeS (k := 2) rfl rfl rfl om rfl) rfl ?_
      | refine hA rfl rfl rfl (oLeS (k := 3) rfl rfl rfl om rfl) rfl ?_
      | refine hA rfl rfl rfl (oLfS (k := 0) rfl rfl rfl om rfl) rfl ?_
      | refine hA rfl rfl rfl (oLfS (k := 1) rfl rfl rfl om rfl) rfl ?_
      | refine hA rfl rfl rfl (oLfS (k := 2) rfl rfl rfl om rfl) rfl ?_
      | refine hA rfl rfl rfl (oLfS (k := 3) rfl rfl rfl om rfl) rfl ?_)
    | (refine kO 4 rfl ?_; first
      | refine hA rfl rfl rfl (oWr rfl (IntWalk.i64_in _ (by omega))) rfl ?_
      | refine hA rfl rfl rfl (oWr rfl (IntWalk.u64_in _ (by omega))) rfl ?_
      | refine hA rfl rfl rfl (oWr rfl (IntWalk.u8_in _ (by omega))) rfl ?_
      | refine hA rfl rfl rfl (oWr rfl (IntWalk.u16_in _ (by omega))) rfl ?_
      | refine hA rfl rfl rfl (oWr rfl (IntWalk.u32_in _ (by omega))) rfl ?_
      | refine hA rfl rfl rfl (oWr rfl (wu64 _)) rfl ?_
      | refine hA rfl rfl rfl (oWr rfl (wu8 _)) rfl ?_
      | refine hA rfl rfl rfl (oWr rfl (wu16 _)) rfl ?_
      | refine hA rfl rfl rfl (oWr rfl (wu32 _)) rfl ?_
      | refine hA rfl rfl rfl (oWr rfl rfl) rfl ?_
      | refine hA rfl rfl rfl ((qCs rfl rfl rfl ln).os (fun _ h => je0 _ h.js)) rfl ?_
      | refine hA rfl rfl rfl ((qCs rfl rfl rfl ln).os (fun _ h => je1 _ h.js)) rfl ?_
      | refine hA rfl rfl rfl ((qCs rfl rfl rfl ln).os (fun _ h => je2 _ h.js)) rfl ?_
      | refine hA rfl rfl rfl ((qCs rfl rfl rfl ln).os (fun _ h => je3 _ h.js)) rfl ?_
      | refine hA rfl rfl rfl ((qCs rfl rfl rfl ln).os (fun _ h => je4 _ h.js)) rfl ?_
      | refine hA rfl rfl rfl ((qCs rfl rfl rfl ln).os (fun _ h => je5 _ h.js)) rfl ?_
      | refine hA rfl rfl rfl ((qCsS rfl rfl rfl ln).os (fun _ h => h.at (k := 0) rfl)) rfl ?_
      | refine hA rfl rfl rfl ((qCsS rfl rfl rfl ln).os (fun _ h => h.at (k := 1) rfl)) rfl ?_
      | refine hA rfl rfl rfl ((qCsS rfl rfl rfl ln).os (fun _ h => h.at (k := 2) rfl)) rfl ?_
      | refine hA rfl rfl rfl ((qCsS rfl rfl rfl ln).os (fun _ h => h.at (k := 3) rfl)) rfl ?_
      | refine hA rfl rfl rfl ((qSa rfl (by first | omega | (simp <;> omega))).os (fun _ _ => trivial)) rfl ?_)
    | (refine kO 2 rfl ?_; first
      | refine hA rfl rfl rfl (oIx rfl rfl rfl je0 rfl rfl om) rfl ?_
      | refine hA rfl rfl rfl (oIx rfl rfl rfl je1 rfl rfl om) rfl ?_
      | refine hA rfl rfl rfl (oIx rfl rfl rfl je2 rfl rfl om) rfl ?_
      | refine hA rfl rfl rfl (oIx rfl rfl rfl je3 rfl rfl om) rfl ?_
      | refine hA rfl rfl rfl (oIx rfl rfl rfl je4 rfl rfl om) rfl ?_
      | refine hA rfl rfl rfl (oIx rfl rfl rfl je5 rfl rfl om) rfl ?_
      | refine hA rfl rfl rfl (oIxS (k := 0) rfl rfl rfl rfl rfl ln om) rfl ?_
      | refine hA rfl rfl rfl (oIxS (k := 1) rfl rfl rfl rfl rfl ln om) rfl ?_
      | refine hA rfl rfl rfl (oIxS (k := 2) rfl rfl rfl rfl rfl ln om) rfl ?_
      | refine hA rfl rfl rfl (oIxS (k := 3) rfl rfl rfl rfl rfl ln om) rfl ?_)
    | (refine kO 3 rfl ?_; first
      | refine hA0 rfl rfl (oSt (k := 0) rfl rfl rfl rfl rfl rfl rfl rfl) rfl ?_
      | refine hA0 rfl rfl (oSt (k := 1) rfl rfl rfl rfl rfl rfl rfl rfl) rfl ?_
      | refine hA0 rfl rfl (oSt (k := 2) rfl rfl rfl rfl rfl rfl rfl rfl) rfl ?_
      | refine hA0 rfl rfl (oSt (k := 3) rfl rfl rfl rfl rfl rfl rfl rfl) rfl ?_
      | refine hA0 rfl rfl (oSt (k := 4) rfl rfl rfl rfl rfl rfl rfl rfl) rfl ?_
      | refine hA0 rfl rfl (oSt (k := 5) rfl rfl rfl rfl rfl rfl rfl rfl) rfl ?_
      | refine hA0 rfl rfl (oSe0 (k := 0) rfl rfl rfl rfl om rfl rfl rfl rfl) rfl ?_
      | refine hA0 rfl rfl (oSe0 (k := 1) rfl rfl rfl rfl om rfl rfl rfl rfl) rfl ?_
      | refine hA0 rfl rfl (oSe0 (k := 2) rfl rfl rfl rfl om rfl rfl rfl rfl) rfl ?_
      | refine hA0 rfl rfl (oSe0 (k := 3) rfl rfl rfl rfl om rfl rfl rfl rfl) rfl ?_
      | refine hA0 rfl rfl (oSf (k := 0) rfl rfl rfl rfl om rfl rfl rfl rfl) rfl ?_
      | refine hA0 rfl rfl (oSf (k := 1) rfl rfl rfl rfl om rfl rfl rfl rfl) rfl ?_
      | refine hA0 rfl rfl (oSf (k := 2) rfl rfl rfl rfl om rfl rfl rfl rfl) rfl ?_
      | refine hA0 rfl rfl (oSf (k := 3) rfl rfl rfl rfl om rfl rfl rfl rfl) rfl ?_)
    | (refine kO 5 rfl ?_; first
      | refine hA rfl rfl rfl (oPk rfl rfl rfl) rfl ?_
      | refine gT rfl (by omega) (hA rfl rfl rfl (oPk rfl rfl rfl) rfl ?_)
      | refine gF rfl (by omega) (hA rfl rfl rfl (oPk rfl rfl rfl) rfl ?_))
    | (refine kO 8 rfl ?_; first
      | refine hA rfl rfl rfl (oRem rfl (by omega)) rfl ?_
      | refine hA rfl rfl rfl (oQuo rfl (by omega) (IntWalk.i64_in _ (by omega))) rfl ?_
      | refine hA rfl rfl rfl (oQuo rfl (by omega) (IntWalk.u64_in _ (by omega))) rfl ?_
      | refine hA rfl rfl rfl (oQuo rfl (by omega) (IntWalk.u8_in _ (by omega))) rfl ?_
      | refine hA rfl rfl rfl (oQuo rfl (by omega) (IntWalk.u16_in _ (by omega))) rfl ?_
      | refine hA rfl rfl rfl (oQuo rfl (by omega) (IntWalk.u32_in _ (by omega))) rfl ?_)
    | (refine kO 7 rfl ?_; first
      | refine hA rfl rfl rfl (oShr rfl rfl) rfl ?_
      | refine hA rfl rfl rfl (oShl rfl rfl) rfl ?_)
    | (refine kO 12 rfl ?_; first
      | refine hA rfl rfl rfl (oIa rfl rfl rfl rfl rfl) rfl ?_
      | refine hA rfl rfl rfl (oIs rfl rfl rfl (by omega)) rfl ?_)
    | (refine kO 10 rfl ?_; first
      | refine hA rfl rfl rfl ((qSs rfl rfl rfl rfl rfl (by first | omega | (simp <;> omega))).os (fun _ _ => trivial)) rfl ?_)
    | refine dB rfl (by kernel_rfl) (by kernel_rfl) (dA rfl ?_)
    | (refine kO 6 rfl ?_; (first
      | refine hx rfl rfl rfl (oAl rfl rfl rfl rfl) ?_
      | refine hx rfl rfl rfl (oBx rfl rfl rfl) ?_
      | refine hx rfl rfl rfl (oBs rfl rfl rfl) ?_); intro zb; refine adv_sound 400 [] rfl ?_)
    | (refine kO 11 rfl ?_; (first
      | refine hx rfl rfl rfl (oAp1 (k := 0) rfl rfl rfl ln rfl rfl rfl rfl om (fun _ => rfl)) ?_
      | refine hx rfl rfl rfl (oAp1 (k := 1) rfl rfl rfl ln rfl rfl rfl rfl om (fun _ => rfl)) ?_
      | refine hx rfl rfl rfl (oAp1 (k := 2) rfl rfl rfl ln rfl rfl rfl rfl om (fun _ => rfl)) ?_
      | refine hx rfl rfl rfl (oAp1 (k := 3) rfl rfl rfl ln rfl rfl rfl rfl om (fun _ => rfl)) ?_
      | refine hx rfl rfl rfl (oApS (k := 0) rfl rfl ln rfl rfl rfl rfl (by first | omega | (simp <;> omega)) (fun _ => rfl)) ?_
      | refine hx rfl rfl rfl (oApS (k := 1) rfl rfl ln rfl rfl rfl rfl (by first | omega | (simp <;> omega)) (fun _ => rfl)) ?_
      | refine hx rfl rfl rfl (oApS (k := 2) rfl rfl ln rfl rfl rfl rfl (by first | omega | (simp <;> omega)) (fun _ => rfl)) ?_
      | refine hx rfl rfl rfl (oApS (k := 3) rfl rfl ln rfl rfl rfl rfl (by first | omega | (simp <;> omega)) (fun _ => rfl)) ?_); intro zb; refine adv_sound 400 [] rfl ?_)
    | (refine kO 9 rfl ?_; (first
      | refine hx rfl rfl rfl (oMk rfl rfl rfl rfl rfl rfl om) ?_); intro zb; refine adv_sound 400 [] rfl ?_)
    | (refine kO 10 rfl ?_; (first
      | refine hx rfl rfl rfl (oSc rfl rfl je0 rfl rfl rfl rfl (by omega)) ?_
      | refine hx rfl rfl rfl (oSc rfl rfl je1 rfl rfl rfl rfl (by omega)) ?_
      | refine hx rfl rfl rfl (oSc rfl rfl je2 rfl rfl rfl rfl (by omega)) ?_
      | refine hx rfl rfl rfl (oSc rfl rfl je3 rfl rfl rfl rfl (by omega)) ?_
      | refine hx rfl rfl rfl (oSc rfl rfl je4 rfl rfl rfl rfl (by omega)) ?_
      | refine hx rfl rfl rfl (oSc rfl rfl je5 rfl rfl rfl rfl (by omega)) ?_); intro zb; refine adv_sound 400 [] rfl ?_)
    | (refine kO 13 rfl ?_; first
      | refine kCl rfl rfl rfl rfl ?_
      | refine kCl0 rfl rfl rfl ?_)
    | (refine kD ?_; first
      | (refine kq (kB 1) rfl ?_; first
      | refine qN (qLd rfl rfl rfl) (fun _ h => h.at (k := 0) rfl) rfl rfl rfl (dA rfl ?_)
      | refine qN (qLd rfl rfl rfl) (fun _ h => h.at (k := 1) rfl) rfl rfl rfl (dA rfl ?_)
      | refine qN (qLd rfl rfl rfl) (fun _ h => h.at (k := 2) rfl) rfl rfl rfl (dA rfl ?_)
      | refine qN (qLd rfl rfl rfl) (fun _ h => h.at (k := 3) rfl) rfl rfl rfl (dA rfl ?_)
      | refine qN (qLd rfl rfl rfl) (fun _ h => h.at (k := 4) rfl) rfl rfl rfl (dA rfl ?_)
      | refine qN (qLd rfl rfl rfl) (fun _ h => h.at (k := 5) rfl) rfl rfl rfl (dA rfl ?_)
      | refine qN (qLd rfl rfl rfl) (fun _ h => je0 _ h.js) rfl rfl rfl (dA rfl ?_)
      | refine qN (qLd rfl rfl rfl) (fun _ h => je1 _ h.js) rfl rfl rfl (dA rfl ?_)
      | refine qN (qLd rfl rfl rfl) (fun _ h => je2 _ h.js) rfl rfl rfl (dA rfl ?_)
      | refine qN (qLd rfl rfl rfl) (fun _ h => je3 _ h.js) rfl rfl rfl (dA rfl ?_)
      | refine qN (qLd rfl rfl rfl) (fun _ h => je4 _ h.js) rfl rfl rfl (dA rfl ?_)
      | refine qN (qLd rfl rfl rfl) (fun _ h => je5 _ h.js) rfl rfl rfl (dA rfl ?_)
      | refine qN (qLe0 rfl rfl om rfl) (fun _ h => je0 _ h.js) rfl rfl rfl (dA rfl ?_)
      | refine qN (qLe0 rfl rfl om rfl) (fun _ h => je1 _ h.js) rfl rfl rfl (dA rfl ?_)
      | refine qN (qLe0 rfl rfl om rfl) (fun _ h => je2 _ h.js) rfl rfl rfl (dA rfl ?_)
      | refine qN (qLe0 rfl rfl om rfl) (fun _ h => je3 _ h.js) rfl rfl rfl (dA rfl ?_)
      | refine qN (qLe0 rfl rfl om rfl) (fun _ h => je4 _ h.js) rfl rfl rfl (dA rfl ?_)
      | refine qN (qLe0 rfl rfl om rfl) (fun _ h => je5 _ h.js) rfl rfl rfl (dA rfl ?_)
      | refine qN (qLf rfl rfl om rfl) (fun _ h => je0 _ h.js) rfl rfl rfl (dA rfl ?_)
      | refine qN (qLf rfl rfl om rfl) (fun _ h => je1 _ h.js) rfl rfl rfl (dA rfl ?_)
      | refine qN (qLf rfl rfl om rfl) (fun _ h => je2 _ h.js) rfl rfl rfl (dA rfl ?_)
      | refine qN (qLf rfl rfl om rfl) (fun _ h => je3 _ h.js) rfl rfl rfl (dA rfl ?_)
      | refine qN (qLf rfl rfl om rfl) (fun _ h => je4 _ h.js) rfl rfl rfl (dA rfl ?_)
      | refine qN (qLf rfl rfl om rfl) (fun _ h => je5 _ h.js) rfl rfl rfl (dA rfl ?_)
      | refine qN (qLs rfl rfl om rfl) (fun _ h => h.at (k := 0) rfl) rfl rfl rfl (dA rfl ?_)
      | refine qN (qLs rfl rfl om rfl) (fun _ h => h.at (k := 1) rfl) rfl rfl rfl (dA rfl ?_)
      | refine qN (qLs rfl rfl om rfl) (fun _ h => h.at (k := 2) rfl) rfl rfl rfl (dA rfl ?_)
      | refine qN (qLs rfl rfl om rfl) (fun _ h => h.at (k := 3) rfl) rfl rfl rfl (dA rfl ?_)
      | refine qN (qLfs rfl rfl om rfl) (fun _ h => h.at (k := 0) rfl) rfl rfl rfl (dA rfl ?_)
      | refine qN (qLfs rfl rfl om rfl) (fun _ h => h.at (k := 1) rfl) rfl rfl rfl (dA rfl ?_)
      | refine qN (qLfs rfl rfl om rfl) (fun _ h => h.at (k := 2) rfl) rfl rfl rfl (dA rfl ?_)
      | refine qN (qLfs rfl rfl om rfl) (fun _ h => h.at (k := 3) rfl) rfl rfl rfl (dA rfl ?_))
      | (refine kq (kB 2) rfl ?_; first
      | refine qN (qIx rfl rfl rfl rfl rfl om) (fun _ h => je0 _ h.js) rfl rfl rfl (dA rfl ?_)
      | refine qN (qIx rfl rfl rfl rfl rfl om) (fun _ h => je1 _ h.js) rfl rfl rfl (dA rfl ?_)
      | refine qN (qIx rfl rfl rfl rfl rfl om) (fun _ h => je2 _ h.js) rfl rfl rfl (dA rfl ?_)
      | refine qN (qIx rfl rfl rfl rfl rfl om) (fun _ h => je3 _ h.js) rfl rfl rfl (dA rfl ?_)
      | refine qN (qIx rfl rfl rfl rfl rfl om) (fun _ h => je4 _ h.js) rfl rfl rfl (dA rfl ?_)
      | refine qN (qIx rfl rfl rfl rfl rfl om) (fun _ h => je5 _ h.js) rfl rfl rfl (dA rfl ?_)
      | refine qN (qIxS rfl rfl rfl rfl ln om) (fun _ h => h.at (k := 0) rfl) rfl rfl rfl (dA rfl ?_)
      | refine qN (qIxS rfl rfl rfl rfl ln om) (fun _ h => h.at (k := 1) rfl) rfl rfl rfl (dA rfl ?_)
      | refine qN (qIxS rfl rfl rfl rfl ln om) (fun _ h => h.at (k := 2) rfl) rfl rfl rfl (dA rfl ?_)
      | refine qN (qIxS rfl rfl rfl rfl ln om) (fun _ h => h.at (k := 3) rfl) rfl rfl rfl (dA rfl ?_))
      | (refine kq (kB 4) rfl ?_; first
      | refine qN (qWr rfl rfl (IntWalk.i64_in _ (by omega))) (fun _ _ => trivial) rfl rfl rfl (dA rfl ?_)
      | refine qN (qWr rfl rfl (IntWalk.u64_in _ (by omega))) (fun _ _ => trivial) rfl rfl rfl (dA rfl ?_)
      | refine qN (qWr rfl rfl (IntWalk.u8_in _ (by omega))) (fun _ _ => trivial) rfl rfl rfl (dA rfl ?_)
      | refine qN (qWr rfl rfl (IntWalk.u16_in _ (by omega))) (fun _ _ => trivial) rfl rfl rfl (dA rfl ?_)
      | refine qN (qWr rfl rfl (IntWalk.u32_in _ (by omega))) (fun _ _ => trivial) rfl rfl rfl (dA rfl ?_)
      | refine qN (qWr rfl rfl (wu64 _)) (fun _ _ => trivial) rfl rfl rfl (dA rfl ?_)
      | refine qN (qWr rfl rfl (wu8 _)) (fun _ _ => trivial) rfl rfl rfl (dA rfl ?_)
      | refine qN (qWr rfl rfl (wu16 _)) (fun _ _ => trivial) rfl rfl rfl (dA rfl ?_)
      | refine qN (qWr rfl rfl (wu32 _)) (fun _ _ => trivial) rfl rfl rfl (dA rfl ?_)
      | refine qN (qWr rfl rfl rfl) (fun _ _ => trivial) rfl rfl rfl (dA rfl ?_)
      | refine qN (qCs rfl rfl rfl ln) (fun _ h => je0 _ h.js) rfl rfl rfl (dA rfl ?_)
      | refine qN (qCs rfl rfl rfl ln) (fun _ h => je1 _ h.js) rfl rfl rfl (dA rfl ?_)
      | refine qN (qCs rfl rfl rfl ln) (fun _ h => je2 _ h.js) rfl rfl rfl (dA rfl ?_)
      | refine qN (qCs rfl rfl rfl ln) (fun _ h => je3 _ h.js) rfl rfl rfl (dA rfl ?_)
      | refine qN (qCs rfl rfl rfl ln) (fun _ h => je4 _ h.js) rfl rfl rfl (dA rfl ?_)
      | refine qN (qCs rfl rfl rfl ln) (fun _ h => je5 _ h.js) rfl rfl rfl (dA rfl ?_)
      | refine qN (qCsS rfl rfl rfl ln) (fun _ h => h.at (k := 0) rfl) rfl rfl rfl (dA rfl ?_)
      | refine qN (qCsS rfl rfl rfl ln) (fun _ h => h.at (k := 1) rfl) rfl rfl rfl (dA rfl ?_)
      | refine qN (qCsS rfl rfl rfl ln) (fun _ h => h.at (k := 2) rfl) rfl rfl rfl (dA rfl ?_)
      | refine qN (qCsS rfl rfl rfl ln) (fun _ h => h.at (k := 3) rfl) rfl rfl rfl (dA rfl ?_)
      | refine qN (qSa rfl (by first | omega | (simp <;> omega))) (fun _ _ => trivial) rfl rfl rfl (dA rfl ?_))
      | (refine kq (kB 10) rfl ?_; first
      | refine qN (qSs rfl rfl rfl rfl rfl (by first | omega | (simp <;> omega))) (fun _ _ => trivial) rfl rfl rfl (dA rfl ?_))
      | (refine kq (kB 12) rfl ?_; first
      | refine qN (qIa rfl rfl rfl rfl rfl) (fun _ _ => trivial) rfl rfl rfl (dA rfl ?_))
      | (refine kq (kB 5) rfl ?_; first
      | refine qN (qPk rfl rfl rfl) (fun _ _ => trivial) rfl rfl rfl (dA rfl ?_))
      | (refine kq (kB 8) rfl ?_; first
      | refine qN (qRem rfl rfl (by omega)) (fun _ _ => trivial) rfl rfl rfl (dA rfl ?_)
      | refine qN (qQuo rfl rfl (by omega) (IntWalk.i64_in _ (by omega))) (fun _ _ => trivial) rfl rfl rfl (dA rfl ?_)
      | refine qN (qQuo rfl rfl (by omega) (IntWalk.u64_in _ (by omega))) (fun _ _ => trivial) rfl rfl rfl (dA rfl ?_))
      | (refine kq (kB 7) rfl ?_; first
      | refine qN (qShr rfl rfl rfl) (fun _ _ => trivial) rfl rfl rfl (dA rfl ?_)
      | refine qN (qShl rfl rfl rfl) (fun _ _ => trivial) rfl rfl rfl (dA rfl ?_))
      | (refine kq (kB 3) rfl ?_; first
      | refine qC0 (oSt (k := 0) rfl rfl rfl rfl rfl rfl rfl rfl) rfl rfl rfl rfl af (dA rfl ?_)
      | refine qC0 (oSt (k := 1) rfl rfl rfl rfl rfl rfl rfl rfl) rfl rfl rfl rfl af (dA rfl ?_)
      | refine qC0 (oSt (k := 2) rfl rfl rfl rfl rfl rfl rfl rfl) rfl rfl rfl rfl af (dA rfl ?_)
      | refine qC0 (oSt (k := 3) rfl rfl rfl rfl rfl rfl rfl rfl) rfl rfl rfl rfl af (dA rfl ?_)
      | refine qC0 (oSt (k := 4) rfl rfl rfl rfl rfl rfl rfl rfl) rfl rfl rfl rfl af (dA rfl ?_)
      | refine qC0 (oSt (k := 5) rfl rfl rfl rfl rfl rfl rfl rfl) rfl rfl rfl rfl af (dA rfl ?_)
      | refine qC0 (oSe0 (k := 0) rfl rfl rfl rfl om rfl rfl rfl rfl) rfl rfl rfl rfl af (dA rfl ?_)
      | refine qC0 (oSe0 (k := 1) rfl rfl rfl rfl om rfl rfl rfl rfl) rfl rfl rfl rfl af (dA rfl ?_)
      | refine qC0 (oSe0 (k := 2) rfl rfl rfl rfl om rfl rfl rfl rfl) rfl rfl rfl rfl af (dA rfl ?_)
      | refine qC0 (oSe0 (k := 3) rfl rfl rfl rfl om rfl rfl rfl rfl) rfl rfl rfl rfl af (dA rfl ?_))
      | (refine kq kGd rfl ?_; first
        | refine qPl rfl rfl rfl rfl rfl (dA rfl ?_)
        | refine qSk rfl rfl rfl (dA rfl ?_))
      | (refine kq kGs rfl ?_; refine qSk rfl rfl rfl (dA rfl ?_))
      | (refine kq (kB 6) rfl ?_; (first
        | refine qX (oAl rfl rfl rfl rfl) rfl rfl rfl rfl af ?_
        | refine qX (oBx rfl rfl rfl) rfl rfl rfl rfl af ?_
        | refine qX (oBs rfl rfl rfl) rfl rfl rfl rfl af ?_); intro zb; refine dA rfl ?_)
      | (refine kq (kB 11) rfl ?_; (first
        | refine qX (oAp1 (k := 0) rfl rfl rfl ln rfl rfl rfl rfl om (fun _ => rfl)) rfl rfl rfl rfl af ?_
        | refine qX (oAp1 (k := 1) rfl rfl rfl ln rfl rfl rfl rfl om (fun _ => rfl)) rfl rfl rfl rfl af ?_
        | refine qX (oAp1 (k := 2) rfl rfl rfl ln rfl rfl rfl rfl om (fun _ => rfl)) rfl rfl rfl rfl af ?_
        | refine qX (oAp1 (k := 3) rfl rfl rfl ln rfl rfl rfl rfl om (fun _ => rfl)) rfl rfl rfl rfl af ?_
        | refine qX (oApS (k := 0) rfl rfl ln rfl rfl rfl rfl (by first | omega | (simp <;> omega)) (fun _ => rfl)) rfl rfl rfl rfl af ?_
        | refine qX (oApS (k := 1) rfl rfl ln rfl rfl rfl rfl (by first | omega | (simp <;> omega)) (fun _ => rfl)) rfl rfl rfl rfl af ?_
        | refine qX (oApS (k := 2) rfl rfl ln rfl rfl rfl rfl (by first | omega | (simp <;> omega)) (fun _ => rfl)) rfl rfl rfl rfl af ?_
        | refine qX (oApS (k := 3) rfl rfl ln rfl rfl rfl rfl (by first | omega | (simp <;> omega)) (fun _ => rfl)) rfl rfl rfl rfl af ?_); intro zb; refine dA rfl ?_)
      | (refine kq (kB 9) rfl ?_; (first
        | refine qX (oMk rfl rfl rfl rfl rfl rfl om) rfl rfl rfl rfl af ?_); intro zb; refine dA rfl ?_)
      | (refine kq (kB 10) rfl ?_; (first
        | refine qSc rfl rfl je0 rfl rfl rfl rfl (by first | omega | (simp <;> omega)) rfl rfl rfl ?_
        | refine qSc rfl rfl je1 rfl rfl rfl rfl (by first | omega | (simp <;> omega)) rfl rfl rfl ?_
        | refine qSc rfl rfl je2 rfl rfl rfl rfl (by first | omega | (simp <;> omega)) rfl rfl rfl ?_
        | refine qSc rfl rfl je3 rfl rfl rfl rfl (by first | omega | (simp <;> omega)) rfl rfl rfl ?_
        | refine qSc rfl rfl je4 rfl rfl rfl rfl (by first | omega | (simp <;> omega)) rfl rfl rfl ?_
        | refine qSc rfl rfl je5 rfl rfl rfl rfl (by first | omega | (simp <;> omega)) rfl rfl rfl ?_); intro zb; refine dA rfl ?_)
      | (refine kq (kB 13) rfl ?_; refine kDCl rfl rfl rfl rfl rfl ?_)
      | refine dT rfl (by kernel_rfl) rfl rfl (adv_sound 400 [] rfl ?_)))
  first
    | refine brD rfl ?_
    | refine brN rfl ?_
    | refine brB rfl ?_
    | refine gD rfl ?_
    | refine gN rfl ?_
    | refine gB rfl ?_
    | skip
  repeat (revert zb)
  exact zk.out) : R := h ⟨k⟩
/-- A call, and on. -/
theorem cg {f : FuncId} {args : List Value} {R : Value → (World → Prop) → Prop} {X : Type} {v : X → Value} {p : X → Prop} {C' : X → World → Prop} {G : ∀ x, p x → Prop} (ht : Tr P f args C v p C') (k : ∀ x (h : p x), G x h)
    (h : ∀ x (hp : p x), Hold (G x hp) → R (v x) (C' x) := by intro zx zh zk; exact go zk.out) : CK P f args C R := ca ht fun x hx => h x hx ⟨k x hx⟩
/-- A parting of ways, and on. -/
theorem br {φ ψ : Prop} {R1 R2 : Prop} {G1 : φ → Prop} {G2 : ψ → Prop} (k1 : ∀ h, G1 h) (k2 : ∀ h, G2 h) (h1 : ∀ h, Hold (G1 h) → R1 := by intro zh zk; exact go zk.out) (h2 : ∀ h, Hold (G2 h) → R2 := by intro zh zk; exact go zk.out) : (φ → R1) ∧ (ψ → R2) :=
  ⟨fun h => h1 h ⟨k1 h⟩, fun h => h2 h ⟨k2 h⟩⟩
theorem je8 {a b c d e f g h r : World → Prop} : ∀ w, allJ (a :: b :: c :: d :: e :: f :: g :: h :: r :: J) w → r w := fun _ h => h.2.2.2.2.2.2.2.2.1
theorem je9 {a b c d e f g h i r : World → Prop} : ∀ w, allJ (a :: b :: c :: d :: e :: f :: g :: h :: i :: r :: J) w → r w := fun _ h => h.2.2.2.2.2.2.2.2.2.1
abbrev Ent (J : List (World → Prop)) (R : World → Prop) : Prop := ∀ w, allJ J w → R w
theorem jA {R : World → Prop} (h : Ent J R := by first | assumption | exact je0 | exact je1 | exact je2 | exact je3 | exact je4 | exact je5 | exact je6 | exact je7 | exact je8 | exact je9 ) : Ent J R := h
def frn : List RC → Nat → Option (RC × List RC)
  | [], _ => none
  | r :: H, 0 => some (r, H)
  | a :: H, k + 1 => (match frn H k with | some (r, H') => some (r, a :: H') | none => none)
theorem frn_perm {k : Nat} {r : RC} : ∀ {H H' : List RC} {k : Nat}, frn H k = some (r, H') → H.Perm (r :: H') := by
  intro H
  induction H with
  | nil => intro H' k h; simp [frn] at h
  | cons a H ih =>
    intro H' k h
    cases k with
    | zero => simp [frn] at h; obtain ⟨rfl, rfl⟩ := h; exact .refl _
    | succ k =>
      simp only [frn] at h
      split at h
      · rename_i r' H2 e; cases h; exact ((ih e).cons a).trans (.swap _ _ _)
      · cases h
/-- The k-th of what is held comes first. -/
theorem fr (k : Nat) {r : RC} {H' : List RC} (h : frn H k = some (r, H')) (hk : HK P n s L (Ctx J (r :: H') ) Q) : HK P n s L (Ctx J H) Q :=
  fun a w ha hc => hk a w ha (hc.perm (frn_perm (k := k) h))
theorem addJ {R : World → Prop} (h : ∀ w, allJ J w → R w) (k : HK P n s L (Ctx (R :: J) H) Q) : HK P n s L (Ctx J H) Q :=
  fun a w ha hc => k a w ha (hc.ent fun w j => ⟨h w j, j⟩)
end
end
end Go.Proofs.YtimemehaccgmmaaGreatDoor
namespace Go.Proofs.YtimemehaccgmmaaGreatDoor
open Go.RowKit
set_option maxRecDepth 100000
set_option linter.unusedSimpArgs false
set_option linter.unusedVariables false
noncomputable section
section
variable {P : Program} {n : Fr} {ops : Array Oper} {o : Oper} {l : List Oper} {s s' : List KI} {L L' : Env} {C C' : World → Prop} {Q : Exit → Act → World → Prop} {J : List (World → Prop)} {H H' : List RC}
variable {α : Type} {f : α → List Value} {sz : Nat} {ad ad2 : Option Addr} {cap cap2 : Nat} {xs ys : List α} {e : TypeId}
theorem look_nil (j : Nat) : look [] j = none := rfl
theorem setH_0 (a r : RC) (H : List RC) : setH (a :: H) 0 r = r :: H := rfl
theorem setH_s (a r : RC) (H : List RC) (k : Nat) : setH (a :: H) (k + 1) r = a :: setH H k r := rfl
attribute [simp] look_cons look_nil env0 setH_0 setH_s IntKind.bits
/-- A round's or a part's end. -/
theorem en {X : Type} {p : X → Prop} {I : X → Env} {CI : X → World → Prop} (x : X) (hp : p x := by first | omega | (dsimp only; omega) | (simp <;> omega)) (hc : (I x).map (fun p => look L p.1) = (I x).map (fun p => some p.2) := by first | rfl | simp)
    (hw : ∀ w, C w → CI x w := by intro w h; first | exact h | simpa using h) : HK P n (.cut (Ed n p I CI) :: s) L C Q := ed x hp hc hw
/-- What the facts of worlds tell of no world. -/
theorem pur {φ : Prop} (h : ∀ w, allJ J w → φ) (k : φ → HK P n s L (Ctx J H) Q) : HK P n s L (Ctx J H) Q :=
  fun a w ha hc => k (h w hc.js) a w ha hc
theorem purH {r : RC} {φ : Prop} (h : ∀ w, r.A w → φ) (k : φ → HK P n s L (Ctx J (r :: H)) Q) : HK P n s L (Ctx J (r :: H)) Q :=
  fun a w ha hc => k (h w hc.hs.1) a w ha hc
theorem pre {C : World → Prop} (h : ∀ w, C w → C' w) (k : HK P n s L C' Q) : HK P n s L C Q := fun a w ha hc => k a w ha (h w hc)
theorem frc (k0 : Nat) {R : Value → (World → Prop) → Prop} {F : FuncId} {args : List Value} {r : RC} (h : frn H k0 = some (r, H')) (hk : CK P F args (Ctx J (r :: H')) R) : CK P F args (Ctx J H) R := by
  obtain ⟨X, v, p, C', ht, k⟩ := hk
  exact ⟨X, v, p, C', ⟨fun w hc => ht.go w (hc.perm (frn_perm (k := k0) h)), ht.en⟩, k⟩
theorem prec {F : FuncId} {args : List Value} {R : Value → (World → Prop) → Prop} (h : ∀ w, C w → C' w) (hk : CK P F args C' R) : CK P F args C R := by
  obtain ⟨X, v, p, D, ht, k⟩ := hk
  exact ⟨X, v, p, D, ⟨fun w hc => ht.go w (h w hc), ht.en⟩, k⟩
theorem frd {t : Nat} {D : List Vq} {E : List Nat} (k : Nat) {r : RC} (h : frn H k = some (r, H')) (hk : DS P n ops t s D E L (Ctx J (r :: H')) Q) : DS P n ops t s D E L (Ctx J H) Q := preD (fun _ hc => hc.perm (frn_perm (k := k) h)) hk
/-- What is owned is read from now on. -/
theorem fz [Lf : Lies f sz] (k : HK P n s L (Ctx (Rs f sz ad cap xs :: J) H) Q) : HK P n s L (Ctx J (sl f sz e ad cap xs :: H)) Q :=
  fun a w ha hc => k a w ha hc.fzS
theorem fzp {b : Nat} {t : TypeId} {vs : List Value} (k : HK P n s L (Ctx ((pt b t vs).A :: J) H) Q) : HK P n s L (Ctx J (pt b t vs :: H)) Q :=
  fun a w ha hc => k a w ha hc.fz
theorem Rs.nil {w : World} (h : Rs f sz none cap xs w) : xs = [] := by
  rcases xs with _ | ⟨x, l⟩
  · rfl
  · obtain ⟨b, off, e, -⟩ := h.2.2 0 (by simp); cases e
theorem Rs.nil0 (f : α → List Value) (sz : Nat) (ad : Option Addr) (w : World) : Rs f sz ad 0 [] w := ⟨by simp, by omega, fun i hi => by simp at hi⟩
theorem Rs.le {w : World} (h : Rs f sz ad cap xs w) : xs.length ≤ cap := h.1
theorem fzc [Lf : Lies f sz] {F : FuncId} {args : List Value} {R : Value → (World → Prop) → Prop} (k : CK P F args (Ctx (Rs f sz ad cap xs :: J) H) R) : CK P F args (Ctx J (sl f sz e ad cap xs :: H)) R := prec (fun _ h => h.fzS) k
theorem fzd [Lf : Lies f sz] {t : Nat} {D : List Vq} {E : List Nat} (k : DS P n ops t s D E L (Ctx (Rs f sz ad cap xs :: J) H) Q) : DS P n ops t s D E L (Ctx J (sl f sz e ad cap xs :: H)) Q := preD (fun _ h => h.fzS) k
theorem dr {r : RC} (k : HK P n s L (Ctx J H) Q) : HK P n s L (Ctx J (r :: H)) Q := fun a w ha hc => k a w ha hc.rest
theorem drJ {r : World → Prop} (k : HK P n s L (Ctx J H) Q) : HK P n s L (Ctx (r :: J) H) Q := fun a w ha hc => k a w ha (hc.ent fun _ h => h.2)

def decF : Func → Option (Nat × Code) | { ntmps := n, body := b, .. } => match b with | some c => some (n, c) | none => none
theorem decF_eq {fn : Func} {n : Nat} {c : Code} (h : decF fn = some (n, c)) : fn.ntmps = n ∧ fn.body = some c := by
  obtain ⟨nm, og, tg, ps, rt, nf, m, rs, b, nr, ou, fl, el, ln, me, tn⟩ := fn
  cases b with
  | none => simp [decF] at h
  | some c => simpa [decF] using h
/-- A function's contract: its text is walked. -/
theorem en0 {n : Nat} {F : FuncId} {fn : Func} {c : Code} {args : List Value} {X : Type} {v : X → Value} {p : X → Prop} {C' : X → World → Prop} (hf : P.funcs[F]? = some fn) (hb : decF fn = some (n, c)) (hn : Nat.ble args.length n = true) (hm : (fn.name == "runtime.NumGoroutine") = false)
    (h : HK P (n, []) [.code c] (env0 0 args) C (bodyPost P fn fun e w' => ∃ x, e = .returned (v x) ∧ p x ∧ C' x w')) : Tr P F args C v p C' := by
  obtain ⟨h1, h2⟩ := decF_eq hb
  subst h1
  exact ent hf h2 hn hm h
/-- A slice is laid at the end of the first thing held. -/
theorem apJ [Lf : Lies f sz] {d : Nat} {t tx e' : TypeId} {m m2 : Nat} {z : Value} {by' : Nat} (hJ : Ent J (Rs f sz ad2 cap2 ys)) (hb : xs.length + ys.length ≤ 1000000000)
    (k : ∀ q : Option Addr × Nat, HK P n (.ops ops l :: s) ((d, .slice q.1 (xs ++ ys).length q.2) :: L) (Ctx J (sl f sz e q.1 q.2 (xs ++ ys) :: H)) Q)
    (hg : gOk o ops L = some true := by rfl) (hd : o.dst = some d := by rfl) (hn : Nat.blt d n.1 = true := by rfl)
    (ha : apo o.op L = some (t, tx, ad, m, cap, .slice ad2 m2 cap2) := by rfl) (hm2 : m2 = ys.length := by exact ln) (hm : m = xs.length := by exact ln) (hi : inf P t = some (e, z, sz, by') := by rfl) (hz : (cs1 z).map (·.length) = some sz := by rfl) (hby : Nat.ble by' 100000 = true := by rfl)
    (htx : P.underlying tx = some (.slice e') := by rfl) : HK P n (.ops ops (o :: l) :: s) L (Ctx J (sl f sz e ad cap xs :: H)) Q :=
  hs hg hd hn (oApJ (k := 0) (G := fun q => sl f sz e q.1 q.2 (xs ++ ys) :: H) ha hJ hm2 rfl hm hi hz hby htx hb fun _ => rfl) fun q _ => k q

/-- The same, where nothing lay ahead of it. -/
theorem apN [Lf : Lies f sz] {d : Nat} {t tx e' : TypeId} {m2 : Nat} {z : Value} {by' : Nat} (hJ : Ent J (Rs f sz ad2 cap2 ys)) (hb : ys.length ≤ 1000000000)
    (k : ∀ q : Option Addr × Nat, HK P n (.ops ops l :: s) ((d, .slice q.1 ys.length q.2) :: L) (Ctx J (sl f sz e q.1 q.2 ys :: H)) Q)
    (hg : gOk o ops L = some true := by rfl) (hd : o.dst = some d := by rfl) (hn : Nat.blt d n.1 = true := by rfl)
    (ha : apo o.op L = some (t, tx, ad, 0, 0, .slice ad2 m2 cap2) := by rfl) (hm2 : m2 = ys.length := by exact ln) (hi : inf P t = some (e, z, sz, by') := by rfl) (hz : (cs1 z).map (·.length) = some sz := by rfl) (hby : Nat.ble by' 100000 = true := by rfl)
    (htx : P.underlying tx = some (.slice e') := by rfl) : HK P n (.ops ops (o :: l) :: s) L (Ctx J H) Q :=
  nwS f sz e ad (apJ (xs := []) hJ (by simpa using hb) (by simpa using k) hg hd hn ha hm2 rfl hi hz hby htx)
/-- Results, some of which lie in variables. -/
inductive RL (P : Program) (C : World → Prop) (L : Env) : List ResultVar → List Value → Prop
  | nil : RL P C L [] []
  | tmp {t : Nat} {v : Value} {rs : List ResultVar} {vs : List Value} : look L t = some v → RL P C L rs vs → RL P C L (.tmp t :: rs) (v :: vs)
  | cell {a t b off : Nat} {tt : TypeId} {cs : List Value} {v : Value} {rs : List ResultVar} {vs : List Value} : look L a = some (.pointer (some ⟨b, off, none⟩)) → (∀ w, C w → (pt b tt cs).A w) → ldC P t cs off = some v → RL P C L rs vs → RL P C L (.cell a t :: rs) (v :: vs)
def stp (tmps : Array Value) : ResultVar → Sem Value
  | .tmp t => pure (tmps.getD t undef)
  | .cell a t => do loadVar t (← asAddr (tmps.getD a undef))
inductive RS (P : Program) (tmps : Array Value) (w : World) : List ResultVar → List Value → Prop
  | nil : RS P tmps w [] []
  | cons {r v rs vs} : (stp tmps r).run P w = .ok v w → RS P tmps w rs vs → RS P tmps w (r :: rs) (v :: vs)
theorem RL.step {rs : List ResultVar} {vs : List Value} (h : RL P C L rs vs) {a : Act} {w : World} (ha : Kn n L a) (hc : C w) : RS P a.tmps w rs vs := by
  induction h with
  | nil => exact .nil
  | tmp h1 _ ih => refine .cons ?_ ih; simp only [stp]; rw [ha.get _ _ h1]; rfl
  | cell h1 h2 h3 _ ih =>
    refine .cons ?_ ih
    simp only [stp]
    rw [ha.get _ _ h1]
    rename_i b off tt cs _ _ _ _
    have h4 : w.heap[b]? = some (.cells cs.toArray tt (0, 0)) := h2 w hc
    have := ldC_sound (P := P) (w := w) (base := 0) (b := b) h3 (fun j u hj => by rw [cell_of_row w b _ cs.toArray tt (0, 0) (by simpa using h4)]; simpa using hj)
    rw [Nat.zero_add] at this
    simp only [Instr.loadAt, Instr.sureAddr, Sem.run_bind, Sem.run_pure, Result.andThen_ok] at this
    simp only [Sem.run_bind, asAddr, Sem.run_pure, Result.andThen_ok]
    exact this
def pack (vs : List Value) : Value := match vs with | [v] => v | _ => .tuple vs.toArray
theorem results_eq (fn : Func) (tmps : Array Value) : results fn tmps = (do let vs ← fn.results.mapM (stp tmps); pure (if h : vs.size = 1 then vs[0] else .tuple vs)) := by
  unfold results; congr
theorem RS.sound {fn : Func} {tmps : Array Value} {w : World} {vs : List Value} {rs : List ResultVar} (h : RS P tmps w rs vs) (e : fn.results = rs.toArray) (hl : Nat.ble vs.length 3 = true) : (results fn tmps).run P w = .ok (pack vs) w := by
  rw [results_eq, e]
  have hl := Nat.le_of_ble_eq_true hl
  rcases h with _ | ⟨h1, h⟩
  · simp [pack]
  · rcases h with _ | ⟨h2, h⟩
    · simp [h1, pack]
    · rcases h with _ | ⟨h3, h⟩
      · simp [h1, h2, pack]
      · rcases h with _ | ⟨h4, h⟩
        · simp [h1, h2, h3, pack]
        · simp at hl
theorem rc {n : Nat} {fn : Func} {X : Type} {v : X → Value} {p : X → Prop} {C' : X → World → Prop} {vs : List Value} (x : X) (hp : p x) (hC : ∀ w, C w → C' x w)
    (h : RL P C L fn.results.toList vs := by
      repeat (first
        | exact RL.nil
        | refine RL.tmp rfl ?_
        | refine RL.cell rfl (fun _ h => h.at (k := 0) rfl) rfl ?_
        | refine RL.cell rfl (fun _ h => h.at (k := 1) rfl) rfl ?_
        | refine RL.cell rfl (fun _ h => h.at (k := 2) rfl) rfl ?_
        | refine RL.cell rfl (fun _ h => h.at (k := 3) rfl) rfl ?_
        | refine RL.cell rfl (fun _ h => h.at (k := 4) rfl) rfl ?_
        | refine RL.cell rfl (fun _ h => h.at (k := 5) rfl) rfl ?_
        | refine RL.cell rfl (fun _ h => h.at (k := 6) rfl) rfl ?_
        | refine RL.cell rfl (fun _ h => h.at (k := 7) rfl) rfl ?_
        | refine RL.cell rfl (fun _ h => je0 _ h.js) rfl ?_
        | refine RL.cell rfl (fun _ h => je1 _ h.js) rfl ?_
        | refine RL.cell rfl (fun _ h => je2 _ h.js) rfl ?_))
    (hv : pack vs = v x := by rfl) (hl : Nat.ble vs.length 3 = true := by rfl) : HK P (n, []) (.code .ret :: s) L C (bodyPost P fn fun e w' => ∃ x, e = .returned (v x) ∧ p x ∧ C' x w') := by
  intro a w ha hc
  refine wp_ret ?_
  have key : ∀ s : List KI, Kw P s (bodyPost P fn fun e w' => ∃ x, e = .returned (v x) ∧ p x ∧ C' x w') .ret a w := by
    intro s
    induction s with
    | nil => exact ⟨ha.defs, v x, hv ▸ (h.step ha hc).sound (by simp) hl, x, rfl, hp, hC w hc⟩
    | cons k s ih => cases k <;> exact ih
  exact key s
end
end
end Go.Proofs.YtimemehaccgmmaaGreatDoor
