/-
  Parts of the walks and their plain laws (E12 E12S). No condition.
-/
import Derived.Test.YtimemehaccgmmaaGreatDoorM05
import Derived.Laws.Concat
namespace Go.Proofs.YtimemehaccgmmaaGreatDoor
open Go.RowKit
set_option maxRecDepth 100000
set_option linter.unusedSimpArgs false
set_option linter.unusedVariables false
noncomputable section
section
variable {P : Program} {n : Fr} {t : Nat} {ops : Array Oper} {o : Oper} {l : List Oper} {s s' : List KI} {L L' : Env} {C C' : World → Prop} {Q : Exit → Act → World → Prop} {J : List (World → Prop)} {H H' : List RC} {D : List Vq} {E : List Nat}
/-- A look's value, where F holds. -/
def OQ (P : Program) (o : Oper) (L : Env) (F : Option (World → Prop)) (v : Value) : Prop :=
  selB o.op = false ∧ ∀ ρ w, (∀ x u, ev L x = some u → ρ x = u) → Fw F w → (execOp ρ o).run P w = .ok (.value v) w
theorem OQ.at {F : Option (World → Prop)} {v : Value} (h : OQ P o L F v) {a : Act} (ha : ∀ t ∈ sees ops o, ∀ u, look L t = some u → a.tmps.getD t undef = u) {w : World} (hF : Fw F w) : (execOp a.eval o).run P w = .ok (.value v) w := by
  classical
  have e1 := evS (ops := ops) ha
  have := h.2 (fun x => if x ∈ o.op.operands then a.eval x else (ev L x).getD undef) w (fun x u hx => by
    by_cases hm : x ∈ o.op.operands
    · simp only [hm, if_true]; exact e1 x (by simpa using hm) u hx
    · simp only [hm, if_false, hx]; rfl) hF
  rw [execOp_congr (ρ' := a.eval) o (fun cs b e => by have := h.1; rw [e] at this; cases this) (fun x hx => by simp [hx])] at this
  exact this
/-- The first operation from i on that can be told now, and is so. -/
def nums : List Nat := [0, 1, 2, 3, 4, 5, 6, 7, 8, 9, 10, 11, 12, 13, 14, 15, 16, 17, 18, 19, 20, 21, 22, 23, 24, 25, 26, 27, 28, 29, 30, 31, 32, 33, 34, 35, 36, 37, 38, 39, 40, 41, 42, 43, 44, 45, 46, 47, 48, 49, 50, 51, 52, 53, 54, 55, 56, 57, 58, 59, 60, 61, 62, 63, 64, 65, 66, 67, 68, 69, 70, 71, 72, 73, 74, 75, 76, 77, 78, 79, 80, 81, 82, 83, 84, 85, 86, 87, 88, 89, 90, 91, 92, 93, 94, 95, 96, 97, 98, 99]
theorem nums_get {j i : Nat} (h : nums[j]? = some i) : i = j := by
  have key : ∀ j, j < 100 → nums[j]? = some j := by decide
  by_cases hj : j < 100
  · rw [key j hj] at h; cases h; rfl
  · rw [List.getElem?_eq_none (by simp [nums]; omega)] at h; cases h
def fnd (t : Nat) (D : List Vq) (E : List Nat) (ok : Oper → Bool) : List Nat → List Oper → Option (Nat × Oper)
  | i :: idx, o :: l => bif Nat.blt i t && (!inV D E i && (ok o && allV D E (deps o))) then some (i, o) else fnd t D E ok idx l
  | _, _ => none
theorem fnd_spec {ok : Oper → Bool} : ∀ {idx : List Nat} {l : List Oper} {i : Nat} {o : Oper}, fnd t D E ok idx l = some (i, o) → ∃ j : Nat, idx[j]? = some i ∧ l[j]? = some o ∧ Nat.blt i t = true ∧ inV D E i = false ∧ allV D E (deps o) = true := by
  intro idx
  induction idx with
  | nil => intro l i o h; cases l <;> cases h
  | cons i0 idx ih =>
    intro l i o h
    cases l with
    | nil => cases h
    | cons c l =>
      simp only [fnd] at h
      cases hb : (Nat.blt i0 t && (!inV D E i0 && (ok c && allV D E (deps c)))) with
      | true =>
        rw [hb] at h; cases h
        simp only [Bool.and_eq_true, Bool.not_eq_true'] at hb
        exact ⟨0, rfl, rfl, hb.1, hb.2.1, hb.2.2.2⟩
      | false =>
        rw [hb] at h
        obtain ⟨j, h1, h2⟩ := ih h
        exact ⟨j + 1, by simpa using h1, by simpa using h2⟩
/-- Only e can be begun now. -/
def onlyM (D : List Vq) (E : List Nat) (e : List Nat) : List Nat → List Oper → Bool
  | i :: idx, o :: l => (inV D E i || (memN i e || !allV D E (deps o))) && onlyM D E e idx l
  | _, [] => true
  | [], _ :: _ => false
theorem onlyM_N {e : List Nat} : ∀ {idx : List Nat} {l : List Oper} {i : Nat}, (∀ (j k : Nat), idx[j]? = some k → k = i + j) → onlyM D E e idx l = true → onlyN D E e i l = true := by
  intro idx
  induction idx with
  | nil => intro l i _ h; cases l; rfl; cases h
  | cons i0 idx ih =>
    intro l i hi h
    cases l with
    | nil => rfl
    | cons c l =>
      obtain rfl : i0 = i := hi 0 i0 rfl
      simp only [onlyM, Bool.and_eq_true] at h
      simp only [onlyN, Bool.and_eq_true, Bool.or_assoc]
      exact ⟨h.1, ih (fun j k hj => by have := hi (j + 1) k (by simpa using hj); omega) h.2⟩
theorem onlyM_0 {e : List Nat} {l : List Oper} (h : onlyM D E e nums l = true) : onlyN D E e 0 l = true := onlyM_N (fun j k hj => by rw [Nat.zero_add]; exact nums_get hj) h
/-- Plain: it touches no memory, and no Bool keeps it back. -/
def plB (P : Program) (n : Fr) (L : Env) (o : Oper) : Bool :=
  match o.guard, pv P o.op L, o.dst with
  | none, some _, some d => Nat.blt d n.1 && !selB o.op
  | _, _, _ => false
theorem dN {i d : Nat} {v : Value} {F : Option (World → Prop)} {ok : Oper → Bool} (h : fnd t D E ok nums ops.toList = some (i, o)) (hd : o.dst = some d) (hn : Nat.blt d n.1 = true) (hg : gOk o ops L = some true) (hq : OQ P o L F v) (hF : ∀ w, C w → Fw F w) (k : DS P n ops t s (⟨i, v, F⟩ :: D) E ((d, v) :: L) C Q) : DS P n ops t s D E L C Q := by
  obtain ⟨j, h1, h2, h3, h4, h5⟩ := fnd_spec h
  obtain rfl := nums_get h1
  exact dQ F (by simpa using h2) h3 hd hn h5 h4 (fun a ha w hw => .inl ⟨gOk_at hg ha, hq.at ha hw⟩) hF k
theorem dP {i d : Nat} {v : Value} (h : fnd t D E (plB P n L) nums ops.toList = some (i, o)) (hv : pv P o.op L = some v) (hd : o.dst = some d) (hn : Nat.blt d n.1 = true) (hg : gOk o ops L = some true) (hs : selB o.op = false) (k : DS P n ops t s (⟨i, v, none⟩ :: D) E ((d, v) :: L) C Q) : DS P n ops t s D E L C Q :=
  dN (F := none) h hd hn hg ⟨hs, fun ρ w hρ _ => pv_sound (fun h => hρ _ _ h) hv w⟩ (fun _ _ => trivial) k
/-- One whose Bool says no. -/
theorem dSk {i d : Nat} {ok : Oper → Bool} (h : fnd t D E ok nums ops.toList = some (i, o)) (hd : o.dst = some d) (hn : Nat.blt d n.1 = true) (hg : gOk o ops L = some false) (k : DS P n ops t s (⟨i, undef, none⟩ :: D) E ((d, undef) :: L) C Q) : DS P n ops t s D E L C Q := by
  obtain ⟨j, h1, h2, h3, h4, h5⟩ := fnd_spec h
  obtain rfl := nums_get h1
  exact dQ none (by simpa using h2) h3 hd hn h5 h4 (fun a ha w hw => .inr ⟨gOk_at hg ha, rfl⟩) (fun _ _ => trivial) k
theorem dC {e : Nat} {X : Type} {v : X → Value} {p : X → Prop} {C' : X → World → Prop} {ok : Oper → Bool} (h : fnd t D E ok nums ops.toList = some (e, o)) (honly : onlyM D E [e] nums ops.toList = true) (hdo : dOk n o.dst = true) (hg : gOk o ops L = some true) (hsel : selB o.op = false)
    (hos : OS P o L C v p C') (hF : ∀ x, p x → ∀ w, C' x w → allF (deps o) D w) (k : ∀ x, p x → DS P n ops t s D (e :: E) (bind1 o.dst (v x) L) (C' x) Q) : DS P n ops t s D E L C Q := by
  obtain ⟨j, h1, h2, h3, h4, h5⟩ := fnd_spec h
  obtain rfl := nums_get h1
  exact dE (by simpa using h2) h3 (onlyM_0 honly) h4 hdo hg hsel h5 hos hF k
theorem qWr {k : IntKind} {z y : Int} (h : pvw P o.op L = some (k, z)) (hs : selB o.op = false) (hw : k.wrap z = y) : OQ P o L none (.int k y) :=
  ⟨hs, fun ρ w hρ _ => by rw [pvw_sound (fun h => hρ _ _ h) h w, hw]⟩
theorem qRem {k : IntKind} {a b : Int} (h : pvd o.op L = some (true, k, a, b)) (hs : selB o.op = false) (hh : 0 ≤ a ∧ 0 < b) : OQ P o L none (.int k (a % b)) :=
  ⟨hs, fun ρ w hρ _ => by rw [pvd_sound (fun h => hρ _ _ h) h (by omega) w, if_pos rfl, Int.tmod_eq_emod_of_nonneg hh.1]⟩
theorem qQuo {k : IntKind} {a b y : Int} (h : pvd o.op L = some (false, k, a, b)) (hs : selB o.op = false) (hh : 0 ≤ a ∧ 0 < b) (hw : k.wrap (a / b) = y) : OQ P o L none (.int k y) :=
  ⟨hs, fun ρ w hρ _ => by rw [pvd_sound (fun h => hρ _ _ h) h (by omega) w, if_neg (by simp), Int.tdiv_eq_ediv_of_nonneg hh.1, hw]⟩
theorem qShl {k : IntKind} {a y : Int} {m : Nat} (h : psh o.op L = some (true, k, a, (m : Int))) (hs : selB o.op = false) (hw : k.wrap (a * 2 ^ min m k.bits) = y) : OQ P o L none (.int k y) :=
  ⟨hs, fun ρ w hρ _ => by rw [psh_sound (fun h => hρ _ _ h) h w]; simp [hw]⟩
theorem qShr {k : IntKind} {a y : Int} {m : Nat} (h : psh o.op L = some (false, k, a, (m : Int))) (hs : selB o.op = false) (hw : a / 2 ^ min m k.bits = y) : OQ P o L none (.int k y) :=
  ⟨hs, fun ρ w hρ _ => by
    rw [psh_sound (fun h => hρ _ _ h) h w]
    simp only [Bool.false_eq_true, if_false]
    rw [Int.fdiv_eq_ediv_of_nonneg _ (Int.le_of_lt (Int.pow_pos (by omega))), hw]⟩
theorem qPk {c a b : Operand} {t : Bool} {v : Value} (ho : o.op = .pick c a b) (hc : ev L c = some (.bool t)) (hv : (bif t then ev L a else ev L b) = some v) : OQ P o L none v := by
  refine ⟨by rw [ho]; rfl, fun ρ w hρ _ => ?_⟩
  cases t with
  | true => simp only [execOp, ho, hρ _ _ hc, hρ _ _ hv, asBool]; rfl
  | false => simp only [execOp, ho, hρ _ _ hc, hρ _ _ hv, asBool]; rfl
theorem qLd {t tt : TypeId} {x : Operand} {b off : Nat} {vs : List Value} {v : Value} (ho : o.op = .load t x) (hx : ev L x = some (.pointer (some ⟨b, off, none⟩))) (hv : ldC P t vs off = some v) :
    OQ P o L (some (pt b tt vs).A) v := by
  refine ⟨by rw [ho]; rfl, fun ρ w hρ hF => ?_⟩
  have h1 : w.heap[b]? = some (.cells vs.toArray tt (0, 0)) := hF
  have := ldC_sound (P := P) (base := 0) (w := w) (b := b) hv (fun j v hj => by rw [Nat.zero_add, cell_of_row w b j _ _ _ h1]; simpa using hj)
  rw [Nat.zero_add] at this
  simp only [execOp, ho, hρ _ _ hx, Sem.run_bind, this]; rfl
section
variable {α : Type} {f : α → List Value} {sz : Nat} {ad : Option Addr} {cap : Nat} {xs : List α} {e : TypeId}
theorem qIx {t : TypeId} {x y : Operand} {m i : Nat} {kk : IntKind} (ho : o.op = .indexAddr t x y) (hx : ev L x = some (.slice ad m cap)) (hy : ev L y = some (.int kk (i : Int))) (ht : esz P t = some sz) (hm : m = xs.length) (hi : i < xs.length) :
    OQ P o L (some (Rs f sz ad cap xs)) (.pointer (some ⟨ab ad, ao ad + i * sz, none⟩)) := by
  refine ⟨by rw [ho]; rfl, fun ρ w hρ hF => ?_⟩
  have := run_ix (P := P) (cap := cap) (kk := kk) ht (hm ▸ hi) (rds_ad (show RdS f sz w ad cap xs from hF) hi) w
  simp only [execOp, ho, hρ _ _ hx, hρ _ _ hy, Sem.run_bind, this]; rfl
theorem qIxS {t : TypeId} {x y : Operand} {m i : Nat} {kk : IntKind} (ho : o.op = .indexAddr t x y) (hx : ev L x = some (.slice ad m cap)) (hy : ev L y = some (.int kk (i : Int))) (ht : esz P t = some sz) (hm : m = xs.length) (hi : i < xs.length) :
    OQ P o L (some (sl f sz e ad cap xs).A) (.pointer (some ⟨ab ad, ao ad + i * sz, none⟩)) := by
  refine ⟨by rw [ho]; rfl, fun ρ w hρ hF => ?_⟩
  have := run_ix (P := P) (cap := cap) (kk := kk) ht (hm ▸ hi) (own_ad (show OwnS f sz w 0 e ad cap xs from hF) hi) w
  simp only [execOp, ho, hρ _ _ hx, hρ _ _ hy, Sem.run_bind, this]; rfl
theorem qLe [Lf : Lies f sz] {t : TypeId} {x : Operand} {i g : Nat} {v : Value} (ho : o.op = .load t x) (hx : ev L x = some (.pointer (some ⟨ab ad, ao ad + i * sz + g, none⟩))) (hi : i < xs.length) (hv : ldC P t (f xs[i]) g = some v) :
    OQ P o L (some (Rs f sz ad cap xs)) v := by
  refine ⟨by rw [ho]; rfl, fun ρ w hρ hF => ?_⟩
  obtain ⟨b, off, e, hcell⟩ := (show RdS f sz w ad cap xs from hF).2.2 i hi
  have := ldC_sound (P := P) (w := w) (b := b) (base := off + i * sz) hv (fun j u hj => by
    rw [hcell j (by rw [← Lf.len xs[i]]; exact (List.getElem?_eq_some_iff.1 hj).1)]; exact hj)
  rw [e] at hx
  simp only [execOp, ho, hρ _ _ hx, Sem.run_bind, ab, ao]
  rw [this]; rfl
theorem qLe0 [Lf : Lies f sz] {t : TypeId} {x : Operand} {i : Nat} {v : Value} (ho : o.op = .load t x) (hx : ev L x = some (.pointer (some ⟨ab ad, ao ad + i * sz, none⟩))) (hi : i < xs.length) (hv : ldC P t (f xs[i]) 0 = some v) :
    OQ P o L (some (Rs f sz ad cap xs)) v := qLe (g := 0) ho hx hi hv
theorem qLf [Lf : Lies f sz] {t : TypeId} {x : Operand} {i g : Nat} {v : Value} (ho : o.op = .load t x) (hx : ev L x = some (.pointer (some ⟨ab ad, padd (ao ad + i * sz) g, none⟩))) (hi : i < xs.length) (hv : ldC P t (f xs[i]) g = some v) :
    OQ P o L (some (Rs f sz ad cap xs)) v := qLe (g := g) ho (by rw [padd_eq] at hx; exact hx) hi hv
theorem qLs [Lf : Lies f sz] {t : TypeId} {x : Operand} {i : Nat} {v : Value} (ho : o.op = .load t x) (hx : ev L x = some (.pointer (some ⟨ab ad, ao ad + i * sz, none⟩))) (hi : i < xs.length) (hv : ldC P t (f xs[i]) 0 = some v) :
    OQ P o L (some (sl f sz e ad cap xs).A) v := by
  refine ⟨by rw [ho]; rfl, fun ρ w hρ hF => ?_⟩
  have := ld_own (show OwnS f sz w 0 e ad cap xs from hF) hi hv
  rw [Nat.add_zero] at this
  simp only [execOp, ho, hρ _ _ hx, Sem.run_bind, this]; rfl
theorem qLfs [Lf : Lies f sz] {t : TypeId} {x : Operand} {i g : Nat} {v : Value} (ho : o.op = .load t x) (hx : ev L x = some (.pointer (some ⟨ab ad, padd (ao ad + i * sz) g, none⟩))) (hi : i < xs.length) (hv : ldC P t (f xs[i]) g = some v) :
    OQ P o L (some (sl f sz e ad cap xs).A) v := by
  refine ⟨by rw [ho]; rfl, fun ρ w hρ hF => ?_⟩
  have := ld_own (show OwnS f sz w 0 e ad cap xs from hF) hi hv
  rw [padd_eq] at hx
  simp only [execOp, ho, hρ _ _ hx, Sem.run_bind, this]; rfl
end
theorem Ctx.drew {w : World} (h : Ctx J H w) : Ctx J H w.drew := h.keep (Kp.refl [] w).drew
def kB (m : Nat) (o : Oper) : Bool := Nat.beq (opk o.op) m
/-- What acts. -/
def actB (o : Oper) : Bool := match opk o.op with | 0 => true | 3 => true | 6 => true | 9 => true | 10 => true | 11 => true | 13 => true | _ => false
/-- Where the tail begins. -/
def tlOf (ops : List Oper) : Nat → Nat
  | 0 => 0
  | t + 1 => bif (List.range t).all (fun k => memN k (deps (ops.getD t default))) then tlOf ops t else t + 1
def tlN (ops : Array Oper) : Option Nat := match tlOf ops.toList ops.size with
  | 0 => some 0 | 1 => some 1 | 2 => some 2 | 3 => some 3 | 4 => some 4 | 5 => some 5 | 6 => some 6 | 7 => some 7 | 8 => some 8 | 9 => some 9 | 10 => some 10 | 11 => some 11 | 12 => some 12 | 13 => some 13 | 14 => some 14 | 15 => some 15 | 16 => some 16 | 17 => some 17 | 18 => some 18 | 19 => some 19 | 20 => some 20 | 21 => some 21 | 22 => some 22 | 23 => some 23 | 24 => some 24 | 25 => some 25 | 26 => some 26 | _ => none
theorem dB {id : Nat} (ht : tlN ops = some t) (hm : P.follows .mixedOrders = true) (hs : ssaB ops t = true) (h : DS P n ops t s [] [] L (Ctx J H) Q) : HK P n (.code (.region id ops true) :: s) L (Ctx J H) Q :=
  dS t hm (fun _ h => h.drew) hs h
theorem qIa {t : TypeId} {x y : Operand} {kk : IntKind} {cs : List Value} {m len : Nat} {e : TypeId} {v : Value} (ho : o.op = .index t x y) (hx : ev L x = some (.agg ⟨cs⟩)) (hy : ev L y = some (.int kk (m : Int))) (ht : P.underlying t = some (.array len e)) (hv : iaV P e cs m len = some v) : OQ P o L none v :=
  ⟨by rw [ho]; rfl, fun ρ w hρ _ => iaV_run ho (hρ _ _ hx) (hρ _ _ hy) ht hv w⟩
theorem kD (k : DS P n ops t s D E L C Q) : DS P n ops t s D E L C Q := k
theorem dC0 {e : Nat} {v : Value} {ok : Oper → Bool} (h : fnd t D E ok nums ops.toList = some (e, o)) (honly : onlyM D E [e] nums ops.toList = true) (hdo : o.dst = none) (hg : gOk o ops L = some true) (hsel : selB o.op = false)
    (hos : OS P o L C (fun _ : Unit => v) (fun _ => True) (fun _ => C')) (hF : ∀ x : Unit, True → ∀ w, C' w → allF (deps o) D w) (k : DS P n ops t s D (e :: E) L C' Q) : DS P n ops t s D E L C Q :=
  dC h honly (by rw [hdo]; rfl) hg hsel hos hF fun _ _ => by rw [hdo]; exact k
theorem dX {e : Nat} {X : Type} {v : X → Value} {C' : X → World → Prop} {ok : Oper → Bool} (h : fnd t D E ok nums ops.toList = some (e, o)) (honly : onlyM D E [e] nums ops.toList = true) (hdo : dOk n o.dst = true) (hg : gOk o ops L = some true) (hsel : selB o.op = false)
    (hos : OS P o L C v (fun _ => True) C') (hF : ∀ x, True → ∀ w, C' x w → allF (deps o) D w) (k : ∀ x, DS P n ops t s D (e :: E) (bind1 o.dst (v x) L) (C' x) Q) : DS P n ops t s D E L C Q :=
  dC h honly hdo hg hsel hos hF fun x _ => k x
/-- An operation is chosen. -/
def DSq (P : Program) (n : Fr) (ops : Array Oper) (t : Nat) (s : List KI) (D : List Vq) (E : List Nat) (L : Env) (C : World → Prop) (Q : Exit → Act → World → Prop) (i : Nat) (o : Oper) : Prop :=
  (ops[i]? = some o ∧ Nat.blt i t = true ∧ inV D E i = false ∧ allV D E (deps o) = true) → DS P n ops t s D E L C Q
theorem kq {i : Nat} (ok : Oper → Bool) (h : fnd t D E ok nums ops.toList = some (i, o)) (k : DSq P n ops t s D E L C Q i o) : DS P n ops t s D E L C Q := by
  obtain ⟨j, h1, h2, h3, h4, h5⟩ := fnd_spec h
  obtain rfl := nums_get h1
  exact k ⟨by simpa using h2, h3, h4, h5⟩
theorem qN {i d : Nat} {v : Value} {F : Option (World → Prop)} (hq : OQ P o L F v) (hF : ∀ w, C w → Fw F w) (hd : o.dst = some d) (hn : Nat.blt d n.1 = true) (hg : gOk o ops L = some true) (k : DS P n ops t s (⟨i, v, F⟩ :: D) E ((d, v) :: L) C Q) : DSq P n ops t s D E L C Q i o :=
  fun ⟨h2, h3, h4, h5⟩ => dQ F h2 h3 hd hn h5 h4 (fun a ha w hw => .inl ⟨gOk_at hg ha, hq.at ha hw⟩) hF k
theorem qC {e : Nat} {X : Type} {v : X → Value} {p : X → Prop} {C' : X → World → Prop} (hos : OS P o L C v p C') (honly : onlyM D E [e] nums ops.toList = true) (hdo : dOk n o.dst = true) (hg : gOk o ops L = some true) (hsel : selB o.op = false)
    (hF : ∀ x, p x → ∀ w, C' x w → allF (deps o) D w) (k : ∀ x, p x → DS P n ops t s D (e :: E) (bind1 o.dst (v x) L) (C' x) Q) : DSq P n ops t s D E L C Q e o :=
  fun ⟨h2, h3, h4, h5⟩ => dE h2 h3 (onlyM_0 honly) h4 hdo hg hsel h5 hos hF k
theorem qC0 {e : Nat} {v : Value} (hos : OS P o L C (fun _ : Unit => v) (fun _ => True) (fun _ => C')) (honly : onlyM D E [e] nums ops.toList = true) (hdo : o.dst = none) (hg : gOk o ops L = some true) (hsel : selB o.op = false)
    (hF : ∀ x : Unit, True → ∀ w, C' w → allF (deps o) D w) (k : DS P n ops t s D (e :: E) L C' Q) : DSq P n ops t s D E L C Q e o :=
  qC hos honly (by rw [hdo]; rfl) hg hsel hF fun _ _ => by rw [hdo]; exact k
theorem qX {e : Nat} {X : Type} {v : X → Value} {C' : X → World → Prop} (hos : OS P o L C v (fun _ => True) C') (honly : onlyM D E [e] nums ops.toList = true) (hdo : dOk n o.dst = true) (hg : gOk o ops L = some true) (hsel : selB o.op = false)
    (hF : ∀ x, True → ∀ w, C' x w → allF (deps o) D w) (k : ∀ x, DS P n ops t s D (e :: E) (bind1 o.dst (v x) L) (C' x) Q) : DSq P n ops t s D E L C Q e o :=
  qC hos honly hdo hg hsel hF fun x _ => k x
/-- All plain ones, one behind the other. -/
def dadv (P : Program) (n : Fr) (t : Nat) (E : List Nat) : List Nat → List Oper → List Vq → Env → Option (List Vq × Env)
  | i :: idx, o :: l, D, L => (match (Nat.blt i t && (!inV D E i && (allV D E (deps o) && !selB o.op))), o.guard, pv P o.op L, o.dst with
    | true, none, some v, some d => (bif Nat.blt d n.1 then dadv P n t E idx l (⟨i, v, none⟩ :: D) ((d, v) :: L) else dadv P n t E idx l D L)
    | _, _, _, _ => dadv P n t E idx l D L)
  | _, _, D, L => some (D, L)
theorem dadv_sound {D' : List Vq} : ∀ {idx : List Nat} {l : List Oper} {D : List Vq} {L : Env}, (∀ (j i : Nat) (o : Oper), idx[j]? = some i → l[j]? = some o → ops[i]? = some o) → dadv P n t E idx l D L = some (D', L') → DS P n ops t s D' E L' C Q → DS P n ops t s D E L C Q := by
  intro idx
  induction idx with
  | nil => intro l D L _ h k; cases l <;> (cases h; exact k)
  | cons i idx ih =>
    intro l D L ha h k
    cases l with
    | nil => cases h; exact k
    | cons o l =>
      have ha' : ∀ (j i : Nat) (o : Oper), idx[j]? = some i → l[j]? = some o → ops[i]? = some o := fun j i o h1 h2 => ha (j + 1) i o (by simpa using h1) (by simpa using h2)
      simp only [dadv] at h
      split at h
      · rename_i v d h1 h2 h3 h4
        simp only [Bool.and_eq_true, Bool.not_eq_true'] at h1
        cases hb : Nat.blt d n.1 with
        | false => rw [hb] at h; exact ih ha' h k
        | true =>
          rw [hb] at h
          have hq : OQ P o L none v := ⟨h1.2.2.2, fun ρ w hρ _ => pv_sound (fun h => hρ _ _ h) h3 w⟩
          exact dQ none (ha 0 i o rfl rfl) h1.1 h4 hb h1.2.2.1 h1.2.1 (fun a ha w hw => .inl ⟨gOk_at (by unfold gOk; rw [h2]) ha, hq.at ha hw⟩) (fun _ _ => trivial) (ih ha' h k)
      · exact ih ha' h k
theorem dA {D' : List Vq} (h : dadv P n t E nums ops.toList D L = some (D', L')) (k : DS P n ops t s D' E L' C Q) : DS P n ops t s D E L C Q :=
  dadv_sound (fun j i o h1 h2 => by obtain rfl := nums_get h1; simpa using h2) h k
end
end
end Go.Proofs.YtimemehaccgmmaaGreatDoor
namespace Go.Proofs.YtimemehaccgmmaaGreatDoor
open Go.RowKit
set_option maxRecDepth 100000
set_option linter.unusedSimpArgs false
set_option linter.unusedVariables false
noncomputable section
section
variable {P : Program} {n : Fr} {t : Nat} {ops : Array Oper} {o : Oper} {l : List Oper} {s s' : List KI} {L L' : Env} {C C' : World → Prop} {Q : Exit → Act → World → Prop} {J : List (World → Prop)} {H H' : List RC} {D : List Vq} {E : List Nat}
variable {ad : Option Addr} {cap : Nat} {xs : List Int} {e : TypeId}
/-- A text's bytes. -/
def sb (s : ByteArray) : List Int := s.data.toList.map fun b => (b.toNat : Int)
theorem sb_len (s : ByteArray) : (sb s).length = s.size := by unfold sb; rw [List.length_map, Array.length_toList]; rfl
theorem sb_cells (s : ByteArray) : byteCells s = (sb s).flatMap (fI .u8) := by
  unfold byteCells sb
  induction s.data.toList with
  | nil => rfl
  | cons b l ih => simp only [List.map_cons, List.flatMap_cons, ih]; rfl
/-- Is it a conversion of bytes to a text? -/
def csB (P : Program) (t t2 : TypeId) : Bool := match P.underlying t, P.underlying t2 with
  | some (.slice e), some .string => (match P.underlying e with | some (.int .u8) => true | _ => false)
  | _, _ => false
theorem csB_eq {t t2 : TypeId} (h : csB P t t2 = true) : ∃ e, P.underlying t = some (.slice e) ∧ P.underlying e = some (.int .u8) ∧ P.underlying t2 = some .string := by
  unfold csB at h
  split at h
  · split at h
    · exact ⟨_, ‹_›, ‹_›, ‹_›⟩
    · cases h
  · cases h
theorem conv_str (w : World) {src dst : TypeId} (h0 : csB P src dst = true) (m : Nat) (h : RdS (fI .u8) 1 w ad cap xs) (hm : m = xs.length) :
    (convert src dst (.slice ad m cap)).run P w = .ok (.string (strOfNums xs)) w := by
  subst hm
  obtain ⟨e, hs, he, hd⟩ := csB_eq h0
  cases hz : xs with
  | nil =>
    cases ad with
    | none => exact run_convert_bytes_nil w src e hs he 0 cap dst hd
    | some a =>
      rw [run_convert_bytes_string w src dst e (some a) _ cap hs he hd]
      exact run_bytesToString (P := P) w a 0 cap [] rfl
  | cons x l =>
    obtain ⟨b, off, rfl, -⟩ := h.2.2 0 (by simp [hz])
    rw [← hz]
    refine run_convert_bytes_arg w src e hs he b off xs.length cap xs rfl (fun i hi => ?_) dst hd
    obtain ⟨b', off', h1, h2⟩ := h.2.2 i hi
    cases h1
    have := h2 0 (by omega)
    simpa [fI, List.getElem?_eq_getElem hi] using this
theorem qCs {t t2 : TypeId} {x : Operand} {m : Nat} (ho : o.op = .convert t t2 x) (hx : ev L x = some (.slice ad m cap)) (ht : csB P t t2 = true) (hm : m = xs.length) : OQ P o L (some (Rs (fI .u8) 1 ad cap xs)) (.string (strOfNums xs)) := by
  refine ⟨by rw [ho]; rfl, fun ρ w hρ hF => ?_⟩
  have := conv_str (P := P) w ht m (show RdS (fI .u8) 1 w ad cap xs from hF) hm
  simp only [execOp, ho, hρ _ _ hx, Sem.run_bind, this]; rfl
theorem qCsS [Lies (fI .u8) 1] {t t2 : TypeId} {x : Operand} {m : Nat} (ho : o.op = .convert t t2 x) (hx : ev L x = some (.slice ad m cap)) (ht : csB P t t2 = true) (hm : m = xs.length) : OQ P o L (some (sl (fI .u8) 1 e ad cap xs).A) (.string (strOfNums xs)) := by
  refine ⟨by rw [ho]; rfl, fun ρ w hρ hF => ?_⟩
  have := conv_str (P := P) w ht m (OwnS.rd (show OwnS (fI .u8) 1 w 0 e ad cap xs from hF) inferInstance) hm
  simp only [execOp, ho, hρ _ _ hx, Sem.run_bind, this]; rfl
theorem OQ.os {F : Option (World → Prop)} {v : Value} (h : OQ P o L F v) (hF : ∀ w, C w → Fw F w) : OS P o L C (fun _ : Unit => v) (fun _ => True) (fun _ => C) := by
  intro ρ w hρ hc
  exact Yl_val (h.2 ρ w hρ (hF w hc)) ⟨(), rfl, trivial, hc⟩
/-- Texts one behind the other. -/
def psa (o : Op) (L : Env) : Option (ByteArray × ByteArray) :=
  match o with
  | .binOp .add _ x y _ => match ev L x, ev L y with | some (.string a), some (.string b) => some (a, b) | _, _ => none
  | _ => none
theorem qSa {a b : ByteArray} (h : psa o.op L = some (a, b)) (hb : a.size + b.size ≤ 1000000000) : OQ P o L none (.string (a ++ b)) := by
  obtain ⟨dst, op, ty, pos, after, guard⟩ := o
  simp only at h
  unfold psa at h
  split at h
  · split at h
    · rename_i e1 e2
      cases h
      refine ⟨rfl, fun ρ w hρ _ => ?_⟩
      simp only [execOp, hρ _ _ e1, hρ _ _ e2]
      rw [Sem.run_bind, Sem.run_bind, guard_int _ _ _ _ _ _ w (by simp) (by simp)]
      simp [binOp, run_string_add_sum w a b (by omega)]
    · cases h
  · cases h
/-- A piece of a text. -/
theorem qSs {t : TypeId} {x : Operand} {lo hi : Option Operand} {a b : Nat} {z : ByteArray} (ho : o.op = .slice t x lo hi none) (hx : ev L x = some (.string z)) (hlo : bnd L 0 lo = some (a : Int)) (hhi : bnd L z.size hi = some (b : Int)) (ht : P.underlying t = some .string) (hab : a ≤ b ∧ b ≤ z.size) :
    OQ P o L none (.string (z.extract a b)) := by
  refine ⟨by rw [ho]; rfl, fun ρ w hρ _ => ?_⟩
  have e1 := bnd_run (P := P) hρ hhi (y := z.size) hab.2 .sliceAlen w
  have e2 := bnd_run (P := P) hρ hlo hab.1 .sliceB w
  have e3 : (Instr.sliceBounds false z.size z.size (lo.map ρ) (hi.map ρ) none).run P w = .ok (a, b, z.size) w := by
    unfold Instr.sliceBounds
    cases hi <;> cases lo <;> simp at e1 e2 ⊢ <;> simp [e1, e2]
  simp only [execOp, ho, hρ _ _ hx, Instr.sliceAt, Sem.run_bind, run_und ht, Result.andThen_ok, Instr.slice, Option.map_none, e3]
  simp [e3]
/-- A text is laid behind bytes. -/
theorem oApS [Lf : Lies (fI .u8) 1] {k : Nat} {t tx : TypeId} {m : Nat} {z : Value} {by' : Nat} {y : ByteArray} {G : Option Addr × Nat → List RC} (ha : apo o.op L = some (t, tx, ad, m, cap, .string y)) (hH : H[k]? = some (sl (fI .u8) 1 e ad cap xs)) (hm : m = xs.length) (hi : inf P t = some (e, z, 1, by')) (hz : (cs1 z).map (·.length) = some 1) (hby : Nat.ble by' 100000 = true)
    (htx : P.underlying tx = some .string) (hb : xs.length + y.size ≤ 1000000000) (hH' : ∀ q : Option Addr × Nat, setH H k (sl (fI .u8) 1 e q.1 q.2 (xs ++ sb y)) = G q) :
    OS P o L (Ctx J H) (fun q : Option Addr × Nat => .slice q.1 (xs ++ sb y).length q.2) (fun _ => True) (fun q => Ctx J (G q)) := by
  intro ρ w hρ hc
  have hs := Src.ofString (P := P) w htx y
  rw [sb_cells] at hs
  have := ap_run (news := sb y) hρ hc ha hH hm hi hz hby hs (sb_len y).symm (by rw [sb_len]; exact hb)
  simp only [hH'] at this
  exact this
/-- In a drawn region: a guarded one that is plain; one that is passed over. -/
def kGd (o : Oper) : Bool := o.guard.isSome && (match opk o.op with | 0 => true | 5 => true | _ => false)
def kGs (o : Oper) : Bool := o.guard.isSome
theorem qPl {i d : Nat} {v : Value} {o : Oper} (hd : o.dst = some d) (hn : Nat.blt d n.1 = true) (hg : gOk o ops L = some true) (hv : pv P o.op L = some v) (hs : selB o.op = false) (k : DS P n ops t s (⟨i, v, none⟩ :: D) E ((d, v) :: L) C Q) : DSq P n ops t s D E L C Q i o :=
  qN (F := none) ⟨hs, fun ρ w hρ _ => pv_sound (fun h => hρ _ _ h) hv w⟩ (fun _ _ => trivial) hd hn hg k
theorem qSk {i d : Nat} {o : Oper} (hd : o.dst = some d) (hn : Nat.blt d n.1 = true) (hg : gOk o ops L = some false) (k : DS P n ops t s (⟨i, undef, none⟩ :: D) E ((d, undef) :: L) C Q) : DSq P n ops t s D E L C Q i o :=
  fun ⟨h2, h3, h4, h5⟩ => dQ none h2 h3 hd hn h5 h4 (fun a ha w hw => .inr ⟨gOk_at hg ha, rfl⟩) (fun _ _ => trivial) k
theorem preD {C : World → Prop} (h : ∀ w, C w → C' w) (hk : DS P n ops t s D E L C' Q) : DS P n ops t s D E L C Q :=
  fun h1 h2 h3 h4 fuel listed a w hr hc => hk h1 h2 h3 h4 fuel listed a w hr (h w hc)
section
variable {α : Type} {f : α → List Value} {sz : Nat} {xs : List α}
/-- A piece of a slice that is read, in a region that draws. -/
theorem qSc [Lf : Lies f sz] {i d : Nat} {t' : TypeId} {x : Operand} {lo hi : Option Operand} {m a b : Nat} (ho : o.op = .slice t' x lo hi none) (hx : ev L x = some (.slice ad m cap)) (hJ : ∀ w, allJ J w → Rs f sz ad cap xs w) (hm : m = xs.length)
    (hlo : bnd L 0 lo = some (a : Int)) (hhi : bnd L m hi = some (b : Int)) (ht : esz P t' = some sz) (hab : a ≤ b ∧ b ≤ xs.length) (hd : o.dst = some d) (hn : Nat.blt d n.1 = true) (hg : gOk o ops L = some true)
    (k : ∀ q : Option Addr × Nat, DS P n ops t s (⟨i, .slice q.1 (sub xs a b).length q.2, some (Rs f sz ad cap xs)⟩ :: D) E ((d, .slice q.1 (sub xs a b).length q.2) :: L) (Ctx (Rs f sz q.1 q.2 (sub xs a b) :: J) H) Q) : DSq P n ops t s D E L (Ctx J H) Q i o := by
  have hk := k (if cap = a then ad else ad.map (·.add (a * sz)), cap - a)
  have hent : ∀ w, allJ J w → allJ (Rs f sz (if cap = a then ad else ad.map (·.add (a * sz))) (cap - a) (sub xs a b) :: J) w := fun w j => ⟨Rs_sub Lf (show RdS f sz w ad cap xs from hJ w j) hab.1 hab.2, j⟩
  have hk2 := preD (fun w hc => Ctx.ent hc hent) hk
  refine qN (F := some (Rs f sz ad cap xs)) ⟨by rw [ho]; rfl, fun ρ w hρ hF => ?_⟩ (fun w h => hJ w h.js) hd hn hg hk2
  obtain ⟨e', inf, h1, h2, h3⟩ := esz_eq ht
  have hcap := (show RdS f sz w ad cap xs from hF).1
  subst hm
  have e1 := bnd_run (P := P) hρ hhi (y := cap) (by omega) .sliceAcap w
  have e2 := bnd_run (P := P) hρ hlo hab.1 .sliceB w
  have e3 : (Instr.sliceBounds true xs.length cap (lo.map ρ) (hi.map ρ) none).run P w = .ok (a, b, cap) w := by
    unfold Instr.sliceBounds
    cases hi <;> cases lo <;> simp at e1 e2 ⊢ <;> simp [e1, e2]
  simp only [execOp, ho, hρ _ _ hx, Instr.sliceAt, Sem.run_bind, run_und h1, Result.andThen_ok, Instr.slice, Option.map_none, e3, sizeOf, typeInfo, program]
  simp [Sem.run, h2, h3, sub_length xs hab.2]
end
end
end
end Go.Proofs.YtimemehaccgmmaaGreatDoor
