/-
  Parts of the walks and their plain laws (E9 E10). No condition.
-/
import Derived.Test.YtimemehaccgmmaaGreatDoorM03
import Derived.Laws.Slices
namespace Go.Proofs.YtimemehaccgmmaaGreatDoor
open Go.RowKit
set_option maxRecDepth 100000
set_option linter.unusedSimpArgs false
set_option linter.unusedVariables false
noncomputable section
def fI (k : IntKind) (z : Int) : List Value := [.int k z]
instance (k : IntKind) : Lies (fI k) 1 := ⟨fun _ => rfl, fun x v h => by simp [fI] at h; subst h; rfl, by decide⟩
def fB (b : Bool) : List Value := [.bool b]
instance : Lies fB 1 := ⟨fun _ => rfl, fun x v h => by simp [fB] at h; subst h; rfl, by decide⟩
def fS (s : ByteArray) : List Value := [.string s]
instance : Lies fS 1 := ⟨fun _ => rfl, fun x v h => by simp [fS] at h; subst h; rfl, by decide⟩
def fP (p : Option Addr) : List Value := [.pointer p]
instance : Lies fP 1 := ⟨fun _ => rfl, fun x v h => by simp [fP] at h; subst h; rfl, by decide⟩
/-- A slice of slices: address, length, capacity. -/
def fL (q : Option Addr × Nat × Nat) : List Value := [.slice q.1 q.2.1 q.2.2]
instance : Lies fL 1 := ⟨fun _ => rfl, fun x v h => by simp [fL] at h; subst h; rfl, by decide⟩
section
variable {P : Program} {n : Fr} {ops : Array Oper} {o : Oper} {l : List Oper} {s s' : List KI} {L L' : Env} {C C' : World → Prop} {Q : Exit → Act → World → Prop} {J : List (World → Prop)} {H H' : List RC}
variable {α : Type} {f : α → List Value} {sz : Nat} {ad : Option Addr} {cap : Nat} {xs : List α} {e : TypeId} {G : Option Addr × Nat → List RC}
theorem own_ad {w : World} (h : OwnS f sz w 0 e ad cap xs) {i : Nat} (hi : i < xs.length) : ad = some ⟨ab ad, ao ad, none⟩ := by
  rcases h with ⟨rfl, rfl⟩ | ⟨g, cur, rfl, -⟩
  · simp at hi
  · rfl
theorem oIxS {k : Nat} {t : TypeId} {x y : Operand} {m i : Nat} {kk : IntKind} (ho : o.op = .indexAddr t x y) (hx : ev L x = some (.slice ad m cap)) (hy : ev L y = some (.int kk (i : Int))) (hH : H[k]? = some (sl f sz e ad cap xs)) (ht : esz P t = some sz) (hm : m = xs.length) (hi : i < xs.length) :
    OS P o L (Ctx J H) (fun _ : Unit => .pointer (some ⟨ab ad, ao ad + i * sz, none⟩)) (fun _ => True) (fun _ => Ctx J H) := by
  intro ρ w hρ hc
  refine Yl_val ?_ ⟨(), rfl, trivial, hc⟩
  have := run_ix (P := P) (cap := cap) (kk := kk) ht (hm ▸ hi) (own_ad (hc.at hH) hi) w
  simp only [execOp, ho, hρ _ _ hx, hρ _ _ hy, Sem.run_bind, this]
  rfl
theorem ld_own [Lf : Lies f sz] {w : World} (h : OwnS f sz w 0 e ad cap xs) {i g : Nat} (hi : i < xs.length) {t : TypeId} {v : Value} (hv : ldC P t (f xs[i]) g = some v) : (Instr.loadAt t (.pointer (some ⟨ab ad, ao ad + i * sz + g, none⟩))).run P w = .ok v w := by
  obtain ⟨b, off, e1, hcell⟩ := (h.rd Lf).2.2 i hi
  have := ldC_sound (P := P) (w := w) (b := b) (base := off + i * sz) hv (fun j u hj => by
    rw [hcell j (by rw [← Lf.len xs[i]]; exact (List.getElem?_eq_some_iff.1 hj).1)]; exact hj)
  subst e1
  exact this
theorem oLeS [Lf : Lies f sz] {k : Nat} {t : TypeId} {x : Operand} {i : Nat} {v : Value} (ho : o.op = .load t x) (hx : ev L x = some (.pointer (some ⟨ab ad, ao ad + i * sz, none⟩))) (hH : H[k]? = some (sl f sz e ad cap xs)) (hi : i < xs.length) (hv : ldC P t (f xs[i]) 0 = some v) :
    OS P o L (Ctx J H) (fun _ : Unit => v) (fun _ => True) (fun _ => Ctx J H) := by
  intro ρ w hρ hc
  refine Yl_val ?_ ⟨(), rfl, trivial, hc⟩
  have := ld_own (hc.at hH) hi hv
  rw [Nat.add_zero] at this
  simp only [execOp, ho, hρ _ _ hx, Sem.run_bind, this]; rfl
theorem oLfS [Lf : Lies f sz] {k : Nat} {t : TypeId} {x : Operand} {i g : Nat} {v : Value} (ho : o.op = .load t x) (hx : ev L x = some (.pointer (some ⟨ab ad, padd (ao ad + i * sz) g, none⟩))) (hH : H[k]? = some (sl f sz e ad cap xs)) (hi : i < xs.length) (hv : ldC P t (f xs[i]) g = some v) :
    OS P o L (Ctx J H) (fun _ : Unit => v) (fun _ => True) (fun _ => Ctx J H) := by
  intro ρ w hρ hc
  refine Yl_val ?_ ⟨(), rfl, trivial, hc⟩
  have := ld_own (hc.at hH) hi hv
  rw [padd_eq] at hx
  simp only [execOp, ho, hρ _ _ hx, Sem.run_bind, this]; rfl
theorem flat_set (Lf : Lies f sz) : ∀ (l : List α) (i : Nat) (y : α), i < l.length → (l.set i y).flatMap f = (l.flatMap f).take (i * sz) ++ f y ++ (l.flatMap f).drop (i * sz + sz)
  | x :: l, 0, y, h => by
    simp only [List.set_cons_zero, List.flatMap_cons, Nat.zero_mul, List.take_zero, List.nil_append, Nat.zero_add]
    rw [List.drop_left' (Lf.len x)]
  | x :: l, i + 1, y, h => by
    rw [List.set_cons_succ, List.flatMap_cons, List.flatMap_cons, flat_set Lf l i y (by simpa using h), Nat.succ_mul, show i * sz + sz = sz + i * sz by omega, show sz + i * sz + sz = sz + (i * sz + sz) by omega]
    have e1 := Lf.len x
    rw [List.take_append, List.drop_append, e1, List.take_of_length_le (by omega : (f x).length ≤ sz + i * sz), List.drop_of_length_le (by omega : (f x).length ≤ sz + (i * sz + sz))]
    simp [List.append_assoc, Nat.add_comm]
/-- An element that the call owns is written over. -/
theorem st_own (Lf : Lies f sz) {w : World} (h : OwnS f sz w 0 e ad cap xs) {i g : Nat} (hi : i < xs.length) {t : TypeId} {v : Value} {y : α} (hv : stC P t (f xs[i]) g v = some (f y)) (h1 : (cs1 v).any one1 = true) (hs : (P.info? t).map (·.size) = (cs1 v).map (·.length)) :
    ∃ w', (Instr.storeAt t (.pointer (some ⟨ab ad, ao ad + i * sz + g, none⟩)) v).run P w = .ok () w' ∧ OwnS f sz w' 0 e ad cap (xs.set i y) ∧ Kp (ob ad cap) w w' := by
  rcases h with ⟨rfl, rfl⟩ | ⟨b, cur, rfl, -, h2, h3, h4, h5, h6⟩
  · simp at hi
  · obtain ⟨r, hr, hq⟩ : ∃ r, cs1 v = some r ∧ spl (f xs[i]) g r = some (f y) := by
      unfold stC at hv
      split at hv
      · rename_i r e1 e2
        split at hv
        · exact ⟨_, e2, hv⟩
        · cases hv
      · rename_i k r e1 e2
        cases hb : Nat.beq r.length k with
        | false => rw [hb] at hv; cases hv
        | true => rw [hb] at hv; exact ⟨_, e2, hv⟩
      · cases hv
    rw [hr] at h1 hs
    simp only [Option.any_some, one1] at h1
    obtain ⟨inf, hinf, hi2⟩ : ∃ i, P.info? t = some i ∧ i.size = r.length := by
      cases hp : P.info? t with
      | none => rw [hp] at hs; cases hs
      | some i => rw [hp] at hs; simp at hs; exact ⟨i, rfl, hs⟩
    obtain ⟨e1, e2⟩ := spl_eq hq
    have hc := cs1_eq hr
    have lx := Lf.len xs[i]; have ly := Lf.len y
    have hle : i * sz + sz ≤ xs.length * sz := by have := Nat.mul_le_mul_right sz (show i + 1 ≤ xs.length from hi); rw [Nat.succ_mul] at this; exact this
    have hcs : xs.length * sz ≤ cap * sz := Nat.mul_le_mul_right sz h4
    have hg : g + r.length ≤ sz ∨ r = [] := by rcases e2 with e2 | e2; exact .inl (by omega); exact .inr e2
    have hlen : (⟨cur.toList⟩ : Array Value).size = cap * sz := h3
    have hst : (storeCells ⟨b, 0 + i * sz + g, none⟩ r).run P w = .ok () (w.setRow b (cur.toList.take (i * sz) ++ f y ++ cur.toList.drop (i * sz + sz)).toArray) := by
      have key : cur.toList.take (i * sz + g) ++ r ++ cur.toList.drop (i * sz + g + r.length) = cur.toList.take (i * sz) ++ f y ++ cur.toList.drop (i * sz + sz) := by
        have hx : (cur.toList.drop (i * sz)).take sz = f xs[i] := by
          apply List.ext_getElem?
          intro j
          by_cases hj : j < sz
          · rw [List.getElem?_take, if_pos hj, List.getElem?_drop]
            have h7 := flat_get Lf.len xs i j hi hj
            rw [← h6, List.getElem?_take, if_pos (by omega)] at h7
            exact h7
          · rw [List.getElem?_eq_none (by simp; omega), List.getElem?_eq_none (by omega)]
        rw [e1, ← hx]
        rcases hg with hg | hg
        · apply List.ext_getElem?
          intro j
          simp only [List.getElem?_append, List.length_append, List.length_take, List.length_drop, Array.length_toList, h3, List.getElem?_take, List.getElem?_drop]
          have m1 : min (i * sz + g) (cap * sz) = i * sz + g := by omega
          have m2 : min (i * sz) (cap * sz) = i * sz := by omega
          have m3 : min sz (cap * sz - i * sz) = sz := by omega
          have m4 : min g sz = g := by omega
          simp only [m1, m2, m3, m4]
          by_cases c1 : j < i * sz
          · simp [c1, show j < i * sz + g by omega, show j < i * sz + g + r.length by omega, show j < i * sz + (g + r.length + (sz - (g + r.length))) by omega]
          · by_cases c2 : j < i * sz + g
            · simp [c1, c2, show j < i * sz + g + r.length by omega, show j < i * sz + (g + r.length + (sz - (g + r.length))) by omega, show j - i * sz < g + r.length by omega, show j - i * sz < g by omega, show j - i * sz < sz by omega, show i * sz + (j - i * sz) = j by omega]
            · by_cases c3 : j < i * sz + g + r.length
              · simp [c1, c2, c3, show j < i * sz + (g + r.length + (sz - (g + r.length))) by omega, show j - i * sz < g + r.length by omega, show ¬ j - i * sz < g by omega, show j - i * sz - g = j - (i * sz + g) by omega]
              · by_cases c4 : j < i * sz + sz
                · simp [c1, c2, c3, show j < i * sz + (g + r.length + (sz - (g + r.length))) by omega, show ¬ j - i * sz < g + r.length by omega, show g + r.length + (j - i * sz - (g + r.length)) < sz by omega, show i * sz + (g + r.length + (j - i * sz - (g + r.length))) = j by omega, show i * sz + g + r.length + (j - (i * sz + g + r.length)) = j by omega]
                · simp [c1, c2, c3, show ¬ j < i * sz + (g + r.length + (sz - (g + r.length))) by omega, show i * sz + g + r.length + (j - (i * sz + g + r.length)) = j by omega, show i * sz + sz + (j - (i * sz + (g + r.length + (sz - (g + r.length))))) = j by omega]
        · subst hg
          simp only [List.append_nil, List.length_nil, Nat.add_zero, List.take_append_drop]
          rw [List.append_assoc, ← List.drop_drop, List.take_append_drop, List.take_append_drop]
      by_cases hr0 : r = []
      · subst hr0
        simp only [List.append_nil, List.length_nil, Nat.add_zero, List.take_append_drop] at key
        rw [← key, setRow_self w b _ e (0, 0) (by simpa using h2)]
        rfl
      · have hg : g + r.length ≤ sz := by rcases hg with hg | hg; exact hg; exact (hr0 hg).elim
        have := run_storeCells_at P b (0 + i * sz + g) e r 0 cur w h2 (by omega) (fun v hv => by simpa using List.all_eq_true.1 h1 v hv)
        rw [this]
        rw [Nat.zero_add, Nat.add_zero, key]
    refine ⟨w.setRow b (cur.toList.take (i * sz) ++ f y ++ cur.toList.drop (i * sz + sz)).toArray, ?_, .inr ⟨b, _, rfl, Nat.zero_le _, setRow_heap w b _ _ e _ h2, ?_, by simpa using h4, h5, ?_⟩, ?_⟩
    · unfold Instr.storeAt Instr.sureAddr storeVar
      simp only [Sem.run_bind, Sem.run_pure, Result.andThen_ok, hc, sizeOf, typeInfo, program, ab, ao]
      simp [hinf, hi2, Sem.run]
      have := hst
      simp at this
      exact this
    · simp only [List.size_toArray, List.length_append, List.length_take, List.length_drop, Array.length_toList, h3, ly]; omega
    · rw [List.length_set, flat_set Lf xs i y hi, ← h6]
      simp only [List.toList_toArray]
      rw [List.take_take, Nat.min_eq_left (by omega)]
      apply List.ext_getElem?
      intro j
      simp only [List.getElem?_append, List.length_append, List.length_take, List.length_drop, Array.length_toList, h3, List.getElem?_take, List.getElem?_drop, ly]
      have m2 : min (i * sz) (cap * sz) = i * sz := by omega
      simp only [m2]
      by_cases cj : j < xs.length * sz
      · rw [if_pos cj]
        by_cases c1 : j < i * sz
        · simp [c1, show j < i * sz + sz by omega]
        · by_cases c2 : j < i * sz + sz
          · simp [c1, c2]
          · simp [c1, c2, show i * sz + sz + (j - (i * sz + sz)) = j by omega, cj]
      · rw [if_neg cj]
        simp [show ¬ j < i * sz by omega, show ¬ j < i * sz + sz by omega, show ¬ i * sz + sz + (j - (i * sz + sz)) < xs.length * sz by omega]
    · have := Kp.row w b (cur.toList.take (i * sz) ++ f y ++ cur.toList.drop (i * sz + sz)).toArray
      have hc0 : ¬ cap = 0 := by omega
      simpa [ob, hc0] using this
theorem ob_self {ad : Option Addr} {cap : Nat} {w : World} (h : OwnS f sz w 0 e ad cap xs) : (∀ b ∈ ob ad cap, b < w.heap.size) ∧ (ob ad cap).Nodup := by
  refine ⟨fun b hb => (h.ob_ge b hb).2, ?_⟩
  unfold ob; split
  · exact .nil
  · cases ad <;> simp
theorem oSe [Lf : Lies f sz] {k : Nat} {t : TypeId} {x z : Operand} {i g : Nat} {v : Value} {y : α} (ho : o.op = .store t x z) (hx : ev L x = some (.pointer (some ⟨ab ad, ao ad + i * sz + g, none⟩))) (hz : ev L z = some v) (hH : H[k]? = some (sl f sz e ad cap xs)) (hi : i < xs.length) (hv : stC P t (f xs[i]) g v = some (f y))
    (h1 : (cs1 v).any one1 = true) (hs : (P.info? t).map (·.size) = (cs1 v).map (·.length)) (hH' : setH H k (sl f sz e ad cap (xs.set i y)) = H') :
    OS P o L (Ctx J H) (fun _ : Unit => undef) (fun _ => True) (fun _ => Ctx J H') := by
  intro ρ w hρ hc
  obtain ⟨w', h2, h3, h4⟩ := st_own Lf (hc.at hH) hi hv h1 hs
  simp only [execOp, ho, hρ _ _ hx, hρ _ _ hz, Sem.run_bind, h2]
  subst hH'
  have h5 := ob_self h3
  exact ⟨(), rfl, trivial, hc.upd' hH h4 h3 (fun b hb => ⟨.inl hb, h5.1 b hb⟩) h5.2⟩
/-- The same for a whole element. -/
theorem oSe0 [Lf : Lies f sz] {k : Nat} {t : TypeId} {x z : Operand} {i : Nat} {v : Value} {y : α} (ho : o.op = .store t x z) (hx : ev L x = some (.pointer (some ⟨ab ad, ao ad + i * sz, none⟩))) (hz : ev L z = some v) (hH : H[k]? = some (sl f sz e ad cap xs)) (hi : i < xs.length) (hv : stC P t (f xs[i]) 0 v = some (f y))
    (h1 : (cs1 v).any one1 = true) (hs : (P.info? t).map (·.size) = (cs1 v).map (·.length)) (hH' : setH H k (sl f sz e ad cap (xs.set i y)) = H') :
    OS P o L (Ctx J H) (fun _ : Unit => undef) (fun _ => True) (fun _ => Ctx J H') := oSe (g := 0) ho hx hz hH hi hv h1 hs hH'
theorem oSf [Lf : Lies f sz] {k : Nat} {t : TypeId} {x z : Operand} {i g : Nat} {v : Value} {y : α} (ho : o.op = .store t x z) (hx : ev L x = some (.pointer (some ⟨ab ad, padd (ao ad + i * sz) g, none⟩))) (hz : ev L z = some v) (hH : H[k]? = some (sl f sz e ad cap xs)) (hi : i < xs.length) (hv : stC P t (f xs[i]) g v = some (f y))
    (h1 : (cs1 v).any one1 = true) (hs : (P.info? t).map (·.size) = (cs1 v).map (·.length)) (hH' : setH H k (sl f sz e ad cap (xs.set i y)) = H') :
    OS P o L (Ctx J H) (fun _ : Unit => undef) (fun _ => True) (fun _ => Ctx J H') := oSe (g := g) ho (by rw [padd_eq] at hx; exact hx) hz hH hi hv h1 hs hH'

/-- append. -/
def apo (o : Op) (L : Env) : Option (TypeId × TypeId × Option Addr × Nat × Nat × Value) :=
  match o with
  | .call ⟨.builtin .append, ⟨[s, x]⟩, ⟨[t, tx]⟩⟩ => (match ev L s, ev L x with | some (.slice ad n cap), some v => some (t, tx, ad, n, cap, v) | _, _ => none)
  | _ => none
def inf (P : Program) (t : TypeId) : Option (TypeId × Value × Nat × Nat) :=
  match P.underlying t with
  | some (.slice e) => (match P.info? e with | some i => (match i.zero with | some z => nrm i.size (fun k => some (e, z, k, i.bytes)) | none => none) | none => none)
  | _ => none
theorem inf_eq {t e : TypeId} {z : Value} {k b : Nat} (h : inf P t = some (e, z, k, b)) : P.underlying t = some (.slice e) ∧ (P.info? e).map (fun i => (i.zero, i.size, i.bytes)) = some (some z, k, b) := by
  unfold inf at h
  split at h
  · split at h
    · split at h
      · rw [nrm_eq] at h; cases h
        refine ⟨‹_›, ?_⟩
        rw [‹P.info? e = some _›]; simp [‹TypeInfo.zero _ = some z›]
      · cases h
    · cases h
  · cases h
theorem ap_run [Lf : Lies f sz] {k : Nat} {t tx : TypeId} {m mm : Nat} {xv z : Value} {by' : Nat} {news : List α} {ρ : Operand → Value} {w : World} (hρ : ∀ x u, ev L x = some u → ρ x = u) (hc : Ctx J H w) (ha : apo o.op L = some (t, tx, ad, m, cap, xv)) (hH : H[k]? = some (sl f sz e ad cap xs)) (hm : m = xs.length) (hi : inf P t = some (e, z, sz, by')) (hz : (cs1 z).map (·.length) = some sz) (hby : Nat.ble by' 100000 = true)
    (hs : Src P sz tx xv mm (news.flatMap f) w) (hmm : mm = news.length) (hb : xs.length + news.length ≤ 1000000000) :
    Yl P (fun u w' => ∃ q : Option Addr × Nat, u = .slice q.1 (xs ++ news).length q.2 ∧ True ∧ Ctx J (setH H k (sl f sz e q.1 q.2 (xs ++ news))) w') ((execOp ρ o).run P w) := by
  obtain ⟨dst, op, ty, pos, after, guard⟩ := o
  simp only at ha
  unfold apo at ha
  split at ha
  · split at ha
    · rename_i e1 e2
      cases ha
      obtain ⟨h1, h2⟩ := inf_eq hi
      obtain ⟨r, hr, hl⟩ := Option.map_eq_some_iff.1 hz
      have hcz := cs1_eq hr
      subst hm hmm
      have hby2 := Nat.le_of_ble_eq_true hby
      obtain ⟨ad', cap', w', g1, g2, g3, g4, g5⟩ := own_appendS Lf w t tx ty e z by' 0 h1 h2 (by rw [hcz]; simpa using hl) ad cap xs news xv news.length rfl (hc.at hH) hs (by
        have := Nat.mul_le_mul hb hby2
        omega) (by omega) (Nat.zero_le _)
      refine Yl_val (v := .slice ad' (xs.length + news.length) cap') (w := w') ?_ ⟨(ad', cap'), by simp, trivial, ?_⟩
      · simp only [execOp, resolve, invoke, builtin]
        simp [hρ _ _ e1, hρ _ _ e2, g1]
      · have h5 := ob_self g2
        exact hc.upd' hH g3 g2 (fun b hb => ⟨g4 b hb, h5.1 b hb⟩) h5.2
    · cases ha
  · cases ha
theorem oAp1 [Lf : Lies f sz] {k : Nat} {t tx te e' : TypeId} {m b : Nat} {z : Value} {by' : Nat} {vs : List Value} {y : α} (ha : apo o.op L = some (t, tx, ad, m, cap, .slice (some ⟨b, 0, none⟩) 1 1)) (hH : H[k]? = some (sl f sz e ad cap xs)) (hv : f y = vs) (hm : m = xs.length) (hi : inf P t = some (e, z, sz, by')) (hz : (cs1 z).map (·.length) = some sz) (hby : Nat.ble by' 100000 = true)
    (htx : P.underlying tx = some (.slice e')) (hb : xs.length + 1 ≤ 1000000000) (hH' : ∀ q : Option Addr × Nat, setH H k (sl f sz e q.1 q.2 (xs ++ [y])) = G q) :
    OS P o L (Ctx J (pt b te vs :: H)) (fun q : Option Addr × Nat => .slice q.1 (xs ++ [y]).length q.2) (fun _ => True) (fun q => Ctx J (G q)) := by
  intro ρ w hρ hc
  subst hv
  have := src_oneS (P := P) Lf (w := w) (b := b) (x := y) htx hc.hs.1
  have := ap_run (news := [y]) hρ hc.rest ha hH hm hi hz hby this rfl hb
  simp only [hH'] at this
  exact this
theorem oApJ [Lf : Lies f sz] {k : Nat} {t tx e' : TypeId} {m m2 : Nat} {z : Value} {by' : Nat} {ad2 : Option Addr} {cap2 : Nat} {ys : List α} (ha : apo o.op L = some (t, tx, ad, m, cap, .slice ad2 m2 cap2)) (hJ : ∀ w, allJ J w → Rs f sz ad2 cap2 ys w) (hm2 : m2 = ys.length) (hH : H[k]? = some (sl f sz e ad cap xs)) (hm : m = xs.length) (hi : inf P t = some (e, z, sz, by')) (hz : (cs1 z).map (·.length) = some sz) (hby : Nat.ble by' 100000 = true)
    (htx : P.underlying tx = some (.slice e')) (hb : xs.length + ys.length ≤ 1000000000) (hH' : ∀ q : Option Addr × Nat, setH H k (sl f sz e q.1 q.2 (xs ++ ys)) = G q) :
    OS P o L (Ctx J H) (fun q : Option Addr × Nat => .slice q.1 (xs ++ ys).length q.2) (fun _ => True) (fun q => Ctx J (G q)) := by
  intro ρ w hρ hc
  subst hm2
  have := src_rdS (P := P) Lf (w := w) (hJ w hc.js) htx
  have := ap_run (news := ys) hρ hc ha hH hm hi hz hby this rfl hb
  simp only [hH'] at this
  exact this
/-- make. -/
theorem flat_rep (y : α) : ∀ n, (List.replicate n y).flatMap f = rep n (f y)
  | 0 => rfl
  | n + 1 => by rw [List.replicate_succ, List.flatMap_cons, flat_rep y n]; rfl
theorem oMk [Lf : Lies f sz] {t : TypeId} {x x2 : Operand} {n : Nat} {kk : IntKind} {z : Value} {by' : Nat} {y : α} (ho : o.op = .makeSlice t x x2) (hx : ev L x = some (.int kk (n : Int))) (hx2 : ev L x2 = some (.int kk (n : Int))) (hi : inf P t = some (e, z, sz, by')) (hz : cs1 z = some (f y)) (hby : Nat.ble by' 100000 = true) (hn : n ≤ 1000000000) :
    OS P o L (Ctx J H) (fun b : Nat => .slice (some ⟨b, 0, none⟩) n n) (fun _ => True) (fun b => Ctx J (sl f sz e (some ⟨b, 0, none⟩) n (List.replicate n y) :: H)) := by
  intro ρ w hρ hc
  obtain ⟨h1, h2⟩ := inf_eq hi
  obtain ⟨i, q1, q2, q3, q4⟩ := info_parts h2
  have hby2 := Nat.le_of_ble_eq_true hby
  have hle : (i.bytes : Int) * (n : Int) ≤ 281474976710656 := by
    have := Nat.mul_le_mul hby2 hn
    rw [q4]
    have h3 : ((by' * n : Nat) : Int) ≤ 281474976710656 := by omega
    rw [Int.natCast_mul] at h3; exact h3
  have hr := run_make (P := P) w t e i z h1 q1 q2 kk kk n n (by omega) (by omega) hle (by omega)
  have hzc := cs1_eq hz
  have hsz : z.cells.size = sz := by rw [hzc]; simpa using Lf.len y
  have hm : madeCells z.cells (n * i.size) = (rep n (f y)).toArray := by
    have := rep_eq (f y).toArray (by simpa [Lf.len y] using Lf.pos) n
    rw [hzc, q3]
    simpa [madeCells, Lf.len y] using this
  simp only [Int.toNat_natCast, hm] at hr
  refine Yl_val (v := .slice (some ⟨w.heap.size, 0, none⟩) n n) (w := w.alloc (.cells (rep n (f y)).toArray e)) ?_ ⟨_, rfl, trivial, ?_⟩
  · simp only [execOp, ho, hρ _ _ hx, hρ _ _ hx2, Sem.run_bind, hr]; rfl
  · have hl : (rep n (f y)).length = n * sz := by rw [← flat_rep, flat_length Lf.len]; simp
    have hA : OwnS f sz (w.alloc (.cells (rep n (f y)).toArray e)) 0 e (some ⟨w.heap.size, 0, none⟩) n (List.replicate n y) :=
      .inr ⟨w.heap.size, _, rfl, Nat.zero_le _, heap_alloc_at rfl, by simpa using hl, by simp, by omega, by rw [flat_rep]; simp only [List.length_replicate]; exact List.take_of_length_le (by simp [hl])⟩
    have h5 := ob_self hA
    exact hc.new ((Kp.refl [] w).alloc _) hA (fun b hb => ⟨by unfold sl ob at hb; dsimp only at hb; split at hb <;> simp at hb; omega, h5.1 b hb⟩) h5.2
/-- An empty slice may be appended to. -/
theorem nwS (f : α → List Value) (sz : Nat) (e : TypeId) (ad : Option Addr) (k : HK P n s L (Ctx J (sl f sz e ad 0 [] :: H)) Q) : HK P n s L (Ctx J H) Q :=
  fun a w ha hc => k a w ha (hc.new (Kp.refl _ _) (.inl ⟨rfl, rfl⟩) (by simp [sl, ob]) (by simp [sl, ob]))
/-- What the call owns is only read from now on. -/
theorem Ctx.fzS [Lf : Lies f sz] {w : World} (h : Ctx J (sl f sz e ad cap xs :: H) w) : Ctx (Rs f sz ad cap xs :: J) H w :=
  h.fz.ent fun w j => ⟨OwnS.rd (show OwnS f sz w 0 e ad cap xs from j.1) Lf, j.2⟩
/-- A piece of a slice. -/
def sub (l : List α) (a b : Nat) : List α := (l.take b).drop a
theorem sub_length (l : List α) {a b : Nat} (h : b ≤ l.length) : (sub l a b).length = b - a := by simp [sub]; omega
theorem sub_get (l : List α) {a b i : Nat} (h : i < (sub l a b).length) : (sub l a b)[i] = l[a + i]'(by simp [sub] at h; omega) := by simp [sub]
theorem Rs_sub {w : World} (Lf : Lies f sz) (h : RdS f sz w ad cap xs) {a b : Nat} (hab : a ≤ b) (hb : b ≤ xs.length) : RdS f sz w (if cap = a then ad else ad.map (·.add (a * sz))) (cap - a) (sub xs a b) := by
  have hl := sub_length xs (a := a) hb
  refine ⟨by have := h.1; omega, by have := h.2.1; omega, fun i hi => ?_⟩
  have hc : ¬ cap = a := by have := h.1; omega
  obtain ⟨b', off, e1, h2⟩ := h.2.2 (a + i) (by omega)
  refine ⟨b', off + a * sz, by rw [if_neg hc, e1]; simp [add_eq], fun j hj => ?_⟩
  rw [sub_get, ← h2 j hj, Nat.add_mul]
  simp only [Nat.add_assoc]
def bnd (L : Env) (d : Nat) (x : Option Operand) : Option Int := match x with | none => some (d : Int) | some y => (match ev L y with | some (.int _ z) => some z | _ => none)
theorem bnd_run {d a y : Nat} {x : Option Operand} {ρ : Operand → Value} (hρ : ∀ x u, ev L x = some u → ρ x = u) (h : bnd L d x = some (a : Int)) (hy : a ≤ y) (code : BoundsCode) (w : World) :
    (match x.map ρ with | some v => Instr.sliceBound v y code | none => pure d : Sem Nat).run P w = .ok a w := by
  unfold bnd at h
  split at h
  · have : (d : Int) = a := by simpa using h
    obtain rfl : d = a := by omega
    rfl
  · split at h
    · rename_i k z e1
      have : z = a := by simpa using h
      subst this
      have := run_sliceBound (P := P) w k (a : Int) y code (by omega) (by omega)
      simpa [hρ _ _ e1] using this
    · cases h
theorem oSc [Lf : Lies f sz] {t : TypeId} {x : Operand} {lo hi : Option Operand} {m a b : Nat} (ho : o.op = .slice t x lo hi none) (hx : ev L x = some (.slice ad m cap)) (hJ : ∀ w, allJ J w → Rs f sz ad cap xs w) (hm : m = xs.length)
    (hlo : bnd L 0 lo = some (a : Int)) (hhi : bnd L m hi = some (b : Int)) (ht : esz P t = some sz) (hab : a ≤ b ∧ b ≤ xs.length) :
    OS P o L (Ctx J H) (fun q : Option Addr × Nat => .slice q.1 (sub xs a b).length q.2) (fun _ => True) (fun q => Ctx (Rs f sz q.1 q.2 (sub xs a b) :: J) H) := by
  intro ρ w hρ hc
  obtain ⟨e', inf, h1, h2, h3⟩ := esz_eq ht
  have hcap := (hJ w hc.js).1
  subst hm
  refine Yl_val (v := .slice (if cap = a then ad else ad.map (·.add (a * sz))) (b - a) (cap - a)) (w := w) ?_ ⟨(if cap = a then ad else ad.map (·.add (a * sz)), cap - a), by simp only [sub_length xs hab.2], trivial, hc.ent fun w j => ⟨Rs_sub Lf (hJ w j) hab.1 hab.2, j⟩⟩
  have e1 := bnd_run (P := P) hρ hhi (y := cap) (by omega) .sliceAcap w
  have e2 := bnd_run (P := P) hρ hlo hab.1 .sliceB w
  have e3 : (Instr.sliceBounds true xs.length cap (lo.map ρ) (hi.map ρ) none).run P w = .ok (a, b, cap) w := by
    unfold Instr.sliceBounds
    cases hi <;> cases lo <;> simp at e1 e2 ⊢ <;> simp [e1, e2]
  simp only [execOp, ho, hρ _ _ hx, Instr.sliceAt, Sem.run_bind, run_und h1, Result.andThen_ok, Instr.slice, Option.map_none, e3, sizeOf, typeInfo, program]
  simp [Sem.run, h2, h3]
end
end
end Go.Proofs.YtimemehaccgmmaaGreatDoor
namespace Go.Proofs.YtimemehaccgmmaaGreatDoor
open Go.RowKit
set_option maxRecDepth 100000
set_option linter.unusedSimpArgs false
set_option linter.unusedVariables false
noncomputable section
section
variable {P : Program} {n : Fr} {ops : Array Oper} {o : Oper} {l : List Oper} {s s' : List KI} {L L' : Env} {C C' : World → Prop} {Q : Exit → Act → World → Prop} {J : List (World → Prop)} {H H' : List RC}
def iaV (P : Program) (e : TypeId) (cs : List Value) (m len : Nat) : Option Value :=
  bif Nat.blt m len then (match P.info? e, lsz P e with | some i, some none => (match i.size with | 1 => nthV cs m | _ => none) | _, _ => none) else none
theorem iaV_run {t : TypeId} {x y : Operand} {kk : IntKind} {cs : List Value} {m len : Nat} {e : TypeId} {v : Value} {ρ : Operand → Value} (ho : o.op = .index t x y) (hx : ρ x = .agg ⟨cs⟩) (hy : ρ y = .int kk (m : Int)) (ht : P.underlying t = some (.array len e)) (hv : iaV P e cs m len = some v) (w : World) :
    (execOp ρ o).run P w = .ok (.value v) w := by
  unfold iaV at hv
  cases hb : Nat.blt m len with
  | false => rw [hb] at hv; cases hv
  | true =>
    rw [hb] at hv
    have hlt : m < len := Nat.le_of_ble_eq_true hb
    simp only [cond_true] at hv
    split at hv
    · rename_i i h1 h2
      split at hv
      · rename_i h3
        rw [nthV_eq] at hv
        have e1 := lsz_none h2 w
        have e2 : (part e ⟨cs⟩ m).run P w = .ok v w := by
          unfold part
          rw [Sem.run_bind, e1]
          simp only [Result.andThen_ok]
          simp [hv]
        simp only [execOp, ho, hx, hy, Instr.index, asIntOf, Sem.run_bind, Sem.run_pure, Result.andThen_ok, run_und ht]
        simp only [show ((0 : Int) ≤ (m : Int) ∧ (m : Int) < (len : Int)) from by omega, and_self, if_true, Sem.run_bind, sizeOf, typeInfo, program]
        simp [Sem.run, h1, h3, e2]
      · cases hv
    · cases hv
/-- What an operation is: 1 a load, 2 an index, 3 a store, 4 arithmetic, 5 a pick, 6 what makes memory, 7 a shift, 8 a division. -/
def opk (o : Op) : Nat :=
  match o with
  | .load _ _ => 1
  | .indexAddr _ _ _ => 2
  | .store _ _ _ => 3
  | .binOp .add _ _ _ _ | .binOp .sub _ _ _ _ | .binOp .mul _ _ _ _ | .unOp .neg _ _ | .convert _ _ _ => 4
  | .pick _ _ _ => 5
  | .alloc _ | .box _ _ | .buildSlice _ _ _ => 6
  | .binOp .shl _ _ _ _ | .binOp .shr _ _ _ _ => 7
  | .binOp .quo _ _ _ _ | .binOp .rem _ _ _ _ => 8
  | .makeSlice _ _ _ => 9
  | .slice _ _ _ _ _ => 10
  | .call ⟨.builtin .append, _, _⟩ => 11
  | .index _ _ _ => 12
  | .call ⟨.value _, _, _⟩ => 13
  | _ => 0
theorem kO (m : Nat) (h : opk o.op = m) (k : HK P n (.ops ops (o :: l) :: s) L C Q) : HK P n (.ops ops (o :: l) :: s) L C Q := k
theorem kC {x : Operand} {a b : Code} (k : HK P n (.code (.cond x a b) :: s) L C Q) : HK P n (.code (.cond x a b) :: s) L C Q := k
theorem kG {j : Nat × Bool} (h : o.guard = some j) (k : HK P n (.ops ops (o :: l) :: s) L C Q) : HK P n (.ops ops (o :: l) :: s) L C Q := k
theorem oIa {t : TypeId} {x y : Operand} {kk : IntKind} {cs : List Value} {m len : Nat} {e : TypeId} {v : Value} (ho : o.op = .index t x y) (hx : ev L x = some (.agg ⟨cs⟩)) (hy : ev L y = some (.int kk (m : Int))) (ht : P.underlying t = some (.array len e)) (hv : iaV P e cs m len = some v) :
    OS P o L C (fun _ : Unit => v) (fun _ => True) (fun _ => C) := by
  intro ρ w hρ hc
  exact Yl_val (iaV_run ho (hρ _ _ hx) (hρ _ _ hy) ht hv w) ⟨(), rfl, trivial, hc⟩
theorem oIs {t : TypeId} {x y : Operand} {kk : IntKind} {z : ByteArray} {m : Nat} (ho : o.op = .index t x y) (hx : ev L x = some (.string z)) (hy : ev L y = some (.int kk (m : Int))) (hm : m < z.size) (ht : P.underlying t = some .string := by rfl) :
    OS P o L C (fun _ : Unit => .int .u8 (z[m].toNat : Int)) (fun _ => True) (fun _ => C) := by
  intro ρ w hρ hc
  refine Yl_val (w := w) ?_ ⟨(), rfl, trivial, hc⟩
  simp [execOp, ho, Instr.index, hρ _ _ hx, hρ _ _ hy, asIntOf, run_und ht, hm]
end
end
end Go.Proofs.YtimemehaccgmmaaGreatDoor
