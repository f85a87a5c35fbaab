/-
  Parts of the walks and their plain laws (E17 E18 E21). No condition.
-/
import Derived.Test.YtimemehaccgmmaaGreatDoorM08
import Derived.Laws.StructEq
import Derived.Scope
namespace Go.Proofs.YtimemehaccgmmaaGreatDoor
open Go.RowKit
set_option maxRecDepth 100000
set_option linter.unusedSimpArgs false
set_option linter.unusedVariables false
noncomputable section
theorem take_set {α : Type} {l : List α} {k : Nat} (h : k < l.length) (z : α) : (l.take k ++ List.replicate (l.length - k) z).set k l[k] = l.take (k + 1) ++ List.replicate (l.length - (k + 1)) z := by
  rw [List.set_append_right _ _ (by simp; omega), List.length_take, Nat.min_eq_left (by omega), Nat.sub_self, show l.length - k = (l.length - (k + 1)) + 1 by omega, List.replicate_succ, List.set_cons_zero, List.take_succ_eq_append_getElem h, List.append_assoc, List.singleton_append]
def u64 (n : Int) : Int := n % 18446744073709551616
theorem wi64 {n : Int} (h : -9223372036854775808 ≤ n ∧ n < 9223372036854775808) : IntKind.i64.wrap (u64 n) = n := by
  unfold IntKind.wrap u64
  simp [IntKind.signed, IntKind.bits]
  omega
section
variable {P : Program} {n : Fr} {t : Nat} {ops : Array Oper} {o : Oper} {l : List Oper} {s s' : List KI} {L L' : Env} {C C' : World → Prop} {Q : Exit → Act → World → Prop} {J : List (World → Prop)} {H H' : List RC} {D : List Vq} {E : List Nat}
variable {α : Type} {f : α → List Value} {sz : Nat} {ad ad2 : Option Addr} {cap cap2 : Nat} {xs ys : List α} {e : TypeId}
/-- A slice is laid at the end of the first thing held, in a region that draws. -/
theorem dpJ [Lf : Lies f sz] {e0 : Nat} {t' tx e' : TypeId} {m m2 : Nat} {z : Value} {by' : Nat} (hJ : Ent J (Rs f sz ad2 cap2 ys)) (hb : xs.length + ys.length ≤ 1000000000)
    (k : ∀ q : Option Addr × Nat, DS P n ops t s D (e0 :: E) (bind1 o.dst (.slice q.1 (xs ++ ys).length q.2) L) (Ctx J (sl f sz e q.1 q.2 (xs ++ ys) :: H)) Q)
    (hk : fnd t D E (kB 11) nums ops.toList = some (e0, o) := by rfl) (ha : apo o.op L = some (t', tx, ad, m, cap, .slice ad2 m2 cap2) := by rfl) (hm2 : m2 = ys.length := by exact ln) (hm : m = xs.length := by exact ln)
    (hi : inf P t' = some (e, z, sz, by') := by rfl) (hz : (cs1 z).map (·.length) = some sz := by rfl) (hby : Nat.ble by' 100000 = true := by rfl) (htx : P.underlying tx = some (.slice e') := by rfl)
    (honly : onlyM D E [e0] nums ops.toList = true := by rfl) (hdo : dOk n o.dst = true := by rfl) (hg : gOk o ops L = some true := by rfl) (hsel : selB o.op = false := by rfl)
    (hF : ∀ q : Option Addr × Nat, True → ∀ w, Ctx J (sl f sz e q.1 q.2 (xs ++ ys) :: H) w → allF (deps o) D w := by exact af) : DS P n ops t s D E L (Ctx J (sl f sz e ad cap xs :: H)) Q :=
  kq (kB 11) hk (qX (oApJ (k := 0) (G := fun q => sl f sz e q.1 q.2 (xs ++ ys) :: H) ha hJ hm2 rfl hm hi hz hby htx hb fun _ => rfl) honly hdo hg hsel hF fun q => k q)
theorem oCp [Lf : Lies f sz] {k : Nat} {dT sT : TypeId} {x y : Operand} {m m2 : Nat} {z : Value} {by' : Nat} (ho : o.op = .call ⟨.builtin .copy, ⟨[x, y]⟩, ⟨[dT, sT]⟩⟩) (hx : ev L x = some (.slice ad m cap)) (hy : ev L y = some (.slice ad2 m2 cap2)) (hH : H[k]? = some (sl f sz e ad cap xs)) (hJ : Ent J (Rs f sz ad2 cap2 ys))
    (hm : m = xs.length) (hm2 : m2 = ys.length) (hl : xs.length = ys.length) (hi : inf P dT = some (e, z, sz, by')) {e' : TypeId} (htx : P.underlying sT = some (.slice e')) (hH' : setH H k (sl f sz e ad cap ys) = H') :
    OS P o L (Ctx J H) (fun _ : Unit => .int .i64 m) (fun _ => True) (fun _ => Ctx J H') := by
  intro ρ w hρ hc
  obtain ⟨dst, op, ty, pos, after, guard⟩ := o
  simp only at ho
  subst ho hm2 hm hH'
  obtain ⟨h1, h2⟩ := inf_eq hi
  obtain ⟨i, q1, q2, q3, q4⟩ := info_parts h2
  have hs := src_rdS (P := P) Lf (w := w) (hJ w hc.js) htx
  have hfl := flat_length Lf.len ys
  have hcl := hs.cells
  have hlen := hs.len
  have hfin : ∀ w', (Builtin.copy_ #[dT, sT] ty #[.slice ad xs.length cap, .slice ad2 ys.length cap2]).run P w = .ok (.int .i64 xs.length) w' → (execOp ρ ⟨dst, .call ⟨.builtin .copy, ⟨[x, y]⟩, ⟨[dT, sT]⟩⟩, ty, pos, after, guard⟩).run P w = .ok (.value (.int .i64 xs.length)) w' := by
    intro w' h
    simp only [execOp, resolve, invoke, builtin]
    simp [hρ _ _ hx, hρ _ _ hy, h]
  have hrun : ∀ w', (match ad with | some a => storeCells a (ys.flatMap f) | none => pure () : Sem Unit).run P w = .ok () w' → (Builtin.copy_ #[dT, sT] ty #[.slice ad xs.length cap, .slice ad2 ys.length cap2]).run P w = .ok (.int .i64 xs.length) w' := by
    intro w' h
    have e1 : Nat.min xs.length xs.length = xs.length := Nat.min_self _
    rw [← hl] at hcl hlen ⊢
    cases ad with
    | none =>
      have h' : (Result.ok () w : Result Unit) = .ok () w' := h
      cases h'
      simp [Builtin.copy_, run_underlying h1, hlen, e1, sizeOf, typeInfo, q1, q3, hcl, goInt]
    | some a =>
      have h' : (storeCells a (ys.flatMap f)).run P w = .ok () w' := h
      simp [Builtin.copy_, run_underlying h1, hlen, e1, sizeOf, typeInfo, q1, q3, hcl, goInt, h']
  rcases hc.at hH with ⟨h0, h0'⟩ | ⟨g, cur, rfl, g1, g2, g3, g4, g5, g6⟩
  · have hys : ys = [] := List.eq_nil_of_length_eq_zero (by rw [← hl, h0']; rfl)
    subst hys h0'
    refine Yl_val (hfin w (hrun w ?_)) ⟨(), rfl, trivial, ?_⟩
    · cases ad <;> rfl
    · exact hc.upd' hH (Kp.refl _ _) (hc.at hH) (fun b hb => ⟨.inl hb, (ob_self (hc.at hH)).1 b hb⟩) (ob_self (hc.at hH)).2
  · have hle : ys.length * sz ≤ cap * sz := Nat.mul_le_mul_right sz (by omega)
    have hst := run_storeCells_at P g 0 e (ys.flatMap f) 0 cur w g2 (by rw [hfl, g3]; omega) (fun v hv => by obtain ⟨x, -, hx⟩ := List.mem_flatMap.1 hv; exact Lf.one x v hx)
    simp only [Nat.add_zero, Nat.zero_add, List.take_zero, List.nil_append] at hst
    have hA : OwnS f sz (w.setRow g (ys.flatMap f ++ cur.toList.drop (ys.flatMap f).length).toArray) 0 e (some ⟨g, 0, none⟩) cap ys := by
      refine .inr ⟨g, _, rfl, Nat.zero_le _, setRow_heap w g _ _ e _ g2, ?_, by omega, g5, ?_⟩
      · simp only [List.size_toArray, List.length_append, List.length_drop, Array.length_toList, hfl, g3]; omega
      · simp only [List.toList_toArray]; exact List.take_left' hfl
    refine Yl_val (hfin _ (hrun _ hst)) ⟨(), rfl, trivial, ?_⟩
    have h5 := ob_self hA
    refine hc.upd' hH ?_ hA (fun b hb => ⟨.inl hb, h5.1 b hb⟩) h5.2
    by_cases h0 : cap = 0
    · have : ys = [] := List.eq_nil_of_length_eq_zero (by omega)
      subst this
      simp only [List.flatMap_nil, List.nil_append, List.length_nil, List.drop_zero, Array.toArray_toList]
      rw [setRow_self w g cur e (0, 0) g2]
      exact Kp.refl _ _
    · have := Kp.row w g (ys.flatMap f ++ cur.toList.drop (ys.flatMap f).length).toArray
      simpa [sl, ob, h0] using this
/-- What is read is copied into the first thing held. -/
theorem cpJ [Lf : Lies f sz] {d : Nat} {dT sT e' : TypeId} {x y : Operand} {m m2 : Nat} {z : Value} {by' : Nat} (hJ : Ent J (Rs f sz ad2 cap2 ys))
    (k : HK P n (.ops ops l :: s) ((d, .int .i64 m) :: L) (Ctx J (sl f sz e ad cap ys :: H)) Q) (hl : xs.length = ys.length := by first | rfl | omega | (simp <;> omega))
    (hg : gOk o ops L = some true := by rfl) (hd : o.dst = some d := by rfl) (hn : Nat.blt d n.1 = true := by rfl) (ho : o.op = .call ⟨.builtin .copy, ⟨[x, y]⟩, ⟨[dT, sT]⟩⟩ := by rfl) (hx : ev L x = some (.slice ad m cap) := by rfl) (hy : ev L y = some (.slice ad2 m2 cap2) := by rfl)
    (hm : m = xs.length := by exact ln) (hm2 : m2 = ys.length := by exact ln) (hi : inf P dT = some (e, z, sz, by') := by rfl) (htx : P.underlying sT = some (.slice e') := by rfl) : HK P n (.ops ops (o :: l) :: s) L (Ctx J (sl f sz e ad cap xs :: H)) Q :=
  hs hg hd hn (oCp (k := 0) ho hx hy rfl hJ hm hm2 hl hi htx rfl) fun _ _ => k
theorem rep_add (k m : Nat) (l : List Value) : rep (k + m) l = rep k l ++ rep m l := by
  induction k with
  | zero => simp [rep]
  | succ k ih => rw [Nat.succ_add]; simp only [rep, ih, List.append_assoc]
/-- make, with room behind. -/
theorem oMk2 [Lf : Lies f sz] {t : TypeId} {x x2 : Operand} {a n : Nat} {kk kk2 : IntKind} {z : Value} {by' : Nat} {y : α} (ho : o.op = .makeSlice t x x2) (hx : ev L x = some (.int kk (a : Int))) (hx2 : ev L x2 = some (.int kk2 (n : Int))) (hi : inf P t = some (e, z, sz, by')) (hz : cs1 z = some (f y)) (hby : Nat.ble by' 100000 = true) (han : a ≤ n) (hn : n ≤ 1000000000) :
    OS P o L (Ctx J H) (fun b : Nat => .slice (some ⟨b, 0, none⟩) a n) (fun _ => True) (fun b => Ctx J (sl f sz e (some ⟨b, 0, none⟩) n (List.replicate a y) :: H)) := by
  intro ρ w hρ hc
  obtain ⟨h1, h2⟩ := inf_eq hi
  obtain ⟨i, q1, q2, q3, q4⟩ := info_parts h2
  have hby2 := Nat.le_of_ble_eq_true hby
  have hle : (i.bytes : Int) * (n : Int) ≤ 281474976710656 := by
    have := Nat.mul_le_mul hby2 hn
    rw [q4]
    have h3 : ((by' * n : Nat) : Int) ≤ 281474976710656 := by omega
    rw [Int.natCast_mul] at h3; exact h3
  have hle2 : (i.bytes : Int) * (a : Int) ≤ 281474976710656 := by
    have : (i.bytes : Int) * (a : Int) ≤ i.bytes * n := Int.mul_le_mul_of_nonneg_left (by omega) (by omega)
    omega
  have hr := run_make (P := P) w t e i z h1 q1 q2 kk kk2 a n (by omega) (by omega) hle (by omega)
  have hzc := cs1_eq hz
  have hsz : z.cells.size = sz := by rw [hzc]; simpa using Lf.len y
  have hm : madeCells z.cells (n * i.size) = (rep n (f y)).toArray := by
    have := rep_eq (f y).toArray (by simpa [Lf.len y] using Lf.pos) n
    rw [hzc, q3]
    simpa [madeCells, Lf.len y] using this
  simp only [Int.toNat_natCast, hm] at hr
  refine Yl_val (v := .slice (some ⟨w.heap.size, 0, none⟩) a n) (w := w.alloc (.cells (rep n (f y)).toArray e)) ?_ ⟨_, rfl, trivial, ?_⟩
  · simp only [execOp, ho, hρ _ _ hx, hρ _ _ hx2, Sem.run_bind, hr]; rfl
  · have hl : ∀ n, (rep n (f y)).length = n * sz := fun n => by rw [← flat_rep, flat_length Lf.len]; simp
    have hA : OwnS f sz (w.alloc (.cells (rep n (f y)).toArray e)) 0 e (some ⟨w.heap.size, 0, none⟩) n (List.replicate a y) :=
      .inr ⟨w.heap.size, _, rfl, Nat.zero_le _, heap_alloc_at rfl, by simpa using hl n, by simpa using han, by omega, by
        rw [flat_rep]; simp only [List.length_replicate]
        rw [show n = a + (n - a) by omega, rep_add]
        exact List.take_left' (hl a)⟩
    have h5 := ob_self hA
    exact hc.new ((Kp.refl [] w).alloc _) hA (fun b hb => ⟨by unfold sl ob at hb; dsimp only at hb; split at hb <;> simp at hb; omega, h5.1 b hb⟩) h5.2
/-- An empty slice with room is made. -/
theorem mk0 (f : α → List Value) {sz : Nat} [Lf : Lies f sz] (y : α) {d m : Nat} {e t : TypeId} {x x2 : Operand} {kk kk2 : IntKind} {z : Value} {by' : Nat}
    (k : ∀ b : Nat, HK P n (.ops ops l :: s) ((d, .slice (some ⟨b, 0, none⟩) 0 m) :: L) (Ctx J (sl f sz e (some ⟨b, 0, none⟩) m [] :: H)) Q)
    (hg : gOk o ops L = some true := by rfl) (hd : o.dst = some d := by rfl) (hn : Nat.blt d n.1 = true := by rfl) (ho : o.op = .makeSlice t x x2 := by rfl) (hx : ev L x = some (.int kk ((0 : Nat) : Int)) := by rfl) (hx2 : ev L x2 = some (.int kk2 (m : Int)) := by rfl)
    (hi : inf P t = some (e, z, sz, by') := by rfl) (hz : cs1 z = some (f y) := by rfl) (hby : Nat.ble by' 100000 = true := by rfl) (hm : m ≤ 1000000000 := by first | omega | (simp <;> omega)) : HK P n (.ops ops (o :: l) :: s) L (Ctx J H) Q :=
  hs hg hd hn (oMk2 (f := f) (y := y) ho hx hx2 hi hz hby (Nat.zero_le _) hm) fun b _ => k b
/-- A piece of a slice that is read. -/
theorem sc [Lf : Lies f sz] (a b : Nat) {d m : Nat} {t : TypeId} {x : Operand} {lo hi : Option Operand} (hJ : Ent J (Rs f sz ad cap xs))
    (k : ∀ q : Option Addr × Nat, HK P n (.ops ops l :: s) ((d, .slice q.1 (sub xs a b).length q.2) :: L) (Ctx (Rs f sz q.1 q.2 (sub xs a b) :: J) H) Q)
    (hg : gOk o ops L = some true := by rfl) (hd : o.dst = some d := by rfl) (hn : Nat.blt d n.1 = true := by rfl) (ho : o.op = .slice t x lo hi none := by rfl) (hx : ev L x = some (.slice ad m cap) := by rfl) (hm : m = xs.length := by exact ln)
    (hlo : bnd L 0 lo = some (a : Int) := by rfl) (hhi : bnd L m hi = some (b : Int) := by rfl) (ht : esz P t = some sz := by rfl) (hab : a ≤ b ∧ b ≤ xs.length := by first | omega | (simp <;> omega)) : HK P n (.ops ops (o :: l) :: s) L (Ctx J H) Q :=
  hs hg hd hn (oSc ho hx hJ hm hlo hhi ht hab) fun q _ => k q
/-- A piece of a slice that is read, in a region that draws. -/
theorem dSc [Lf : Lies f sz] (a b : Nat) {i d m : Nat} {t' : TypeId} {x : Operand} {lo hi : Option Operand} (hJ : Ent J (Rs f sz ad cap xs))
    (k : ∀ q : Option Addr × Nat, DS P n ops t s (⟨i, .slice q.1 (sub xs a b).length q.2, some (Rs f sz ad cap xs)⟩ :: D) E ((d, .slice q.1 (sub xs a b).length q.2) :: L) (Ctx (Rs f sz q.1 q.2 (sub xs a b) :: J) H) Q)
    (hk : fnd t D E (kB 10) nums ops.toList = some (i, o) := by rfl) (ho : o.op = .slice t' x lo hi none := by rfl) (hx : ev L x = some (.slice ad m cap) := by rfl) (hm : m = xs.length := by exact ln)
    (hlo : bnd L 0 lo = some (a : Int) := by rfl) (hhi : bnd L m hi = some (b : Int) := by rfl) (ht : esz P t' = some sz := by rfl) (hab : a ≤ b ∧ b ≤ xs.length := by first | omega | (simp <;> omega)) (hd : o.dst = some d := by rfl) (hn : Nat.blt d n.1 = true := by rfl) (hg : gOk o ops L = some true := by rfl) : DS P n ops t s D E L (Ctx J H) Q :=
  kq (kB 10) hk (qSc ho hx hJ hm hlo hhi ht hab hd hn hg k)
/-- Results, some of which lie in variables. -/
theorem rv {fn : Func} {nn : Nat} {X : Type} {v : X → Value} {p : X → Prop} {C' : X → World → Prop} {vs : List Value} (x : X) (hp : p x) (hC : ∀ w, C w → C' x w)
    (h : RL P C L fn.results.toList vs := by
      repeat (first
        | exact RL.nil
        | apply RL.tmp rfl
        | apply RL.cell rfl (fun _ h => h.at (k := 0) rfl) rfl
        | apply RL.cell rfl (fun _ h => h.at (k := 1) rfl) rfl
        | apply RL.cell rfl (fun _ h => h.at (k := 2) rfl) rfl
        | apply RL.cell rfl (fun _ h => h.at (k := 3) rfl) rfl
        | apply RL.cell rfl (fun _ h => h.at (k := 4) rfl) rfl
        | apply RL.cell rfl (fun _ h => h.at (k := 5) rfl) rfl
        | apply RL.cell rfl (fun _ h => h.at (k := 6) rfl) rfl
        | apply RL.cell rfl (fun _ h => h.at (k := 7) rfl) rfl
        | apply RL.cell rfl (fun _ h => h.at (k := 8) rfl) rfl
        | apply RL.cell rfl (fun _ h => h.at (k := 9) rfl) rfl
        | apply RL.cell rfl (fun _ h => je0 _ h.js) rfl
        | apply RL.cell rfl (fun _ h => je1 _ h.js) rfl
        | apply RL.cell rfl (fun _ h => je2 _ h.js) rfl
        | apply RL.cell rfl (fun _ h => je3 _ h.js) rfl
        | apply RL.cell rfl (fun _ h => je4 _ h.js) rfl
        | apply RL.cell rfl (fun _ h => je5 _ h.js) rfl)) (hv : pack vs = v x := by rfl) (hl : Nat.ble vs.length 3 = true := by rfl) : HK P (nn, []) (.code .ret :: s) L C (bodyPost P fn fun e w' => ∃ x, e = .returned (v x) ∧ p x ∧ C' x w') := rc x hp hC h hv hl
/-- The k-th of what is held is left. -/
theorem Ctx.drp {w : World} (k : Nat) (h : Ctx J H w) {r : RC} (e : frn H k = some (r, H') := by rfl) : Ctx J H' w := (h.perm (frn_perm (k := k) e)).rest
end
end
end Go.Proofs.YtimemehaccgmmaaGreatDoor
namespace Go.Proofs.YtimemehaccgmmaaGreatDoor
open Go.RowKit
set_option maxRecDepth 100000
set_option linter.unusedSimpArgs false
set_option linter.unusedVariables false
noncomputable section
section
variable {P : Program} {n : Fr} {t : Nat} {ops : Array Oper} {o : Oper} {l : List Oper} {s s' : List KI} {L L' : Env} {C C' : World → Prop} {Q : Exit → Act → World → Prop} {J : List (World → Prop)} {H H' : List RC} {D : List Vq} {E : List Nat}
variable {α : Type} {f : α → List Value} {sz : Nat} {ad ad2 : Option Addr} {cap cap2 : Nat} {xs ys : List α} {e : TypeId}
theorem flat_take [Lf : Lies f sz] (xs : List α) (a : Nat) : (xs.take a).flatMap f = (xs.flatMap f).take ((xs.take a).length * sz) := by
  have e : xs.flatMap f = (xs.take a).flatMap f ++ (xs.drop a).flatMap f := by rw [← List.flatMap_append, List.take_append_drop]
  rw [e, List.take_left' (flat_length Lf.len _)]
/-- Where a piece of a slice begins. -/
def sbA (ad : Option Addr) (cap a sz : Nat) : Option Addr := if cap = a then ad else ad.map (·.add (a * sz))
theorem sbA_ab {g : Nat} {cap a sz : Nat} (h : cap ≠ a) : sbA (some ⟨g, 0, none⟩) cap a sz = some ⟨g, a * sz, none⟩ := by
  unfold sbA; rw [if_neg h]; simp [add_eq]
/-- A piece of a slice of the call's own. -/
theorem qScS {t' : TypeId} {x : Operand} {lo hi : Option Operand} {m a b : Nat} (ho : o.op = .slice t' x lo hi none) (hx : ev L x = some (.slice ad m cap))
    (hlo : bnd L 0 lo = some (a : Int)) (hhi : bnd L m hi = some (b : Int)) (ht : esz P t' = some sz) (hab : a ≤ b ∧ b ≤ xs.length) : OQ P o L (some (sl f sz e ad cap xs).A) (.slice (sbA ad cap a sz) (b - a) (cap - a)) := by
  refine ⟨by rw [ho]; rfl, fun ρ w hρ hF => ?_⟩
  obtain ⟨e', inf, h1, h2, h3⟩ := esz_eq ht
  have hcap : xs.length ≤ cap := by
    rcases (show OwnS f sz w 0 e ad cap xs from hF) with ⟨h, h'⟩ | ⟨g, cur, -, -, -, -, h, -⟩
    · subst h'; simp
    · exact h
  have e1 := bnd_run (P := P) hρ hhi (y := cap) (by omega) .sliceAcap w
  have e2 := bnd_run (P := P) hρ hlo hab.1 .sliceB w
  have e3 : (Instr.sliceBounds true m cap (lo.map ρ) (hi.map ρ) none).run P w = .ok (a, b, cap) w := by
    unfold Instr.sliceBounds
    cases hi <;> cases lo <;> simp at e1 e2 ⊢ <;> simp [e1, e2]
  simp only [execOp, ho, hρ _ _ hx, Instr.sliceAt, Sem.run_bind, run_und h1, Result.andThen_ok, Instr.slice, Option.map_none, e3, sizeOf, typeInfo, program]
  simp [Sem.run, h2, h3, sbA]
theorem sbA_zero (ad : Option Addr) (cap sz : Nat) : sbA ad cap 0 sz = ad := by
  unfold sbA
  split
  · rfl
  · cases ad with
    | none => rfl
    | some a => obtain ⟨b, o, q⟩ := a; simp [Addr.add]
/-- A place in a piece. -/
theorem run_ixb {t : TypeId} {i a m c : Nat} {kk : IntKind} (w : World) (h : OwnS f sz w 0 e ad cap xs) (ht : esz P t = some sz) (hi : i < m) (ham : a + m ≤ xs.length) :
    (Instr.indexAt t (.slice (sbA ad cap a sz) m c) (.int kk i)).run P w = .ok (.pointer (some ⟨ab ad, ao ad + (a + i) * sz, none⟩)) w := by
  rcases h with ⟨-, h⟩ | ⟨g, cur, rfl, -, -, -, h4, -⟩
  · subst h; simp at ham; omega
  · rw [sbA_ab (by omega)]
    have := run_ix (P := P) (ad := some ⟨g, a * sz, none⟩) (len := m) (cap := c) (kk := kk) (i := i) ht hi rfl w
    rw [this]
    simp only [ab, ao, Nat.zero_add, Nat.add_mul]
theorem qIxB {t : TypeId} {x y : Operand} {m i a c : Nat} {kk : IntKind} (ho : o.op = .indexAddr t x y) (hx : ev L x = some (.slice (sbA ad cap a sz) m c)) (hy : ev L y = some (.int kk (i : Int))) (ht : esz P t = some sz) (hi : i < m) (ham : a + m ≤ xs.length) :
    OQ P o L (some (sl f sz e ad cap xs).A) (.pointer (some ⟨ab ad, ao ad + (a + i) * sz, none⟩)) := by
  refine ⟨by rw [ho]; rfl, fun ρ w hρ hF => ?_⟩
  have := run_ixb (P := P) (c := c) (kk := kk) w (show OwnS f sz w 0 e ad cap xs from hF) ht hi ham
  simp only [execOp, ho, hρ _ _ hx, hρ _ _ hy, Sem.run_bind, this]; rfl
/-- Two structs alike? -/
theorem qEq {op : BinOp} {t' t2 : TypeId} {x y : Operand} {a b : Array Value} {r : Value} (ho : o.op = .binOp op t' x y t2) (hop : (op matches .eql | .neq) = true) (hx : ev L x = some (.agg a)) (hy : ev L y = some (.agg b)) (hg : P.eqGuardType P.depth t' = false) (h : ∀ w, (binOp op t' (.agg a) (.agg b)).run P w = .ok r w) : OQ P o L none r := by
  refine ⟨by rw [ho]; rfl, fun ρ w hρ _ => ?_⟩
  simp only [execOp, ho, hρ _ _ hx, hρ _ _ hy]
  have e1 : (eqGuard op t' x y (.agg a) (.agg b)).run P w = .ok () w := by
    unfold eqGuard
    cases op <;> simp at hop ⊢ <;> (intro h9; rw [hg] at h9; cases h9)
  rw [Sem.run_bind, Sem.run_bind, e1]
  simp [h w]
/-- The end of a slice is cleared. -/
theorem oClS [Lf : Lies f sz] {k : Nat} {t : TypeId} {x : Operand} {a m c : Nat} {z : Value} {by' : Nat} (ho : o.op = .call ⟨.builtin .clear, ⟨[x]⟩, ⟨[t]⟩⟩) (hx : ev L x = some (.slice (sbA ad cap a sz) m c)) (hH : H[k]? = some (sl f sz e ad cap xs)) (hi : inf P t = some (e, z, sz, by')) (hz : (cs1 z).map (·.length) = some sz) (h1 : (cs1 z).any one1 = true) (ham : a + m ≤ xs.length)
    (hH' : setH H k (sl f sz e ad cap (xs.take a)) = H') : OS P o L (Ctx J H) (fun _ : Unit => .tuple #[]) (fun _ => True) (fun _ => Ctx J H') := by
  intro ρ w hρ hc
  obtain ⟨dst, op, ty, pos, after, guard⟩ := o
  simp only at ho
  subst ho hH'
  obtain ⟨e1, e2⟩ := inf_eq hi
  obtain ⟨i, q1, q2, q3, q4⟩ := info_parts e2
  obtain ⟨r, hr, hl⟩ := Option.map_eq_some_iff.1 hz
  have hcz := cs1_eq hr
  rw [hr] at h1
  simp only [Option.any_some, one1] at h1
  have key : ∃ w', (Builtin.clear_ #[t] ty #[.slice (sbA ad cap a sz) m c]).run P w = .ok (.tuple #[]) w' ∧ OwnS f sz w' 0 e ad cap (xs.take a) ∧ Kp (ob ad cap) w w' := by
    have hsh : ∀ g cur, ad = some ⟨g, 0, none⟩ → w.heap[g]? = some (.cells cur e (0, 0)) → cur.size = cap * sz → xs.length ≤ cap → cap ≤ 9223372036854775807 → cur.toList.take (xs.length * sz) = xs.flatMap f → OwnS f sz w 0 e ad cap (xs.take a) := by
      intro g cur h0 h2 h3 h4 h5 h6
      refine .inr ⟨g, cur, h0, Nat.zero_le _, h2, h3, by simp; omega, h5, ?_⟩
      have hla : (xs.take a).length = a := by rw [List.length_take]; omega
      rw [hla]
      have h7 := flat_take (f := f) (sz := sz) xs a
      rw [hla] at h7
      rw [h7, ← h6, List.take_take, Nat.min_eq_left (Nat.mul_le_mul_right sz (by omega))]
    rcases hc.at hH with ⟨h0, h0'⟩ | ⟨g, cur, rfl, -, h2, h3, h4, h5, h6⟩
    · subst h0'
      have hm0 : m = 0 := by simp at ham; omega
      subst hm0
      refine ⟨w, ?_, .inl ⟨h0, by simp⟩, Kp.refl _ _⟩
      cases sbA ad cap a sz <;> simp [Builtin.clear_, run_underlying e1]
    · by_cases hm0 : m = 0
      · subst hm0
        refine ⟨w, ?_, hsh g cur rfl h2 h3 h4 h5 h6, Kp.refl _ _⟩
        cases sbA (some ⟨g, 0, none⟩) cap a sz <;> simp [Builtin.clear_, run_underlying e1]
      · have hne : cap ≠ a := by omega
        rw [sbA_ab hne]
        have hzl : (Builtin.zeroCells z.cells m).toList.length = m * sz := by
          rw [Array.length_toList, size_zeroCells, hcz]; simp [hl]
        have hle : (a + m) * sz ≤ cap * sz := Nat.mul_le_mul_right sz (by omega)
        rw [Nat.add_mul] at hle
        have hst := run_storeCells_at P g (a * sz) e (Builtin.zeroCells z.cells m).toList 0 cur w h2 (by rw [hzl, h3]; omega) (fun v hv => by
          have : v ∈ r := by
            simp only [Builtin.zeroCells, hcz, Array.toList_map, List.mem_map] at hv
            obtain ⟨j, hj, rfl⟩ := hv
            have hr0 : 0 < r.length := by rw [hl]; exact Lf.pos
            have hlt : j % r.length < r.length := Nat.mod_lt _ hr0
            simp [hlt]
          exact List.all_eq_true.1 h1 v this)
        simp only [Nat.add_zero] at hst
        refine ⟨w.setRow g (cur.toList.take (a * sz) ++ (Builtin.zeroCells z.cells m).toList ++ cur.toList.drop (a * sz + (Builtin.zeroCells z.cells m).toList.length)).toArray, ?_, ?_, ?_⟩
        · obtain ⟨m', rfl⟩ : ∃ m', m = m' + 1 := ⟨m - 1, by omega⟩
          simp [Builtin.clear_, run_underlying e1, zeroValue, typeInfo, q1, q2, hst]
        · refine .inr ⟨g, _, rfl, Nat.zero_le _, setRow_heap w g _ _ e _ h2, ?_, by simp; omega, h5, ?_⟩
          · simp only [List.size_toArray, List.length_append, List.length_take, List.length_drop, Array.length_toList, h3, hzl]; omega
          · have hla : (xs.take a).length = a := by rw [List.length_take]; omega
            have h7 := flat_take (f := f) (sz := sz) xs a
            rw [hla] at h7
            have h8 : (cur.toList.take (a * sz)).length = a * sz := by
              rw [List.length_take, Array.length_toList, h3]; omega
            simp only [List.toList_toArray]
            rw [hla, List.append_assoc, List.take_left' h8, h7, ← h6, List.take_take, Nat.min_eq_left (Nat.mul_le_mul_right sz (by omega))]
        · have hc0 : ¬ cap = 0 := by omega
          simpa [ob, hc0] using Kp.row w g _
  obtain ⟨w', g1, g2, g3⟩ := key
  refine Yl_val (v := .tuple #[]) (w := w') ?_ ⟨(), rfl, trivial, ?_⟩
  · simp only [execOp, resolve, invoke, builtin]
    simp [hρ _ _ hx, g1]
  · have h5 := ob_self g2
    exact hc.upd' hH g3 g2 (fun b hb => ⟨.inl hb, h5.1 b hb⟩) h5.2
/-- Less of a slice of the call's own. -/
theorem Ctx.cutS [Lf : Lies f sz] {w : World} (a : Nat) (h : Ctx J (sl f sz e ad cap xs :: H) w) : Ctx J (sl f sz e ad cap (xs.take a) :: H) w := by
  have hA : OwnS f sz w 0 e ad cap (xs.take a) := by
    rcases (show OwnS f sz w 0 e ad cap xs from h.hs.1) with ⟨h0, h0'⟩ | ⟨g, cur, rfl, -, h2, h3, h4, h5, h6⟩
    · exact .inl ⟨h0, by rw [h0']; simp⟩
    · refine .inr ⟨g, cur, rfl, Nat.zero_le _, h2, h3, by simp; omega, h5, ?_⟩
      have h7 := flat_take (f := f) (sz := sz) xs a
      rw [h7, ← h6, List.take_take, Nat.min_eq_left (Nat.mul_le_mul_right sz (by simp; omega))]
  exact h.upd (Kp.refl _ _) hA (fun b hb => ⟨.inl hb, (ob_self hA).1 b hb⟩) (ob_self hA).2
end
end
end Go.Proofs.YtimemehaccgmmaaGreatDoor
namespace Go.Proofs.YtimemehaccgmmaaGreatDoor
open Go.RowKit
set_option maxRecDepth 100000
set_option linter.unusedSimpArgs false
set_option linter.unusedVariables false
noncomputable section
section
variable {P : Program} {n : Fr} {ops : Array Oper} {o : Oper} {l : List Oper} {s s' : List KI} {L L' : Env} {C C' : World → Prop} {Q : Exit → Act → World → Prop} {J : List (World → Prop)} {H H' : List RC}
variable {α : Type} {f : α → List Value} {sz : Nat} {ad ad2 : Option Addr} {cap cap2 : Nat} {xs ys : List α} {e : TypeId}
/-- One element that is told is laid behind. -/
theorem ap1 (y : α) [Lf : Lies f sz] {d : Nat} {t tx te e' : TypeId} {m b : Nat} {z : Value} {by' : Nat} {vs : List Value}
    (k : ∀ q : Option Addr × Nat, HK P n (.ops ops l :: s) ((d, .slice q.1 (xs ++ [y]).length q.2) :: L) (Ctx J (sl f sz e q.1 q.2 (xs ++ [y]) :: H)) Q)
    (hv : f y = vs := by rfl) (hb : xs.length + 1 ≤ 1000000000 := by first | omega | (simp <;> omega))
    (hg : gOk o ops L = some true := by rfl) (hd : o.dst = some d := by rfl) (hn : Nat.blt d n.1 = true := by rfl)
    (ha : apo o.op L = some (t, tx, ad, m, cap, .slice (some ⟨b, 0, none⟩) 1 1) := by rfl) (hm : m = xs.length := by exact ln) (hi : inf P t = some (e, z, sz, by') := by rfl) (hz : (cs1 z).map (·.length) = some sz := by rfl) (hby : Nat.ble by' 100000 = true := by rfl)
    (htx : P.underlying tx = some (.slice e') := by rfl) : HK P n (.ops ops (o :: l) :: s) L (Ctx J (pt b te vs :: sl f sz e ad cap xs :: H)) Q :=
  hs hg hd hn (oAp1 (k := 0) (G := fun q => sl f sz e q.1 q.2 (xs ++ [y]) :: H) ha rfl hv hm hi hz hby htx hb fun _ => rfl) fun q _ => k q
theorem dp1 (y : α) [Lf : Lies f sz] {t0 e0 : Nat} {D : List Vq} {E : List Nat} {t tx te e' : TypeId} {m b : Nat} {z : Value} {by' : Nat} {vs : List Value}
    (k : ∀ q : Option Addr × Nat, DS P n ops t0 s D (e0 :: E) (bind1 o.dst (.slice q.1 (xs ++ [y]).length q.2) L) (Ctx J (sl f sz e q.1 q.2 (xs ++ [y]) :: H)) Q)
    (hv : f y = vs := by rfl) (hb : xs.length + 1 ≤ 1000000000 := by first | omega | (simp <;> omega))
    (h : fnd t0 D E (kB 11) nums ops.toList = some (e0, o) := by rfl) (honly : onlyM D E [e0] nums ops.toList = true := by rfl) (hdo : dOk n o.dst = true := by rfl) (hg : gOk o ops L = some true := by rfl) (hsel : selB o.op = false := by rfl)
    (hF : ∀ q : Option Addr × Nat, True → ∀ w, Ctx J (sl f sz e q.1 q.2 (xs ++ [y]) :: H) w → allF (deps o) D w := by exact af)
    (ha : apo o.op L = some (t, tx, ad, m, cap, .slice (some ⟨b, 0, none⟩) 1 1) := by rfl) (hm : m = xs.length := by exact ln) (hi : inf P t = some (e, z, sz, by') := by rfl) (hz : (cs1 z).map (·.length) = some sz := by rfl) (hby : Nat.ble by' 100000 = true := by rfl)
    (htx : P.underlying tx = some (.slice e') := by rfl) : DS P n ops t0 s D E L (Ctx J (pt b te vs :: sl f sz e ad cap xs :: H)) Q :=
  kq (kB 11) h (qX (oAp1 (k := 0) (G := fun q => sl f sz e q.1 q.2 (xs ++ [y]) :: H) ha rfl hv hm hi hz hby htx hb fun _ => rfl) honly hdo hg hsel hF k)
theorem eqS {f : α → List Value} {sz : Nat} {e : TypeId} {ad : Option Addr} {cap : Nat} {xs : List α} (ys : List α) (h : xs = ys) (k : HK P n s L (Ctx J (sl f sz e ad cap ys :: H)) Q) : HK P n s L (Ctx J (sl f sz e ad cap xs :: H)) Q := by subst h; exact k
theorem kw_goto {fn : Func} {R : Ending → World → Prop} {l : Nat} {a : Act} {w : World} : ∀ {s : List KI}, Kw P s (bodyPost P fn R) (.goto l) a w → False := by
  intro s
  induction s with
  | nil => intro h; exact h
  | cons k s ih => intro h; cases k <;> exact ih h
/-- A scope of labels that nothing jumps to. -/
theorem scp {fn : Func} {R : Ending → World → Prop} {c : Code} (k : HK P n (.code c :: s) L C (bodyPost P fn R)) : HK P n (.code (.scope c) :: s) L C (bodyPost P fn R) := by
  intro a w ha hc
  refine wp_scope_straight (wp_mono (k a w ha hc) fun e a w h => ?_)
  cases e with
  | goto l => exact kw_goto h
  | _ => exact h
end
end
end Go.Proofs.YtimemehaccgmmaaGreatDoor
