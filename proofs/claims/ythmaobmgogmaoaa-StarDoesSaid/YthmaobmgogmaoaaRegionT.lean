/-
  A region that draws its order, with appends to slices whose elements have several cells (over RegionQ; printed from XRegionS).
-/
import Derived.Test.YthmaobmgogmaoaaRegionQ
import Derived.Test.YthmaobmgogmaoaaRowO
namespace Go.Proofs.Ythmaobmgogmaoaa
open Go.RowKit
set_option linter.unusedSimpArgs false
set_option linter.unusedVariables false

theorem ownS_room {P : Program} {α : Type} {f : α → List Value} {sz : Nat} (L : Lies f sz) (w : World) (t tx ty e : TypeId) (z : Value) (by' base : Nat) (ht : P.underlying t = some (.slice e)) (hi : (P.info? e).map (fun i => (i.zero, i.size, i.bytes)) = some (some z, sz, by')) (hz : z.cells.size = sz)
    (ad : Option Addr) (cap : Nat) (l news : List α) (x : Value) (m : Nat) (hm : m = news.length) (ho : OwnS f sz w base e ad cap l) (hs : Src P sz tx x m (news.flatMap f) w) (hroom : l.length + m ≤ cap) :
    ∃ w', (Builtin.append_ #[t, tx] ty #[.slice ad l.length cap, x]).run P w = .ok (.slice ad (l.length + m) cap) w' ∧ OwnS f sz w' base e ad cap (l ++ news) ∧ Kp (ob ad cap) w w' := by
  obtain ⟨i, h1, h2, h3, h4⟩ := info_parts hi
  subst hm
  have hfl := flat_length L.len news
  rcases ho with ⟨rfl, rfl⟩ | ⟨g, cur, rfl, g1, g2, g3, g4, g5, g6⟩
  · obtain rfl : news = [] := List.eq_nil_of_length_eq_zero (by simpa using hroom)
    refine ⟨w, ?_, .inl ⟨rfl, rfl⟩, Kp.refl _ _⟩
    have hcl : (Builtin.firstCells sz 0 x).run P w = .ok #[] w := hs.cells
    cases ad <;> rcases hs.kind with ⟨e', hk⟩ | hk <;> simp [Builtin.append_, run_underlying ht, run_underlying hk, sizeOf, typeInfo, h1, hs.len, h3, hcl, storeCells]
  · have hle : l.length * sz + news.length * sz ≤ cap * sz := by rw [← Nat.add_mul]; exact Nat.mul_le_mul_right _ hroom
    have hc : ∀ j, j < (news.flatMap f).length → (w.cell? ⟨g, 0 + l.length * i.size + j, none⟩).isSome = true := by
      intro j hj
      rw [cell_of_row w g _ cur e _ g2]
      rw [hfl] at hj
      rw [h3, Array.getElem?_eq_getElem (by rw [g3]; omega)]; rfl
    have := run_append_room_src (P := P) w t tx ty e i ht h1 g 0 l.length cap x news.length (news.flatMap f) (by rw [h3]; exact hs) hroom hc (fun j _ => frozen_of_row w g _ cur e g2)
    rw [h3, Nat.zero_add] at this
    obtain ⟨k1, k2, k3⟩ := setCells_eq g e (news.flatMap f) (l.length * sz) cur w g2 (by rw [hfl, g3]; omega)
    refine ⟨_, this, .inr ⟨g, _, rfl, g1, k1, ?_, by simpa using hroom, g5, ?_⟩, ?_⟩
    · simp only [List.size_toArray, List.length_append, List.length_take, List.length_drop, Array.length_toList, hfl, g3]; omega
    · rw [g6]; simp only [List.flatMap_append]; exact List.take_left' (by rw [List.length_append, flat_length L.len, hfl, List.length_append, Nat.add_mul])
    · by_cases h0 : cap = 0
      · have e1 : news = [] := List.eq_nil_of_length_eq_zero (by omega)
        subst e1
        simpa [World.setCells] using Kp.refl _ w
      · simpa [ob, h0] using k2
theorem ownS_grow {P : Program} {α : Type} {f : α → List Value} {sz : Nat} (L : Lies f sz) (w : World) (t tx ty e : TypeId) (z : Value) (by' base : Nat) (ht : P.underlying t = some (.slice e)) (hi : (P.info? e).map (fun i => (i.zero, i.size, i.bytes)) = some (some z, sz, by')) (hz : z.cells.size = sz)
    (ad : Option Addr) (cap : Nat) (l news : List α) (x : Value) (m : Nat) (hm : m = news.length) (ho : OwnS f sz w base e ad cap l) (hs : Src P sz tx x m (news.flatMap f) w) (hroom : ¬ l.length + m ≤ cap) (hb : (l.length + m) * by' ≤ 140737488355328) (hn : l.length + m ≤ 9223372036854775807) (hbase : base ≤ w.heap.size) :
    ∃ ad' cap' w', (Builtin.append_ #[t, tx] ty #[.slice ad l.length cap, x]).run P w = .ok (.slice ad' (l.length + m) cap') w' ∧ OwnS f sz w' base e ad' cap' (l ++ news) ∧ Kp [] w w' ∧ ∃ c, ad' = some ⟨w.heap.size, 0, none⟩ ∧ w'.heap[w.heap.size]? = some c := by
  obtain ⟨i, h1, h2, h3, h4⟩ := info_parts hi
  subst hm
  have hfl := flat_length L.len news
  have hold : (Builtin.firstCells i.size l.length (.slice ad l.length cap)).run P w.drew = .ok (l.flatMap f).toArray w.drew := by
    have hrd := ho.rd L
    rw [h3]
    rcases ho with ⟨rfl, rfl⟩ | ⟨g, cur, rfl, g1, g2, g3, g4, g5, g6⟩
    · cases ad with
      | none => exact run_firstCells_none w.drew sz _ _ _
      | some a => exact run_firstCells_some w.drew sz 0 _ _ _ [] (by simp) (by simp)
    · refine run_firstCells_some w.drew sz l.length _ _ _ _ (by rw [flat_length L.len]) (fun j u hj => ?_)
      rw [Addr.add_lit, Nat.zero_add]
      show w.cell? _ = _
      rw [cell_of_row w g _ cur e _ g2]
      have hjl : j < l.length * sz := by rw [← flat_length L.len l]; exact (List.getElem?_eq_some_iff.1 hj).1
      rw [← g6, List.getElem?_take, if_pos hjl] at hj
      simpa using hj
  have hfit : Builtin.nextslicecap (l.length + news.length) cap * i.bytes ≤ 281474976710656 := by
    rw [h4]; exact growslice_fits (by omega) hb
  have := run_append_grow_src (P := P) w t tx ty e i z ht h1 h2 ad l.length cap (l.flatMap f) hold x news.length (news.flatMap f) (by rw [h3]; exact hs) (by omega) (by omega) hfit
  have hge := grownCap_ge w (l.length + news.length) cap e
  have hle := grownCap_le_maxLen w (l.length + news.length) cap e (by unfold maxLen; omega)
  refine ⟨_, _, _, this, .inr ⟨w.heap.size, _, rfl, hbase, heap_alloc_at (by simp), ?_, by simpa using hge, ?_, ?_⟩, ((Kp.refl _ w).drew.alloc _), _, rfl, heap_alloc_at (by simp)⟩
  · have e1 : (l.length + news.length) * sz + (grownCap w (l.length + news.length) cap e - (l.length + news.length)) * sz = grownCap w (l.length + news.length) cap e * sz := by
      rw [← Nat.add_mul]; congr 1; omega
    simp only [Array.size_append, List.size_toArray, List.length_append, flat_length L.len, hfl, size_zeroCells, hz]
    rw [← e1, Nat.add_mul]
  · unfold maxLen at hle; omega
  · simp only [Array.toList_append, List.flatMap_append]; exact List.take_left' (by rw [List.length_append, flat_length L.len, hfl, List.length_append, Nat.add_mul])

section
variable {P : Program} {α : Type} {f : α → List Value} {sz : Nat}
theorem execS_room (L : Lies f sz) {ops : Array Oper} {o : Oper} {a : Act} {w : World} {Vi : Value → World → Prop} {R : World → World → Prop} (hw : Region.wanted o (yielded ops a.tmps) = true) (s x : Operand) (t tx : TypeId)
    (hop : o.op = Op.call { callee := Callee.builtin Builtin.append, args := #[s, x], argTypes := #[t, tx] }) (base : Nat) (e : TypeId) (z : Value) (by' : Nat)
    (ht : P.underlying t = some (.slice e)) (hi : (P.info? e).map (fun i => (i.zero, i.size, i.bytes)) = some (some z, sz, by')) (hz : z.cells.size = sz)
    (ad : Option Addr) (cap n : Nat) (l : List α) (hn : n = l.length) (news : List α) (xv : Value) (m : Nat) (hm : m = news.length) (he : a.eval s = .slice ad n cap) (hxe : a.eval x = xv)
    (ho : OwnS f sz w base e ad cap l) (hs : Src P sz tx xv m (news.flatMap f) w) (hroom : n + m ≤ cap)
    (h : ∀ w', OwnS f sz w' base e ad cap (l ++ news) → Kp (ob ad cap) w w' → Vi (.slice ad (n + m) cap) w' ∧ R w w') : Region.wanted o (yielded ops a.tmps) = true ∧ ExecV P ops R Vi o a w := by
  refine ⟨hw, ?_⟩
  subst hn
  unfold ExecV
  rw [if_pos hw]
  obtain ⟨w', hrun, r1, r2⟩ := ownS_room (P := P) L w t tx o.type e z by' base ht hi hz ad cap l news xv m hm ho hs hroom
  unfold Oper.wp
  simp only [execOp, hop, resolve, invoke, builtin, Sem.run_bind, Sem.run_pure, Result.andThen_ok, List.map_toArray, List.map_cons, List.map_nil, he, hxe, hrun]
  exact ⟨_, rfl, h _ r1 r2⟩
theorem execS_grow (L : Lies f sz) {ops : Array Oper} {o : Oper} {a : Act} {w : World} {Vi : Value → World → Prop} (hw : Region.wanted o (yielded ops a.tmps) = true) (s x : Operand) (t tx : TypeId)
    (hop : o.op = Op.call { callee := Callee.builtin Builtin.append, args := #[s, x], argTypes := #[t, tx] }) (base : Nat) (e : TypeId) (z : Value) (by' : Nat)
    (ht : P.underlying t = some (.slice e)) (hi : (P.info? e).map (fun i => (i.zero, i.size, i.bytes)) = some (some z, sz, by')) (hz : z.cells.size = sz)
    (ad : Option Addr) (cap n : Nat) (l : List α) (hn : n = l.length) (news : List α) (xv : Value) (m : Nat) (hm : m = news.length) (he : a.eval s = .slice ad n cap) (hxe : a.eval x = xv)
    (ho : OwnS f sz w base e ad cap l) (hs : Src P sz tx xv m (news.flatMap f) w) (hroom : ¬ n + m ≤ cap) (hb : (n + m) * by' ≤ 140737488355328) (hb2 : n + m ≤ 9223372036854775807) (hbase : base ≤ w.heap.size)
    (h : ∀ cap' w', OwnS f sz w' base e (some ⟨w.heap.size, 0, none⟩) cap' (l ++ news) → Kp [] w w' → Vi (.slice (some ⟨w.heap.size, 0, none⟩) (n + m) cap') w') : ExecV P ops (Kp []) Vi o a w := by
  subst hn
  unfold ExecV
  rw [if_pos hw]
  obtain ⟨ad', cap', w', hrun, r1, r2, c, rfl, r3⟩ := ownS_grow (P := P) L w t tx o.type e z by' base ht hi hz ad cap l news xv m hm ho hs hroom hb hb2 hbase
  unfold Oper.wp
  simp only [execOp, hop, resolve, invoke, builtin, Sem.run_bind, Sem.run_pure, Result.andThen_ok, List.map_toArray, List.map_cons, List.map_nil, he, hxe, hrun]
  exact ⟨_, rfl, h _ _ r1 r2, r2⟩
end
/-- A slice of the call's own, in blocks that the chain does not touch. -/
def SVS.ownS {S : List Nat} {α : Type} (f : α → List Value) (sz base : Nat) (hS : ∀ x ∈ S, x < base) (e : TypeId) (n : Nat) (l : List α) : SVS S :=
  ⟨fun v u => ∃ ad cap, v = .slice ad n cap ∧ OwnS f sz u base e ad cap l, fun _ _ _ ⟨ad, cap, h1, h2⟩ hk => ⟨ad, cap, h1, h2.keep hk (fun b hb hx => by have := (h2.ob_ge b hb).1; have := hS b hx; omega)⟩⟩
/-- A slice of one new element. -/
def SVS.oneS {S : List Nat} {α : Type} (f : α → List Value) (base : Nat) (hS : ∀ x ∈ S, x < base) (e : TypeId) (x : α) : SVS S :=
  ⟨fun v u => ∃ b, v = .slice (some ⟨b, 0, none⟩) 1 1 ∧ base ≤ b ∧ u.heap[b]? = some (.cells (f x).toArray e (0, 0)), fun _ _ _ ⟨b, h1, h2, h3⟩ hk => ⟨b, h1, h2, hk.get h3 (fun hx => by have := hS b hx; omega)⟩⟩
theorem Kp.wide {S T : List Nat} {w w' : World} (h : Kp S w w') (hs : ∀ x ∈ S, x ∈ T) : Kp T w w' := ⟨h.os, h.tape, h.output, h.size, fun k hk hn => h.block k hk (fun hx => hn (hs k hx))⟩
/-- Own slices that are different lie apart. -/
theorem own_apart {w : World} {base base2 : Nat} {e e2 : TypeId} {α : Type} {f : α → List Value} {ad ad2 : Option Addr} {cap cap2 n : Nat} {l m : List α} (h : OwnS f 1 w base e ad cap l) (h2 : OwnS f 1 w base2 e2 ad2 cap2 m) (hne : Value.slice ad n cap ≠ .slice ad2 n cap2) : ∀ y ∈ ob ad cap, y ∉ ob ad2 cap2 := by
  intro y hy hy2
  rcases h with ⟨h, -⟩ | ⟨g, cur, rfl, -, hg, hc, -⟩
  · simp [ob, h] at hy
  rcases h2 with ⟨h, -⟩ | ⟨g2, cur2, rfl, -, hg2, hc2, -⟩
  · simp [ob, h] at hy2
  unfold ob at hy hy2
  split at hy
  · simp at hy
  split at hy2
  · simp at hy2
  simp at hy hy2
  subst hy
  subst hy2
  rw [hg] at hg2
  injection hg2 with q1
  injection q1 with q2 q3
  subst q2
  exact hne (by rw [show cap = cap2 by omega])
end Go.Proofs.Ythmaobmgogmaoaa
