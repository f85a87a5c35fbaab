/-
  A region that draws its order, with an append to what the call itself owns (as RegionR, without the texts on sections).
-/
import Derived.Test.YthmaobmgogmaoaaRegionG
namespace Go.Proofs.Ythmaobmgogmaoaa
open Go.RowKit
set_option linter.unusedSimpArgs false
set_option linter.unusedVariables false

section
variable {P : Program}
/-- append to a slice without room. -/
theorem rd_grow (w : World) (t tx ty e : TypeId) (k : IntKind) (by' base : Nat) (ht : P.underlying t = some (.slice e)) (hi : (P.info? e).map (fun i => (i.zero, i.size, i.bytes)) = some (some (.int k 0), 1, by'))
    (ad : Option Addr) (cap : Nat) (zs news : List Int) (x : Value) (m : Nat) (hm : m = news.length) (hrd : Rd w k ad cap zs) (hroom : cap < zs.length + m) (hs : Src P 1 tx x m (news.map (Value.int k)) w) (hb : (zs.length + m) * by' ≤ 140737488355328) (hn : zs.length + m ≤ 9223372036854775807) (hbase : base ≤ w.heap.size) :
    ∃ ad' cap' w', (Builtin.append_ #[t, tx] ty #[.slice ad zs.length cap, x]).run P w = .ok (.slice ad' (zs.length + m) cap') w' ∧ Own w' base e k ad' cap' (zs ++ news) ∧ Kp [] w w' := by
  obtain ⟨i, h1, h2, h3, h4⟩ := info_parts hi
  subst hm
  have hold : (Builtin.firstCells i.size zs.length (.slice ad zs.length cap)).run P w.drew = .ok (zs.map (Value.int k)).toArray w.drew := by
    rw [h3]
    cases ad with
    | none =>
      have : zs = [] := by
        cases zs with
        | nil => rfl
        | cons y l => obtain ⟨b, off, q1, -⟩ := hrd.2.2 0 (by simp); cases q1
      subst this
      exact run_firstCells_none w.drew 1 _ _ _
    | some a =>
      refine run_firstCells_some w.drew 1 zs.length _ _ _ _ (by simp) (fun j u hj => ?_)
      obtain ⟨hl, hj⟩ := List.getElem?_eq_some_iff.1 hj
      simp at hl
      obtain ⟨b', off', q1, q2⟩ := hrd.2.2 j hl
      cases q1
      rw [Addr.add_lit]
      show w.cell? _ = _
      rw [q2, ← hj]; simp [nth, hl]
  have hfit : Builtin.nextslicecap (zs.length + news.length) cap * i.bytes ≤ 281474976710656 := by
    rw [h4]; exact growslice_fits (by omega) hb
  have := run_append_grow_src (P := P) w t tx ty e i (.int k 0) ht h1 h2 ad zs.length cap (zs.map (Value.int k)) hold x news.length (news.map (Value.int k)) (by rw [h3]; exact hs) (by omega) (by omega) hfit
  have hge := grownCap_ge w (zs.length + news.length) cap e
  have hle := grownCap_le_maxLen w (zs.length + news.length) cap e (by unfold maxLen; omega)
  refine ⟨_, _, _, this, .inr ⟨w.heap.size, _, rfl, hbase, heap_alloc_at (by simp), ?_, by simpa using hge, ?_, ?_⟩, ((Kp.refl _ w).drew.alloc _)⟩
  · simp [size_zeroCells, Value.cells]; omega
  · unfold maxLen at hle; omega
  · simp only [Array.toList_append, List.map_append]; exact List.take_left' (by simp)

/-- append where there is room. -/
theorem own_room (w : World) (t tx ty e : TypeId) (k : IntKind) (by' base : Nat) (ht : P.underlying t = some (.slice e)) (hi : (P.info? e).map (fun i => (i.zero, i.size, i.bytes)) = some (some (.int k 0), 1, by'))
    (ad : Option Addr) (cap : Nat) (zs news : List Int) (x : Value) (m : Nat) (hm : m = news.length) (ho : Own w base e k ad cap zs) (hs : Src P 1 tx x m (news.map (Value.int k)) w) (hroom : zs.length + m ≤ cap) :
    ∃ w', (Builtin.append_ #[t, tx] ty #[.slice ad zs.length cap, x]).run P w = .ok (.slice ad (zs.length + m) cap) w' ∧ Own w' base e k ad cap (zs ++ news) ∧ Kp (ob ad cap) w w' := by
  obtain ⟨i, h1, h2, h3, h4⟩ := info_parts hi
  subst hm
  rcases ho with ⟨rfl, rfl⟩ | ⟨g, cur, rfl, g1, g2, g3, g4, g5, g6⟩
  · obtain rfl : news = [] := List.eq_nil_of_length_eq_zero (by simpa using hroom)
    refine ⟨w, ?_, .inl ⟨rfl, rfl⟩, Kp.refl _ _⟩
    have hcl : (Builtin.firstCells 1 0 x).run P w = .ok #[] w := hs.cells
    cases ad <;> rcases hs.kind with ⟨e', hk⟩ | hk <;> simp [Builtin.append_, run_underlying ht, run_underlying hk, sizeOf, typeInfo, h1, hs.len, h3, hcl, storeCells]
  · have hc : ∀ j, j < (news.map (Value.int k)).length → (w.cell? ⟨g, 0 + zs.length * i.size + j, none⟩).isSome = true := by
      intro j hj
      rw [cell_of_row w g _ cur e _ g2]
      simp only [List.length_map] at hj
      rw [h3, Array.getElem?_eq_getElem (by omega)]; rfl
    have := run_append_room_src (P := P) w t tx ty e i ht h1 g 0 zs.length cap x news.length (news.map (Value.int k)) (by rw [h3]; exact hs) hroom hc (fun j _ => frozen_of_row w g _ cur e g2)
    rw [h3, Nat.mul_one, Nat.zero_add] at this
    obtain ⟨k1, k2, k3⟩ := setCells_eq g e (news.map (Value.int k)) zs.length cur w g2 (by simp; omega)
    refine ⟨_, this, .inr ⟨g, _, rfl, g1, k1, ?_, by simpa using hroom, g5, ?_⟩, ?_⟩
    · simp; omega
    · rw [g6]; simp only [List.map_append]; exact List.take_left' (by simp)
    · by_cases h0 : cap = 0
      · have e1 : news = [] := List.eq_nil_of_length_eq_zero (by omega)
        subst e1
        simpa [World.setCells] using Kp.refl _ w
      · simpa [ob, h0] using k2

theorem exec_roomS {ops : Array Oper} {o : Oper} {a : Act} {w : World} {Vi : Value → World → Prop} {R : World → World → Prop} (hw : Region.wanted o (yielded ops a.tmps) = true) (s x : Operand) (t tx : TypeId)
    (hop : o.op = Op.call { callee := Callee.builtin Builtin.append, args := #[s, x], argTypes := #[t, tx] }) (base : Nat) (e : TypeId) (k : IntKind) (by' : Nat)
    (ht : P.underlying t = some (.slice e)) (hi : (P.info? e).map (fun i => (i.zero, i.size, i.bytes)) = some (some (.int k 0), 1, by'))
    (ad : Option Addr) (cap n : Nat) (zs : List Int) (hn : n = zs.length) (news : List Int) (xv : Value) (m : Nat) (hm : m = news.length) (he : a.eval s = .slice ad n cap) (hxe : a.eval x = xv)
    (ho : Own w base e k ad cap zs) (hs : Src P 1 tx xv m (news.map (Value.int k)) w) (hroom : n + m ≤ cap)
    (h : ∀ w', Own w' base e k ad cap (zs ++ news) → Kp (ob ad cap) w w' → Vi (.slice ad (n + m) cap) w' ∧ R w w') : Region.wanted o (yielded ops a.tmps) = true ∧ ExecV P ops R Vi o a w := by
  refine ⟨hw, ?_⟩
  subst hn
  unfold ExecV
  rw [if_pos hw]
  obtain ⟨w', hrun, r1, r2⟩ := own_room (P := P) w t tx o.type e k by' base ht hi ad cap zs news xv m hm ho hs hroom
  unfold Oper.wp
  simp only [execOp, hop, resolve, invoke, builtin, Sem.run_bind, Sem.run_pure, Result.andThen_ok, List.map_toArray, List.map_cons, List.map_nil, he, hxe, hrun]
  exact ⟨_, rfl, h _ r1 r2⟩

theorem exec_growS {ops : Array Oper} {o : Oper} {a : Act} {w : World} {Vi : Value → World → Prop} (hw : Region.wanted o (yielded ops a.tmps) = true) (s x : Operand) (t tx : TypeId)
    (hop : o.op = Op.call { callee := Callee.builtin Builtin.append, args := #[s, x], argTypes := #[t, tx] }) (base : Nat) (e : TypeId) (k : IntKind) (by' : Nat)
    (ht : P.underlying t = some (.slice e)) (hi : (P.info? e).map (fun i => (i.zero, i.size, i.bytes)) = some (some (.int k 0), 1, by'))
    (ad : Option Addr) (cap n : Nat) (zs : List Int) (hn : n = zs.length) (news : List Int) (xv : Value) (m : Nat) (hm : m = news.length) (he : a.eval s = .slice ad n cap) (hxe : a.eval x = xv)
    (hrd : Rd w k ad cap zs) (hs : Src P 1 tx xv m (news.map (Value.int k)) w) (hroom : cap < n + m) (hb : (n + m) * by' ≤ 140737488355328) (hb2 : n + m ≤ 9223372036854775807) (hbase : base ≤ w.heap.size)
    (h : ∀ ad' cap' w', Own w' base e k ad' cap' (zs ++ news) → Kp [] w w' → Vi (.slice ad' (n + m) cap') w') : ExecV P ops (Kp []) Vi o a w := by
  subst hn
  unfold ExecV
  rw [if_pos hw]
  obtain ⟨ad', cap', w', hrun, r1, r2⟩ := rd_grow (P := P) w t tx o.type e k by' base ht hi ad cap zs news xv m hm hrd hroom hs hb hb2 hbase
  unfold Oper.wp
  simp only [execOp, hop, resolve, invoke, builtin, Sem.run_bind, Sem.run_pure, Result.andThen_ok, List.map_toArray, List.map_cons, List.map_nil, he, hxe, hrun]
  exact ⟨_, rfl, h _ _ _ r1 r2, r2⟩
end
end Go.Proofs.Ythmaobmgogmaoaa
