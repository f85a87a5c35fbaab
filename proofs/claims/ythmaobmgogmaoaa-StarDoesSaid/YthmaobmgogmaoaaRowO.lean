/-
  Slices whose elements have several cells, of the call's own.
-/
import Derived.Test.YthmaobmgogmaoaaRowS
namespace Go.Proofs.Ythmaobmgogmaoaa
open Go.RowKit
set_option linter.unusedSimpArgs false
set_option linter.unusedVariables false

/-- How elements lie in cells. -/
structure Lies {α : Type} (f : α → List Value) (sz : Nat) : Prop where
  len : ∀ x, (f x).length = sz
  one : ∀ x, ∀ v ∈ f x, v.oneCell' = true
  pos : 0 < sz

/-- What the call itself owns: a slice that it may append to. -/
def OwnS {α : Type} (f : α → List Value) (sz : Nat) (w : World) (base : Nat) (e : TypeId) (ad : Option Addr) (cap : Nat) (l : List α) : Prop :=
  (cap = 0 ∧ l = []) ∨
  ∃ g cur, ad = some ⟨g, 0, none⟩ ∧ base ≤ g ∧ w.heap[g]? = some (.cells cur e (0, 0)) ∧ cur.size = cap * sz ∧ l.length ≤ cap ∧ cap ≤ 9223372036854775807 ∧ cur.toList.take (l.length * sz) = l.flatMap f

theorem flat_length {α : Type} {f : α → List Value} {sz : Nat} (hf : ∀ x, (f x).length = sz) : ∀ l : List α, (l.flatMap f).length = l.length * sz
  | [] => by simp
  | x :: l => by rw [List.flatMap_cons, List.length_append, hf, flat_length hf l, List.length_cons, Nat.succ_mul]; omega
theorem flat_get {α : Type} {f : α → List Value} {sz : Nat} (hf : ∀ x, (f x).length = sz) : ∀ (l : List α) (i j : Nat) (h : i < l.length), j < sz → (l.flatMap f)[i * sz + j]? = (f l[i])[j]?
  | x :: l, 0, j, h, hj => by
    rw [List.flatMap_cons, Nat.zero_mul, Nat.zero_add, List.getElem?_append_left (by rw [hf]; exact hj)]; rfl
  | x :: l, i + 1, j, h, hj => by
    rw [List.flatMap_cons, List.getElem?_append_right (by rw [hf, Nat.succ_mul]; omega), hf, Nat.succ_mul, show i * sz + sz + j - sz = i * sz + j by omega, flat_get hf l i j (by simpa using h) hj]; rfl

section
variable {α : Type} {f : α → List Value} {sz : Nat} {w w' : World} {base : Nat} {e : TypeId} {ad : Option Addr} {cap : Nat} {l : List α}
theorem OwnS.nil (f : α → List Value) (sz : Nat) (w : World) (base : Nat) (e : TypeId) : OwnS f sz w base e none 0 [] := .inl ⟨rfl, rfl⟩
theorem OwnS.keep (h : OwnS f sz w base e ad cap l) {S : List Nat} (hk : Kp S w w') (hn : ∀ b, b ∈ ob ad cap → b ∉ S) : OwnS f sz w' base e ad cap l := by
  rcases h with h | ⟨g, cur, rfl, h1, h2, h3, h4, h5, h6⟩
  · exact .inl h
  · by_cases h0 : cap = 0
    · subst h0
      have : l = [] := List.eq_nil_of_length_eq_zero (by omega)
      exact .inl ⟨rfl, this⟩
    · exact .inr ⟨g, cur, rfl, h1, hk.get h2 (hn g (by simp [ob, h0])), h3, h4, h5, h6⟩
theorem OwnS.keep0 (h : OwnS f sz w base e ad cap l) (hk : Kp [] w w') : OwnS f sz w' base e ad cap l := h.keep hk (by simp)
theorem OwnS.alloc (h : OwnS f sz w base e ad cap l) (o : Obj) : OwnS f sz (w.alloc o) base e ad cap l := h.keep0 ((Kp.refl [] w).alloc o)
theorem OwnS.mono (h : OwnS f sz w base e ad cap l) {b' : Nat} (hb : b' ≤ base) : OwnS f sz w b' e ad cap l := by
  rcases h with h | ⟨g, cur, rfl, h1, h2⟩
  · exact .inl h
  · exact .inr ⟨g, cur, rfl, by omega, h2⟩
theorem OwnS.ob_ge (h : OwnS f sz w base e ad cap l) : ∀ b, b ∈ ob ad cap → base ≤ b ∧ b < w.heap.size := by
  intro b hb
  rcases h with ⟨h, -⟩ | ⟨g, cur, rfl, h1, h2, -⟩
  · simp [ob, h] at hb
  · unfold ob at hb
    split at hb
    · simp at hb
    · simp at hb; subst hb; exact ⟨h1, lt_of_heap h2⟩
theorem OwnS.rd (h : OwnS f sz w base e ad cap l) (L : Lies f sz) : RdS f sz w ad cap l := by
  rcases h with ⟨rfl, rfl⟩ | ⟨g, cur, rfl, h1, h2, h3, h4, h5, h6⟩
  · exact ⟨by simp, by omega, fun i hi => by simp at hi⟩
  · refine ⟨h4, h5, fun i hi => ⟨g, 0, rfl, fun j hj => ?_⟩⟩
    rw [Nat.zero_add, cell_of_row w g _ cur e _ h2]
    have hlt : i * sz + j < l.length * sz := by
      have : (i + 1) * sz ≤ l.length * sz := Nat.mul_le_mul_right _ hi
      rw [Nat.succ_mul] at this; omega
    have h7 := flat_get L.len l i j hi hj
    rw [← h6, List.getElem?_take, if_pos hlt] at h7
    rw [← h7]; simp
/-- An element of what the call owns. -/
theorem OwnS.at' (h : OwnS f sz w base e ad cap l) (L : Lies f sz) {i : Nat} (hi : i < l.length) :
    ∃ g, ad = some ⟨g, 0, none⟩ ∧ (∀ j, j < sz → w.cell? ⟨g, i * sz + j, none⟩ = (f l[i])[j]? ∧ w.frozen? ⟨g, i * sz + j, none⟩ = false) ∧ base ≤ g ∧ g ∈ ob ad cap := by
  have hr := h.rd L
  rcases h with ⟨rfl, rfl⟩ | ⟨g, cur, rfl, h1, h2, h3, h4, h5, h6⟩
  · simp at hi
  · obtain ⟨b, off, q1, q2⟩ := hr.2.2 i hi
    cases q1
    refine ⟨g, rfl, fun j hj => ⟨?_, frozen_of_row w g _ cur e h2⟩, h1, by simp [ob, show ¬ cap = 0 by omega]⟩
    have := q2 j hj
    rwa [Nat.zero_add] at this
end

section
variable {P : Program} {α : Type} {f : α → List Value} {sz : Nat}
/-- append of whatever yields the elements news. -/
theorem own_appendS (L : Lies f sz) (w : World) (t tx ty e : TypeId) (z : Value) (by' base : Nat) (ht : P.underlying t = some (.slice e)) (hi : (P.info? e).map (fun i => (i.zero, i.size, i.bytes)) = some (some z, sz, by')) (hz : z.cells.size = sz)
    (ad : Option Addr) (cap : Nat) (l news : List α) (x : Value) (m : Nat) (hm : m = news.length) (ho : OwnS f sz w base e ad cap l) (hs : Src P sz tx x m (news.flatMap f) w) (hb : (l.length + m) * by' ≤ 140737488355328) (hn : l.length + m ≤ 9223372036854775807) (hbase : base ≤ w.heap.size) :
    ∃ ad' cap' w', (Builtin.append_ #[t, tx] ty #[.slice ad l.length cap, x]).run P w = .ok (.slice ad' (l.length + m) cap') w' ∧ OwnS f sz w' base e ad' cap' (l ++ news) ∧ Kp (ob ad cap) w w' ∧ (∀ b, b ∈ ob ad' cap' → b ∈ ob ad cap ∨ w.heap.size ≤ b) ∧ (ad' = none → ad = none ∧ m = 0) := by
  obtain ⟨i, h1, h2, h3, h4⟩ := info_parts hi
  subst hm
  have hfl := flat_length L.len news
  by_cases hroom : l.length + news.length ≤ cap
  · rcases ho with ⟨rfl, rfl⟩ | ⟨g, cur, rfl, g1, g2, g3, g4, g5, g6⟩
    · obtain rfl : news = [] := List.eq_nil_of_length_eq_zero (by simpa using hroom)
      refine ⟨ad, 0, w, ?_, .inl ⟨rfl, rfl⟩, Kp.refl _ _, fun b hb => .inl hb, fun h => ⟨h, rfl⟩⟩
      have hcl : (Builtin.firstCells sz 0 x).run P w = .ok #[] w := hs.cells
      cases ad <;> rcases hs.kind with ⟨e', hk⟩ | hk <;> simp [Builtin.append_, run_underlying ht, run_underlying hk, sizeOf, typeInfo, h1, hs.len, h3, hcl, storeCells]
    · have hle : l.length * sz + news.length * sz ≤ cap * sz := by rw [← Nat.add_mul]; exact Nat.mul_le_mul_right _ hroom
      have hc : ∀ j, j < (news.flatMap f).length → (w.cell? ⟨g, 0 + l.length * i.size + j, none⟩).isSome = true := by
        intro j hj
        rw [cell_of_row w g _ cur e _ g2]
        rw [hfl] at hj
        rw [h3, Array.getElem?_eq_getElem (by rw [g3]; omega)]; rfl
      have := run_append_room_src (P := P) w t tx ty e i ht h1 g 0 l.length cap x news.length (news.flatMap f) (by rw [h3]; exact hs) hroom hc (fun j _ => frozen_of_row w g _ cur e g2)
      rw [h3, Nat.zero_add] at this
      obtain ⟨k1, k2, k3⟩ := setCells_eq g e (news.flatMap f) (l.length * sz) cur w g2 (by rw [hfl, g3]; omega)
      refine ⟨_, _, _, this, .inr ⟨g, _, rfl, g1, k1, ?_, by simpa using hroom, g5, ?_⟩, ?_, fun b hb => .inl hb, fun h => by cases h⟩
      · simp only [List.size_toArray, List.length_append, List.length_take, List.length_drop, Array.length_toList, hfl, g3]; omega
      · rw [g6]; simp only [List.flatMap_append]; exact List.take_left' (by rw [List.length_append, flat_length L.len, hfl, List.length_append, Nat.add_mul])
      · by_cases h0 : cap = 0
        · have e1 : news = [] := List.eq_nil_of_length_eq_zero (by omega)
          subst e1
          simpa [World.setCells] using Kp.refl _ w
        · simpa [ob, h0] using k2
  · have hold : (Builtin.firstCells i.size l.length (.slice ad l.length cap)).run P w.drew = .ok (l.flatMap f).toArray w.drew := by
      have hrd := ho.rd L
      rw [h3]
      rcases ho with ⟨rfl, rfl⟩ | ⟨g, cur, rfl, g1, g2, g3, g4, g5, g6⟩
      · cases ad with
        | none => exact run_firstCells_none w.drew sz _ _ _
        | some a => exact run_firstCells_some w.drew sz 0 _ _ _ [] (by simp) (by simp)
      · refine run_firstCells_some w.drew sz l.length _ _ _ _ (by rw [flat_length L.len]) (fun j u hj => ?_)
        rw [Addr.add_lit, Nat.zero_add]
        show w.cell? _ = _
        rw [cell_of_row w g _ cur e _ g2]
        have hjl : j < l.length * sz := by rw [← flat_length L.len l]; exact (List.getElem?_eq_some_iff.1 hj).1
        rw [← g6, List.getElem?_take, if_pos hjl] at hj
        simpa using hj
    have hfit : Builtin.nextslicecap (l.length + news.length) cap * i.bytes ≤ 281474976710656 := by
      rw [h4]; exact growslice_fits (by omega) hb
    have := run_append_grow_src (P := P) w t tx ty e i z ht h1 h2 ad l.length cap (l.flatMap f) hold x news.length (news.flatMap f) (by rw [h3]; exact hs) (by omega) (by omega) hfit
    have hge := grownCap_ge w (l.length + news.length) cap e
    have hle := grownCap_le_maxLen w (l.length + news.length) cap e (by unfold maxLen; omega)
    refine ⟨_, _, _, this, .inr ⟨w.heap.size, _, rfl, hbase, heap_alloc_at (by simp), ?_, by simpa using hge, ?_, ?_⟩, ((Kp.refl _ w).drew.alloc _), ?_, fun h => by cases h⟩
    · have e1 : (l.length + news.length) * sz + (grownCap w (l.length + news.length) cap e - (l.length + news.length)) * sz = grownCap w (l.length + news.length) cap e * sz := by
        rw [← Nat.add_mul]; congr 1; omega
      simp only [Array.size_append, List.size_toArray, List.length_append, flat_length L.len, hfl, size_zeroCells, hz]
      rw [← e1, Nat.add_mul]
    · unfold maxLen at hle; omega
    · simp only [Array.toList_append, List.flatMap_append]; exact List.take_left' (by rw [List.length_append, flat_length L.len, hfl, List.length_append, Nat.add_mul])
    · intro b hb
      unfold ob at hb
      split at hb
      · simp at hb
      · simp at hb; exact .inr (by omega)

/-- THE WALK's append. -/
theorem wpList_appS (L : Lies f sz) {ops : Array Oper} {rest : List Oper} {o : Oper} {a : Act} {Q : Exit → Act → World → Prop} {w : World} (hgd : o.guard = none) (s x : Operand) (t tx : TypeId)
    (hop : o.op = Op.call { callee := Callee.builtin Builtin.append, args := #[s, x], argTypes := #[t, tx] }) (base : Nat) (e : TypeId) (z : Value) (by' : Nat)
    (ht : P.underlying t = some (.slice e)) (hi : (P.info? e).map (fun i => (i.zero, i.size, i.bytes)) = some (some z, sz, by')) (hz : z.cells.size = sz)
    (ad : Option Addr) (cap n : Nat) (l : List α) (hn : n = l.length) (news : List α) (xv : Value) (m : Nat) (hm : m = news.length) (he : a.eval s = .slice ad n cap) (hxe : a.eval x = xv)
    (ho : OwnS f sz w base e ad cap l) (hs : Src P sz tx xv m (news.flatMap f) w) (hb : (n + m) * by' ≤ 140737488355328) (hb2 : n + m ≤ 9223372036854775807) (hbase : base ≤ w.heap.size)
    (h : ∀ ad' cap' w', OwnS f sz w' base e ad' cap' (l ++ news) → Kp (ob ad cap) w w' → (∀ b, b ∈ ob ad' cap' → b ∈ ob ad cap ∨ w.heap.size ≤ b) → (ad' = none → ad = none ∧ m = 0) → wpList P ops Q rest (a.put o.dst (.slice ad' (n + m) cap')) w') :
    wpList P ops Q (o :: rest) a w := by
  subst hn
  refine wpList_plain hgd fun K hK => ?_
  obtain ⟨ad', cap', w', hrun, r1, r2, r3, r4⟩ := own_appendS (P := P) L w t tx o.type e z by' base ht hi hz ad cap l news xv m hm ho hs hb hb2 hbase
  unfold Oper.wp
  simp [execOp, hop, resolve, invoke, builtin, he, hxe, hrun, Result.andThen]
  exact hK _ _ (h ad' cap' w' r1 r2 r3 r4)
/-- One new element, in a block of its own. -/
theorem src_oneS (L : Lies f sz) {w : World} {b : Nat} {x : α} {tx e' te : TypeId} {fr : Nat × Nat} (hk : P.underlying tx = some (.slice e')) (h : w.heap[b]? = some (.cells (f x).toArray te fr)) :
    Src P sz tx (.slice (some ⟨b, 0, none⟩) 1 1) 1 ([x].flatMap f) w :=
  Src.ofSlice w hk ⟨b, 0, none⟩ 1 1 _ (by simp [L.len]) (fun j u hj => by
    rw [Addr.add_lit, Nat.zero_add, cell_of_row w b j _ _ _ h]
    simpa using hj) (by simpa using L.one x)
/-- What an append takes from a slice that reads so. -/
theorem src_rdS (L : Lies f sz) {w : World} {ad : Option Addr} {cap : Nat} {l : List α} (h : RdS f sz w ad cap l) {tx e' : TypeId} (hk : P.underlying tx = some (.slice e')) :
    Src P sz tx (.slice ad l.length cap) l.length (l.flatMap f) w := by
  cases ad with
  | none =>
    have : l = [] := by
      cases l with
      | nil => rfl
      | cons x r => obtain ⟨b, off, h1, -⟩ := h.2.2 0 (by simp); cases h1
    subst this
    exact Src.ofNil w hk cap
  | some a =>
    refine Src.ofSlice w hk a l.length cap _ (by rw [flat_length L.len]) (fun j u hj => ?_) (fun v hv => by obtain ⟨x, -, hx⟩ := List.mem_flatMap.1 hv; exact L.one x v hx)
    have hjl : j < l.length * sz := by rw [← flat_length L.len l]; exact (List.getElem?_eq_some_iff.1 hj).1
    have hi : j / sz < l.length := Nat.div_lt_of_lt_mul (by rw [Nat.mul_comm]; exact hjl)
    have hjm : j % sz < sz := Nat.mod_lt _ L.pos
    have hdm : j / sz * sz + j % sz = j := by rw [Nat.mul_comm]; exact Nat.div_add_mod j sz
    obtain ⟨b, off, hab, hc⟩ := h.2.2 (j / sz) hi
    cases hab
    have h1 := hc (j % sz) hjm
    have h2 := flat_get L.len l (j / sz) (j % sz) hi hjm
    rw [hdm, hj] at h2
    rw [← h2, show off + j / sz * sz + j % sz = off + j by omega] at h1
    rw [Addr.add_lit]; exact h1
end
end Go.Proofs.Ythmaobmgogmaoaa
