/-
  The document's star-trees: the tree in memory; where ids turn (plain).
-/
import Derived.Test.YthmaobmgogmaoaaStcC
namespace Go.Proofs.Ythmaobmgogmaoaa
open Go.RowKit Go.Shelf
set_option linter.unusedSimpArgs false
set_option linter.unusedVariables false
set_option maxRecDepth 100000

theorem run_last {R : List PR} {d q i : Nat} {id : Int} (h : i + 1 = q) (hi : idAt R i d = id) : runEnd R d id (q - i) i = i + 1 := by
  rw [show q - i = 0 + 1 by omega]
  unfold runEnd
  rw [if_pos hi]; rfl
theorem run_same {R : List PR} {d q i : Nat} {id : Int} (h : i < q) (hi : idAt R i d = id) : runEnd R d id (q - i) i = runEnd R d id (q - (i + 1)) (i + 1) := by
  rw [show q - i = (q - (i + 1)) + 1 by omega]
  conv => lhs; unfold runEnd
  rw [if_pos hi]
theorem run_diff {R : List PR} {d q i : Nat} {id : Int} (h : i < q) (hi : idAt R i d = id) (hn : idAt R (i + 1) d ≠ id) : runEnd R d id (q - i) i = i + 1 := by
  rw [run_same h hi]
  cases q - (i + 1) with
  | zero => rfl
  | succ n => unfold runEnd; rw [if_neg hn]

/-- A block that holds no numbers. -/
def NotI (w : World) (b : Nat) : Prop := ∃ cs e fr, w.heap[b]? = some (.cells cs e fr) ∧ e ≠ 3 ∧ e ≠ 2
theorem RaOwn.keepT {w w' : World} {B : Nat} {x : Ra} (h : RaOwn w B x) {S : List Nat} (k : Kp S w w') (hS : ∀ b ∈ S, NotI w b) : RaOwn w' B x := by
  have hne : ∀ {e : TypeId} {ad : Option Addr} {cap : Nat} {l : List Int}, Own w B e .i64 ad cap l → (e = 3 ∨ e = 2) → ∀ b, b ∈ ob ad cap → b ∉ S := fun ho hn b hb hb2 => by
    obtain ⟨cs, e', fr, h1, h2, h3⟩ := hS b hb2
    refine ownI_ne ho h1 (fun q => ?_) hb
    rcases hn with rfl | rfl
    · exact h2 q.symm
    · exact h3 q.symm
  exact ⟨h.1.keep k (hne h.1 (.inl rfl)), h.2.1.keep k (hne h.2.1 (.inr rfl)), h.2.2.1.keep k (hne h.2.2.1 (.inr rfl)), h.2.2.2.keep k (hne h.2.2.2 (.inr rfl))⟩
theorem notI_own {α : Type} {f : α → List Value} {sz : Nat} {w : World} {B : Nat} {e : TypeId} {ad : Option Addr} {cap : Nat} {l : List α} (h : OwnS f sz w B e ad cap l) (h1 : e ≠ 3) (h2 : e ≠ 2) : ∀ b ∈ ob ad cap, NotI w b := fun b hb => by
  obtain ⟨cs, fr, h3⟩ := own_rows h b hb
  exact ⟨cs, e, fr, h3, h1, h2⟩
def rtC (k leaf : Nat) (ra : Option Addr) (rn rc : Nat) (na : Option Addr) (nn nc : Nat) : Array Value := #[.int .i64 k, .int .i64 leaf, .slice ra rn rc, .slice na nn nc]
/-- A record of the document's tree. -/
def GoodA (k mt B : Nat) (w : World) (x : Ra) : Prop := RaOwn w B x ∧ x.ids.length = k ∧ x.ms.length = mt
theorem GoodA.keep0 {k mt B : Nat} {w w' : World} {x : Ra} (h : GoodA k mt B w x) (hk : Kp [] w w') : GoodA k mt B w' x := ⟨h.1.keep0 hk, h.2⟩
theorem GoodA.keepT {k mt B : Nat} {w w' : World} {x : Ra} (h : GoodA k mt B w x) {S : List Nat} (hk : Kp S w w') (hS : ∀ b ∈ S, NotI w b) : GoodA k mt B w' x := ⟨h.1.keepT hk hS, h.2⟩
structure RTree (T k mt leaf B : Nat) (X : Nat → Prop) (ra : Option Addr) (rc : Nat) (RL : List Ra) (na : Option Addr) (nc : Nat) (NL : List Nh) (w : World) : Prop where
  blk : w.heap[T]? = some (.cells (rtC k leaf ra RL.length rc na NL.length nc) 53 (0, 0))
  recs : OwnS racells 5 w B 34 ra rc RL
  nodes : OwnS ncells 4 w B 40 na nc NL
  good : ∀ x ∈ RL, GoodA k mt B w x
  kids : ∀ y ∈ NL, y.kn = y.kids.length ∧ OwnS kdcells 2 w B 44 y.ka y.kc y.kids ∧ ∀ b ∈ ob y.ka y.kc, ¬ X b
  base : B ≤ T
theorem rNe : (34 : TypeId) ≠ 53 ∧ (40 : TypeId) ≠ 53 ∧ (44 : TypeId) ≠ 53 ∧ (34 : TypeId) ≠ 40 ∧ (34 : TypeId) ≠ 44 ∧ (40 : TypeId) ≠ 44 := by decide
theorem rNi : ((34 : TypeId) ≠ 3 ∧ (34 : TypeId) ≠ 2) ∧ ((40 : TypeId) ≠ 3 ∧ (40 : TypeId) ≠ 2) ∧ ((44 : TypeId) ≠ 3 ∧ (44 : TypeId) ≠ 2) ∧ ((53 : TypeId) ≠ 3 ∧ (53 : TypeId) ≠ 2) := by decide
section
variable {T k mt leaf B : Nat} {X : Nat → Prop} {ra : Option Addr} {rc : Nat} {RL : List Ra} {na : Option Addr} {nc : Nat} {NL : List Nh} {w w' : World}
theorem RTree.keep0 (h : RTree T k mt leaf B X ra rc RL na nc NL w) (hk : Kp [] w w') : RTree T k mt leaf B X ra rc RL na nc NL w' :=
  ⟨hk.get h.blk (by simp), h.recs.keep0 hk, h.nodes.keep0 hk, fun x hx => (h.good x hx).keep0 hk, fun y hy => ⟨(h.kids y hy).1, (h.kids y hy).2.1.keep0 hk, (h.kids y hy).2.2⟩, h.base⟩
theorem RTree.lt (h : RTree T k mt leaf B X ra rc RL na nc NL w) : T < w.heap.size := lt_of_heap h.blk
theorem RTree.frLt (h : RTree T k mt leaf B X ra rc RL na nc NL w) : ∀ b ∈ frT T ra rc na nc, B ≤ b ∧ b < w.heap.size := by
  intro b hb
  unfold frT at hb
  rcases List.mem_cons.1 hb with rfl | hb
  · exact ⟨h.base, h.lt⟩
  · rcases List.mem_append.1 hb with hb | hb
    · exact h.recs.ob_ge b hb
    · exact h.nodes.ob_ge b hb
theorem RTree.apart (h : RTree T k mt leaf B X ra rc RL na nc NL w) {α : Type} {f : α → List Value} {sz B' : Nat} {e : TypeId} {ad : Option Addr} {cap : Nat} {l : List α} (ho : OwnS f sz w B' e ad cap l) (h1 : e ≠ 53) (h2 : e ≠ 34) (h3 : e ≠ 40) : ∀ b, b ∈ ob ad cap → b ∉ frT T ra rc na nc := by
  intro b hb hb2
  unfold frT at hb2
  rcases List.mem_cons.1 hb2 with rfl | hb2
  · exact own_ne ho h.blk h1 hb
  · rcases List.mem_append.1 hb2 with hb2 | hb2
    · exact ownApart ho h.recs h2 b hb hb2
    · exact ownApart ho h.nodes h3 b hb hb2
/-- No block of the tree's frame holds numbers. -/
theorem RTree.frNot (h : RTree T k mt leaf B X ra rc RL na nc NL w) : ∀ b ∈ frT T ra rc na nc, NotI w b := by
  intro b hb
  have hn := rNi
  unfold frT at hb
  rcases List.mem_cons.1 hb with rfl | hb
  · exact ⟨_, _, _, h.blk, hn.2.2.2.1, hn.2.2.2.2⟩
  · rcases List.mem_append.1 hb with hb | hb
    · exact notI_own h.recs hn.1.1 hn.1.2 b hb
    · exact notI_own h.nodes hn.2.1.1 hn.2.1.2 b hb
theorem RTree.more (h : RTree T k mt leaf B X ra rc RL na nc NL w) {Y : Nat → Prop} (hY : ∀ b, Y b → X b ∨ w.heap.size ≤ b) : RTree T k mt leaf B Y ra rc RL na nc NL w :=
  ⟨h.blk, h.recs, h.nodes, h.good, fun y hy => ⟨(h.kids y hy).1, (h.kids y hy).2.1, fun b hb hyb => by
    rcases hY b hyb with hx | hx
    · exact (h.kids y hy).2.2 b hb hx
    · have := ((h.kids y hy).2.1.ob_ge b hb).2; omega⟩, h.base⟩
theorem RTree.addNode (h : RTree T k mt leaf B X ra rc RL na nc NL w) {w2 w3 : World} {na' : Option Addr} {nc' : Nat} {y : Nh} (hk2 : Kp (ob na nc) w w2) (hn : OwnS ncells 4 w2 B 40 na' nc' (NL ++ [y])) (hkn : y.kn = 0 ∧ y.kids = [] ∧ y.kc = 0)
    (hk3 : Kp [T] w2 w3) (hT : w3.heap[T]? = some (.cells (rtC k leaf ra RL.length rc na' (NL ++ [y]).length nc') 53 (0, 0))) : RTree T k mt leaf B X ra rc RL na' nc' (NL ++ [y]) w3 := by
  have hne := rNe
  have hni := rNi
  have hT2 : w2.heap[T]? = some (.cells (rtC k leaf ra RL.length rc na NL.length nc) 53 (0, 0)) := hk2.get h.blk (own_ne h.nodes h.blk hne.2.1)
  have ho : ∀ {α : Type} {f : α → List Value} {sz : Nat} {e : TypeId} {ad : Option Addr} {cap : Nat} {l : List α}, OwnS f sz w B e ad cap l → e ≠ 53 → e ≠ 40 → OwnS f sz w3 B e ad cap l := fun h1 h2 h3 => by
    have h4 := h1.keep hk2 (ownApart h1 h.nodes h3)
    exact h4.keep hk3 (fun b hb hb2 => by simp at hb2; subst hb2; exact own_ne h4 hT2 h2 hb)
  refine ⟨hT, ho h.recs hne.1 hne.2.2.2.1, hn.keep hk3 (fun b hb hb2 => by simp at hb2; subst hb2; exact own_ne hn hT2 hne.2.1 hb), fun x hx => ?_, fun z hz => ?_, h.base⟩
  · exact ((h.good x hx).keepT hk2 (notI_own h.nodes hni.2.1.1 hni.2.1.2)).keepT hk3 (fun b hb => by simp at hb; subst hb; exact ⟨_, _, _, hT2, hni.2.2.2.1, hni.2.2.2.2⟩)
  · rcases List.mem_append.1 hz with hz | hz
    · obtain ⟨g1, g2, g3⟩ := h.kids z hz
      exact ⟨g1, ho g2 hne.2.2.1 (fun e => hne.2.2.2.2.2 e.symm), g3⟩
    · simp at hz; subst hz
      refine ⟨by rw [hkn.1, hkn.2.1]; rfl, .inl ⟨hkn.2.2, hkn.2.1⟩, fun b hb => ?_⟩
      simp [ob, hkn.2.2] at hb
theorem RTree.addRecs (h : RTree T k mt leaf B X ra rc RL na nc NL w) {w2 w3 : World} {ra' : Option Addr} {rc' : Nat} {ys : List Ra} (hk2 : Kp (ob ra rc) w w2) (hn : OwnS racells 5 w2 B 34 ra' rc' (RL ++ ys)) (hg : ∀ x ∈ ys, GoodA k mt B w x)
    (hk3 : Kp [T] w2 w3) (hT : w3.heap[T]? = some (.cells (rtC k leaf ra' (RL ++ ys).length rc' na NL.length nc) 53 (0, 0))) : RTree T k mt leaf B X ra' rc' (RL ++ ys) na nc NL w3 := by
  have hne := rNe
  have hni := rNi
  have hT2 : w2.heap[T]? = some (.cells (rtC k leaf ra RL.length rc na NL.length nc) 53 (0, 0)) := hk2.get h.blk (own_ne h.recs h.blk hne.1)
  have ho : ∀ {α : Type} {f : α → List Value} {sz : Nat} {e : TypeId} {ad : Option Addr} {cap : Nat} {l : List α}, OwnS f sz w B e ad cap l → e ≠ 53 → e ≠ 34 → OwnS f sz w3 B e ad cap l := fun h1 h2 h3 => by
    have h4 := h1.keep hk2 (ownApart h1 h.recs h3)
    exact h4.keep hk3 (fun b hb hb2 => by simp at hb2; subst hb2; exact own_ne h4 hT2 h2 hb)
  have hgd : ∀ x, GoodA k mt B w x → GoodA k mt B w3 x := fun x hx => (hx.keepT hk2 (notI_own h.recs hni.1.1 hni.1.2)).keepT hk3 (fun b hb => by simp at hb; subst hb; exact ⟨_, _, _, hT2, hni.2.2.2.1, hni.2.2.2.2⟩)
  refine ⟨hT, hn.keep hk3 (fun b hb hb2 => by simp at hb2; subst hb2; exact own_ne hn hT2 hne.1 hb), ho h.nodes hne.2.1 (fun e => hne.2.2.2.1 e.symm), fun x hx => ?_, fun z hz => ?_, h.base⟩
  · rcases List.mem_append.1 hx with hx | hx
    · exact hgd x (h.good x hx)
    · exact hgd x (hg x hx)
  · obtain ⟨g1, g2, g3⟩ := h.kids z hz
    exact ⟨g1, ho g2 hne.2.2.1 (fun e => hne.2.2.2.2.1 e.symm), g3⟩
theorem RTree.setKids (h : RTree T k mt leaf B X ra rc RL na nc NL w) {w3 : World} {i : Nat} (hi : i < NL.length) {y : Nh} {g : Nat} (hg : g ∈ ob na nc) (hk : Kp [g] w w3) (hn : OwnS ncells 4 w3 B 40 na nc (NL.set i y))
    (hy : y.kn = y.kids.length ∧ OwnS kdcells 2 w B 44 y.ka y.kc y.kids ∧ ∀ b ∈ ob y.ka y.kc, ¬ X b) : RTree T k mt leaf B X ra rc RL na nc (NL.set i y) w3 := by
  have hne := rNe
  have hni := rNi
  have ho : ∀ {α : Type} {f : α → List Value} {sz : Nat} {e : TypeId} {ad : Option Addr} {cap : Nat} {l : List α}, OwnS f sz w B e ad cap l → e ≠ 40 → OwnS f sz w3 B e ad cap l := fun h1 h3 =>
    h1.keep hk (fun b hb hb2 => by simp at hb2; subst hb2; exact ownApart h1 h.nodes h3 b hb hg)
  refine ⟨?_, ho h.recs hne.2.2.2.1, hn, fun x hx => ?_, fun z hz => ?_, h.base⟩
  · rw [List.length_set]
    exact hk.get h.blk (fun hb => by simp at hb; subst hb; exact own_ne h.nodes h.blk hne.2.1 hg)
  · exact (h.good x hx).keepT hk (fun b hb => by simp at hb; subst hb; exact notI_own h.nodes hni.2.1.1 hni.2.1.2 _ hg)
  · rcases List.mem_or_eq_of_mem_set hz with hz | rfl
    · obtain ⟨g1, g2, g3⟩ := h.kids z hz
      exact ⟨g1, ho g2 (fun e => hne.2.2.2.2.2 e.symm), g3⟩
    · exact ⟨hy.1, ho hy.2.1 (fun e => hne.2.2.2.2.2 e.symm), hy.2.2⟩
theorem RTree.cell (h : RTree T k mt leaf B X ra rc RL na nc NL w) :
    w.cell? ⟨T, 0, none⟩ = some (.int .i64 k) ∧ w.cell? ⟨T, 1, none⟩ = some (.int .i64 leaf) ∧ w.cell? ⟨T, 2, none⟩ = some (.slice ra RL.length rc) ∧ w.cell? ⟨T, 3, none⟩ = some (.slice na NL.length nc) ∧ w.frozen? ⟨T, 2, none⟩ = false ∧ w.frozen? ⟨T, 3, none⟩ = false :=
  ⟨by rw [cell_of_row w T 0 _ _ _ h.blk]; rfl, by rw [cell_of_row w T 1 _ _ _ h.blk]; rfl, by rw [cell_of_row w T 2 _ _ _ h.blk]; rfl, by rw [cell_of_row w T 3 _ _ _ h.blk]; rfl, frozen_of_row w T _ _ _ h.blk, frozen_of_row w T _ _ _ h.blk⟩
theorem idAt_ra {d a : Nat} {RL : List Ra} (ha : a < RL.length) : idAt (RL.map Ra.pr) a d = nth RL[a].ids d := by
  have e : (RL.map Ra.pr).getD a default = RL[a].pr := by
    rw [List.getD_eq_getElem?_getD, List.getElem?_map, List.getElem?_eq_getElem ha]; rfl
  unfold idAt
  rw [e]
  rfl
/-- A record of the tree, and one of its ids. -/
theorem RTree.id (h : RTree T k mt leaf B X ra rc RL na nc NL w) {a d : Nat} (ha : a < RL.length) (hd : d < k) :
    ∃ g g2 ic, ra = some ⟨g, 0, none⟩ ∧ k ≤ ic ∧ ic ≤ 9223372036854775807 ∧ w.cell? ⟨g, a * 5, none⟩ = some (.slice (some ⟨g2, 0, none⟩) k ic) ∧ w.cell? ⟨g2, d, none⟩ = some (.int .i64 (idAt (RL.map Ra.pr) a d)) := by
  obtain ⟨g, h1, h2, -⟩ := h.recs.at' ralies ha
  obtain ⟨g0, hl, hm⟩ := h.good _ (List.getElem_mem ha)
  have hr := g0.1.rd
  obtain ⟨g2, q1, c0, -, -, -⟩ := g0.1.at' (i := d) (by omega)
  refine ⟨g, g2, RL[a].ic, h1, by have := hr.1; omega, hr.2.1, ?_, ?_⟩
  · have := (h2 0 (by omega)).1
    rw [Nat.add_zero] at this
    rw [this, ← q1]
    show some (Value.slice RL[a].ia RL[a].ids.length RL[a].ic) = _
    rw [hl]
  · rw [idAt_ra ha]; exact c0
end
/-- The tree, wherever its slices lie, behind a call that began at w0. -/
def RTreeIn (T k mt leaf B : Nat) (X : Nat → Prop) (F : List Nat) (w0 : World) (S : St) (w : World) : Prop :=
  ∃ ra rc RL na nc NL, RTree T k mt leaf B X ra rc RL na nc NL w ∧ S = ⟨RL.map Ra.pr, NL.map pn⟩ ∧ (∀ b ∈ frT T ra rc na nc, b ∈ F ∨ w0.heap.size ≤ b) ∧ Kp F w0 w
theorem RTreeIn.tr {T k mt leaf B : Nat} {X : Nat → Prop} {F : List Nat} {w0 w1 w2 : World} {S : St} {ra : Option Addr} {rc : Nat} {na : Option Addr} {nc : Nat} (h : RTreeIn T k mt leaf B X (frT T ra rc na nc) w1 S w2) (hf : ∀ b ∈ frT T ra rc na nc, b ∈ F ∨ w0.heap.size ≤ b) (hk : Kp F w0 w1) : RTreeIn T k mt leaf B X F w0 S w2 := by
  obtain ⟨ra', rc', RL, na', nc', NL, h1, h2, h3, h4⟩ := h
  refine ⟨ra', rc', RL, na', nc', NL, h1, h2, fun b hb => ?_, hk.trans h4 (fun b hb => .inl hb) hf⟩
  rcases h3 b hb with h | h
  · exact hf b h
  · exact .inr (Nat.le_trans hk.size h)
theorem RTreeIn.kids {T k mt leaf B B' : Nat} {X : Nat → Prop} {F : List Nat} {w0 w1 w2 : World} {S : St} {ka ka' : Option Addr} {kc kc' : Nat} {KL : List (Int × Nat)} (h : RTreeIn T k mt leaf B (fun b => X b ∨ b ∈ ob ka kc) F w0 S w1)
    (ho : OwnS kdcells 2 w1 B' 44 ka kc KL) (hB : w0.heap.size ≤ B') (hkp : Kp (ob ka kc) w1 w2) (hob : ∀ b, b ∈ ob ka' kc' → b ∈ ob ka kc ∨ w1.heap.size ≤ b) : RTreeIn T k mt leaf B (fun b => X b ∨ b ∈ ob ka' kc') F w0 S w2 := by
  obtain ⟨ra, rc, RL, na, nc, NL, h1, h2, h3, h4⟩ := h
  have hne := rNe
  have hni := rNi
  have h5 := h1.more (Y := fun b => (X b ∨ b ∈ ob ka kc) ∨ b ∈ ob ka' kc') (fun b hb => by
    rcases hb with hb | hb
    · exact .inl hb
    · rcases hob b hb with h | h
      · exact .inl (.inr h)
      · exact .inr h)
  have h6 : RTree T k mt leaf B (fun b => (X b ∨ b ∈ ob ka kc) ∨ b ∈ ob ka' kc') ra rc RL na nc NL w2 :=
    ⟨hkp.get h5.blk (own_ne ho h1.blk hne.2.2.1), h5.recs.keep hkp (fun b hb hb2 => ownApart h1.recs ho hne.2.2.2.2.1 b hb hb2), h5.nodes.keep hkp (fun b hb hb2 => ownApart h1.nodes ho hne.2.2.2.2.2 b hb hb2),
     fun x hx => (h5.good x hx).keepT hkp (notI_own ho hni.2.2.1.1 hni.2.2.1.2), fun y hy => ⟨(h5.kids y hy).1, (h5.kids y hy).2.1.keep hkp (fun b hb hb2 => (h1.kids y hy).2.2 b hb (.inr hb2)), (h5.kids y hy).2.2⟩, h5.base⟩
  refine ⟨ra, rc, RL, na, nc, NL, ⟨h6.blk, h6.recs, h6.nodes, h6.good, fun y hy => ⟨(h6.kids y hy).1, (h6.kids y hy).2.1, fun b hb hx => (h6.kids y hy).2.2 b hb ?_⟩, h6.base⟩, h2, h3, h4.trans hkp (fun b hb => .inl hb) (fun b hb => .inr (Nat.le_trans hB (ho.ob_ge b hb).1))⟩
  rcases hx with hx | hx
  · exact .inl (.inl hx)
  · exact .inr hx
theorem RTreeIn.keep0 {T k mt leaf B : Nat} {X : Nat → Prop} {F : List Nat} {w0 w1 w2 : World} {S : St} (h : RTreeIn T k mt leaf B X F w0 S w1) (hk : Kp [] w1 w2) : RTreeIn T k mt leaf B X F w0 S w2 := by
  obtain ⟨ra, rc, RL, na, nc, NL, h1, h2, h3, h4⟩ := h
  exact ⟨ra, rc, RL, na, nc, NL, h1.keep0 hk, h2, h3, h4.trans hk (fun b hb => .inl hb) (by simp)⟩
end Go.Proofs.Ythmaobmgogmaoaa
