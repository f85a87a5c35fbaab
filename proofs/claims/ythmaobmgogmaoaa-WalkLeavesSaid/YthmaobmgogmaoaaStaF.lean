/-
  Star-trees: the tree in memory.
-/
import Derived.Test.YthmaobmgogmaoaaStaD
import Derived.Test.YthmaobmgogmaoaaStaE
namespace Go.Proofs.Ythmaobmgogmaoaa
open Go.RowKit Go.Shelf
set_option linter.unusedSimpArgs false
set_option linter.unusedVariables false
set_option maxRecDepth 100000

/-- A node as it stands in a slice of nodes. -/
structure Nh where
  d : Nat
  f : Nat
  t : Nat
  ka : Option Addr
  kn : Nat
  kc : Nat
  kids : List (Int × Nat)
instance : Inhabited Nh := ⟨⟨0, 0, 0, none, 0, 0, []⟩⟩
def ncells (x : Nh) : List Value := [.int .i64 x.d, .int .i64 x.f, .int .i64 x.t, .slice x.ka x.kn x.kc]
def kdcells (x : Int × Nat) : List Value := [.int .i64 x.1, .int .i64 x.2]
theorem nlies : Lies ncells 4 := ⟨fun _ => rfl, fun x v hv => by simp [ncells] at hv; rcases hv with rfl | rfl | rfl | rfl <;> rfl, by omega⟩
theorem kdlies : Lies kdcells 2 := ⟨fun _ => rfl, fun x v hv => by simp [kdcells] at hv; rcases hv with rfl | rfl <;> rfl, by omega⟩
theorem infoNode : (Try.prog.info? 40).map (fun i => (i.zero, i.size, i.bytes)) = some (some (.agg #[.int .i64 0, .int .i64 0, .int .i64 0, .slice none 0 0]), 4, 48) := by kernel_rfl
theorem infoKid : (Try.prog.info? 44).map (fun i => (i.zero, i.size, i.bytes)) = some (some (.agg #[.int .i64 0, .int .i64 0]), 2, 16) := by kernel_rfl
def pn (x : Nh) : PN := ⟨x.d, x.f, x.t, x.kids⟩
def treeC (k mt leaf : Nat) (ra : Option Addr) (rn rc : Nat) (na : Option Addr) (nn nc : Nat) : Array Value := #[.int .i64 k, .int .i64 mt, .int .i64 leaf, .slice ra rn rc, .slice na nn nc]
structure TreeH (T k mt leaf B : Nat) (X : Nat → Prop) (ra : Option Addr) (rc : Nat) (RL : List Rc) (na : Option Addr) (nc : Nat) (NL : List Nh) (w : World) : Prop where
  blk : w.heap[T]? = some (.cells (treeC k mt leaf ra RL.length rc na NL.length nc) 59 (0, 0))
  recs : OwnS Rc.cells 10 w B 82 ra rc RL
  nodes : OwnS ncells 4 w B 40 na nc NL
  good : ∀ x ∈ RL, Good k mt B w x
  kids : ∀ y ∈ NL, y.kn = y.kids.length ∧ OwnS kdcells 2 w B 44 y.ka y.kc y.kids ∧ ∀ b ∈ ob y.ka y.kc, ¬ X b
  base : B ≤ T
/-- A block of cells of one kind is none of another. -/
theorem own_ne {α : Type} {f : α → List Value} {sz : Nat} {w : World} {B : Nat} {e e' : TypeId} {ad : Option Addr} {cap : Nat} {l : List α} (h : OwnS f sz w B e ad cap l) {T : Nat} {cs : Array Value} {fr : Nat × Nat} (hT : w.heap[T]? = some (.cells cs e' fr)) (hne : e ≠ e') : T ∉ ob ad cap := by
  intro hb
  rcases h with ⟨h, -⟩ | ⟨q, cur, rfl, -, h2, -⟩
  · simp [ob, h] at hb
  · unfold ob at hb
    split at hb
    · simp at hb
    · simp at hb
      subst hb
      rw [h2] at hT
      cases hT
      exact hne rfl
theorem tNe : (82 : TypeId) ≠ 59 ∧ (40 : TypeId) ≠ 59 ∧ (44 : TypeId) ≠ 59 ∧ (84 : TypeId) ≠ 59 ∧ (82 : TypeId) ≠ 40 ∧ (82 : TypeId) ≠ 44 ∧ (40 : TypeId) ≠ 44 ∧ (40 : TypeId) ≠ 84 ∧ (44 : TypeId) ≠ 84 := by decide
/-- What a call that grows may write. -/
def frT (T : Nat) (ra : Option Addr) (rc : Nat) (na : Option Addr) (nc : Nat) : List Nat := T :: (ob ra rc ++ ob na nc)
section
variable {T k mt leaf B : Nat} {X : Nat → Prop} {ra : Option Addr} {rc : Nat} {RL : List Rc} {na : Option Addr} {nc : Nat} {NL : List Nh} {w w' : World}
theorem TreeH.keep (h : TreeH T k mt leaf B X ra rc RL na nc NL w) {S : List Nat} (hk : Kp S w w') (hT : T ∉ S) (hR : ∀ b, b ∈ ob ra rc → b ∉ S) (hN : ∀ b, b ∈ ob na nc → b ∉ S) (hS : ∀ x ∈ RL, ∀ b, b ∈ ob x.sa x.sc → b ∉ S) (hK : ∀ y ∈ NL, ∀ b, b ∈ ob y.ka y.kc → b ∉ S) : TreeH T k mt leaf B X ra rc RL na nc NL w' :=
  ⟨hk.get h.blk hT, h.recs.keep hk hR, h.nodes.keep hk hN, fun x hx => (h.good x hx).keep hk (hS x hx), fun y hy => ⟨(h.kids y hy).1, (h.kids y hy).2.1.keep hk (hK y hy), (h.kids y hy).2.2⟩, h.base⟩
theorem TreeH.keep0 (h : TreeH T k mt leaf B X ra rc RL na nc NL w) (hk : Kp [] w w') : TreeH T k mt leaf B X ra rc RL na nc NL w' := h.keep hk (by simp) (by simp) (by simp) (by simp) (by simp)
theorem TreeH.lt (h : TreeH T k mt leaf B X ra rc RL na nc NL w) : T < w.heap.size := lt_of_heap h.blk
theorem TreeH.frLt (h : TreeH T k mt leaf B X ra rc RL na nc NL w) : ∀ b ∈ frT T ra rc na nc, B ≤ b ∧ b < w.heap.size := by
  intro b hb
  unfold frT at hb
  rcases List.mem_cons.1 hb with rfl | hb
  · exact ⟨h.base, h.lt⟩
  · rcases List.mem_append.1 hb with hb | hb
    · exact h.recs.ob_ge b hb
    · exact h.nodes.ob_ge b hb
/-- What is of another kind is not written. -/
theorem TreeH.apart (h : TreeH T k mt leaf B X ra rc RL na nc NL w) {α : Type} {f : α → List Value} {sz B' : Nat} {e : TypeId} {ad : Option Addr} {cap : Nat} {l : List α} (ho : OwnS f sz w B' e ad cap l) (h1 : e ≠ 59) (h2 : e ≠ 82) (h3 : e ≠ 40) : ∀ b, b ∈ ob ad cap → b ∉ frT T ra rc na nc := by
  intro b hb hb2
  unfold frT at hb2
  rcases List.mem_cons.1 hb2 with rfl | hb2
  · exact own_ne ho h.blk h1 hb
  · rcases List.mem_append.1 hb2 with hb2 | hb2
    · exact ownApart ho h.recs h2 b hb hb2
    · exact ownApart ho h.nodes h3 b hb hb2
/-- Other blocks that the tree's kids do not lie in. -/
theorem TreeH.more (h : TreeH T k mt leaf B X ra rc RL na nc NL w) {Y : Nat → Prop} (hY : ∀ b, Y b → X b ∨ w.heap.size ≤ b) : TreeH T k mt leaf B Y ra rc RL na nc NL w :=
  ⟨h.blk, h.recs, h.nodes, h.good, fun y hy => ⟨(h.kids y hy).1, (h.kids y hy).2.1, fun b hb hyb => by
    rcases hY b hyb with hx | hx
    · exact (h.kids y hy).2.2 b hb hx
    · have := ((h.kids y hy).2.1.ob_ge b hb).2; omega⟩, h.base⟩
/-- A node more. -/
theorem TreeH.addNode (h : TreeH T k mt leaf B X ra rc RL na nc NL w) {w2 w3 : World} {na' : Option Addr} {nc' : Nat} {y : Nh} (hk2 : Kp (ob na nc) w w2) (hn : OwnS ncells 4 w2 B 40 na' nc' (NL ++ [y])) (hkn : y.kn = 0 ∧ y.kids = [] ∧ y.kc = 0)
    (hk3 : Kp [T] w2 w3) (hT : w3.heap[T]? = some (.cells (treeC k mt leaf ra RL.length rc na' (NL ++ [y]).length nc') 59 (0, 0))) : TreeH T k mt leaf B X ra rc RL na' nc' (NL ++ [y]) w3 := by
  have hne := tNe
  have hT2 : w2.heap[T]? = some (.cells (treeC k mt leaf ra RL.length rc na NL.length nc) 59 (0, 0)) := hk2.get h.blk (own_ne h.nodes h.blk hne.2.1)
  have ho : ∀ {α : Type} {f : α → List Value} {sz : Nat} {e : TypeId} {ad : Option Addr} {cap : Nat} {l : List α}, OwnS f sz w B e ad cap l → e ≠ 59 → e ≠ 40 → OwnS f sz w3 B e ad cap l := fun h1 h2 h3 => by
    have h4 := h1.keep hk2 (ownApart h1 h.nodes h3)
    exact h4.keep hk3 (fun b hb hb2 => by simp at hb2; subst hb2; exact own_ne h4 hT2 h2 hb)
  refine ⟨hT, ho h.recs hne.1 hne.2.2.2.2.1, hn.keep hk3 (fun b hb hb2 => by simp at hb2; subst hb2; exact own_ne hn hT2 hne.2.1 hb), fun x hx => ?_, fun z hz => ?_, h.base⟩
  · obtain ⟨g1, g2, g3, g4⟩ := h.good x hx
    exact ⟨g1, g2, g3, ho g4 hne.2.2.2.1 (fun e => hne.2.2.2.2.2.2.2.1 e.symm)⟩
  · rcases List.mem_append.1 hz with hz | hz
    · obtain ⟨g1, g2, g3⟩ := h.kids z hz
      exact ⟨g1, ho g2 hne.2.2.1 (fun e => hne.2.2.2.2.2.2.1 e.symm), g3⟩
    · simp at hz; subst hz
      refine ⟨by rw [hkn.1, hkn.2.1]; rfl, .inl ⟨hkn.2.2, hkn.2.1⟩, fun b hb => ?_⟩
      simp [ob, hkn.2.2] at hb
/-- Records more. -/
theorem TreeH.addRecs (h : TreeH T k mt leaf B X ra rc RL na nc NL w) {w2 w3 : World} {ra' : Option Addr} {rc' : Nat} {ys : List Rc} (hk2 : Kp (ob ra rc) w w2) (hn : OwnS Rc.cells 10 w2 B 82 ra' rc' (RL ++ ys)) (hg : ∀ x ∈ ys, Good k mt B w x)
    (hk3 : Kp [T] w2 w3) (hT : w3.heap[T]? = some (.cells (treeC k mt leaf ra' (RL ++ ys).length rc' na NL.length nc) 59 (0, 0))) : TreeH T k mt leaf B X ra' rc' (RL ++ ys) na nc NL w3 := by
  have hne := tNe
  have hT2 : w2.heap[T]? = some (.cells (treeC k mt leaf ra RL.length rc na NL.length nc) 59 (0, 0)) := hk2.get h.blk (own_ne h.recs h.blk hne.1)
  have ho : ∀ {α : Type} {f : α → List Value} {sz : Nat} {e : TypeId} {ad : Option Addr} {cap : Nat} {l : List α}, OwnS f sz w B e ad cap l → e ≠ 59 → e ≠ 82 → OwnS f sz w3 B e ad cap l := fun h1 h2 h3 => by
    have h4 := h1.keep hk2 (ownApart h1 h.recs h3)
    exact h4.keep hk3 (fun b hb hb2 => by simp at hb2; subst hb2; exact own_ne h4 hT2 h2 hb)
  have hgd : ∀ x, Good k mt B w x → Good k mt B w3 x := fun x ⟨g1, g2, g3, g4⟩ => ⟨g1, g2, g3, ho g4 hne.2.2.2.1 (fun e => tRec_tSum e.symm)⟩
  refine ⟨hT, hn.keep hk3 (fun b hb hb2 => by simp at hb2; subst hb2; exact own_ne hn hT2 hne.1 hb), ho h.nodes hne.2.1 (fun e => hne.2.2.2.2.1 e.symm), fun x hx => ?_, fun z hz => ?_, h.base⟩
  · rcases List.mem_append.1 hx with hx | hx
    · exact hgd x (h.good x hx)
    · exact hgd x (hg x hx)
  · obtain ⟨g1, g2, g3⟩ := h.kids z hz
    exact ⟨g1, ho g2 hne.2.2.1 (fun e => hne.2.2.2.2.2.1 e.symm), g3⟩
/-- A node's kids are set. -/
theorem TreeH.setKids (h : TreeH T k mt leaf B X ra rc RL na nc NL w) {w3 : World} {i : Nat} (hi : i < NL.length) {y : Nh} {g : Nat} (hg : g ∈ ob na nc) (hk : Kp [g] w w3) (hn : OwnS ncells 4 w3 B 40 na nc (NL.set i y))
    (hy : y.kn = y.kids.length ∧ OwnS kdcells 2 w B 44 y.ka y.kc y.kids ∧ ∀ b ∈ ob y.ka y.kc, ¬ X b) : TreeH T k mt leaf B X ra rc RL na nc (NL.set i y) w3 := by
  have hne := tNe
  have ho : ∀ {α : Type} {f : α → List Value} {sz : Nat} {e : TypeId} {ad : Option Addr} {cap : Nat} {l : List α}, OwnS f sz w B e ad cap l → e ≠ 40 → OwnS f sz w3 B e ad cap l := fun h1 h3 =>
    h1.keep hk (fun b hb hb2 => by simp at hb2; subst hb2; exact ownApart h1 h.nodes h3 b hb hg)
  refine ⟨?_, ho h.recs hne.2.2.2.2.1, hn, fun x hx => ?_, fun z hz => ?_, h.base⟩
  · rw [List.length_set]
    exact hk.get h.blk (fun hb => by simp at hb; subst hb; exact own_ne h.nodes h.blk hne.2.1 hg)
  · obtain ⟨g1, g2, g3, g4⟩ := h.good x hx
    exact ⟨g1, g2, g3, ho g4 (fun e => hne.2.2.2.2.2.2.2.1 e.symm)⟩
  · rcases List.mem_or_eq_of_mem_set hz with hz | rfl
    · obtain ⟨g1, g2, g3⟩ := h.kids z hz
      exact ⟨g1, ho g2 (fun e => hne.2.2.2.2.2.2.1 e.symm), g3⟩
    · exact ⟨hy.1, ho hy.2.1 (fun e => hne.2.2.2.2.2.2.1 e.symm), hy.2.2⟩
end
/-- The tree, wherever its slices lie, behind a call that began at w0. -/
def TreeIn (T k mt leaf B : Nat) (X : Nat → Prop) (F : List Nat) (w0 : World) (S : St) (w : World) : Prop :=
  ∃ ra rc RL na nc NL, TreeH T k mt leaf B X ra rc RL na nc NL w ∧ S = ⟨RL.map (pr k), NL.map pn⟩ ∧ (∀ b ∈ frT T ra rc na nc, b ∈ F ∨ w0.heap.size ≤ b) ∧ Kp F w0 w
theorem TreeIn.tr {T k mt leaf B : Nat} {X : Nat → Prop} {F : List Nat} {w0 w1 w2 : World} {S : St} {ra : Option Addr} {rc : Nat} {na : Option Addr} {nc : Nat} (h : TreeIn T k mt leaf B X (frT T ra rc na nc) w1 S w2) (hf : ∀ b ∈ frT T ra rc na nc, b ∈ F ∨ w0.heap.size ≤ b) (hk : Kp F w0 w1) : TreeIn T k mt leaf B X F w0 S w2 := by
  obtain ⟨ra', rc', RL, na', nc', NL, h1, h2, h3, h4⟩ := h
  refine ⟨ra', rc', RL, na', nc', NL, h1, h2, fun b hb => ?_, hk.trans h4 (fun b hb => .inl hb) hf⟩
  rcases h3 b hb with h | h
  · exact hf b h
  · exact .inr (Nat.le_trans hk.size h)
end Go.Proofs.Ythmaobmgogmaoaa
