/-
  Star-trees: the tree in memory.
  Star-trees: what growing calls.
-/
import Derived.Test.YthmaobmgogmaoaaStaD
import Derived.Test.YthmaobmgogmaoaaStaE
namespace Go.Proofs.Ythmaobmgogmaoaa
open Go.RowKit Go.Shelf
set_option linter.unusedSimpArgs false
set_option linter.unusedVariables false
set_option maxRecDepth 100000

/-- A node as it stands in a slice of nodes. -/
structure Nh where
  d : Nat
  f : Nat
  t : Nat
  ka : Option Addr
  kn : Nat
  kc : Nat
  kids : List (Int × Nat)
instance : Inhabited Nh := ⟨⟨0, 0, 0, none, 0, 0, []⟩⟩
def ncells (x : Nh) : List Value := [.int .i64 x.d, .int .i64 x.f, .int .i64 x.t, .slice x.ka x.kn x.kc]
def kdcells (x : Int × Nat) : List Value := [.int .i64 x.1, .int .i64 x.2]
theorem nlies : Lies ncells 4 := ⟨fun _ => rfl, fun x v hv => by simp [ncells] at hv; rcases hv with rfl | rfl | rfl | rfl <;> rfl, by omega⟩
theorem kdlies : Lies kdcells 2 := ⟨fun _ => rfl, fun x v hv => by simp [kdcells] at hv; rcases hv with rfl | rfl <;> rfl, by omega⟩
theorem infoNode : (Try.prog.info? 40).map (fun i => (i.zero, i.size, i.bytes)) = some (some (.agg #[.int .i64 0, .int .i64 0, .int .i64 0, .slice none 0 0]), 4, 48) := by kernel_rfl
theorem infoKid : (Try.prog.info? 44).map (fun i => (i.zero, i.size, i.bytes)) = some (some (.agg #[.int .i64 0, .int .i64 0]), 2, 16) := by kernel_rfl
def pn (x : Nh) : PN := ⟨x.d, x.f, x.t, x.kids⟩
def treeC (k mt leaf : Nat) (ra : Option Addr) (rn rc : Nat) (na : Option Addr) (nn nc : Nat) : Array Value := #[.int .i64 k, .int .i64 mt, .int .i64 leaf, .slice ra rn rc, .slice na nn nc]
structure TreeH (T k mt leaf B : Nat) (X : Nat → Prop) (ra : Option Addr) (rc : Nat) (RL : List Rc) (na : Option Addr) (nc : Nat) (NL : List Nh) (w : World) : Prop where
  blk : w.heap[T]? = some (.cells (treeC k mt leaf ra RL.length rc na NL.length nc) 59 (0, 0))
  recs : OwnS Rc.cells 10 w B 82 ra rc RL
  nodes : OwnS ncells 4 w B 40 na nc NL
  good : ∀ x ∈ RL, Good k mt B w x
  kids : ∀ y ∈ NL, y.kn = y.kids.length ∧ OwnS kdcells 2 w B 44 y.ka y.kc y.kids ∧ ∀ b ∈ ob y.ka y.kc, ¬ X b
  base : B ≤ T
/-- A block of cells of one kind is none of another. -/
theorem own_ne {α : Type} {f : α → List Value} {sz : Nat} {w : World} {B : Nat} {e e' : TypeId} {ad : Option Addr} {cap : Nat} {l : List α} (h : OwnS f sz w B e ad cap l) {T : Nat} {cs : Array Value} {fr : Nat × Nat} (hT : w.heap[T]? = some (.cells cs e' fr)) (hne : e ≠ e') : T ∉ ob ad cap := by
  intro hb
  rcases h with ⟨h, -⟩ | ⟨q, cur, rfl, -, h2, -⟩
  · simp [ob, h] at hb
  · unfold ob at hb
    split at hb
    · simp at hb
    · simp at hb
      subst hb
      rw [h2] at hT
      cases hT
      exact hne rfl
theorem tNe : (82 : TypeId) ≠ 59 ∧ (40 : TypeId) ≠ 59 ∧ (44 : TypeId) ≠ 59 ∧ (84 : TypeId) ≠ 59 ∧ (82 : TypeId) ≠ 40 ∧ (82 : TypeId) ≠ 44 ∧ (40 : TypeId) ≠ 44 ∧ (40 : TypeId) ≠ 84 ∧ (44 : TypeId) ≠ 84 := by decide
/-- What a call that grows may write. -/
def frT (T : Nat) (ra : Option Addr) (rc : Nat) (na : Option Addr) (nc : Nat) : List Nat := T :: (ob ra rc ++ ob na nc)
section
variable {T k mt leaf B : Nat} {X : Nat → Prop} {ra : Option Addr} {rc : Nat} {RL : List Rc} {na : Option Addr} {nc : Nat} {NL : List Nh} {w w' : World}
theorem TreeH.keep (h : TreeH T k mt leaf B X ra rc RL na nc NL w) {S : List Nat} (hk : Kp S w w') (hT : T ∉ S) (hR : ∀ b, b ∈ ob ra rc → b ∉ S) (hN : ∀ b, b ∈ ob na nc → b ∉ S) (hS : ∀ x ∈ RL, ∀ b, b ∈ ob x.sa x.sc → b ∉ S) (hK : ∀ y ∈ NL, ∀ b, b ∈ ob y.ka y.kc → b ∉ S) : TreeH T k mt leaf B X ra rc RL na nc NL w' :=
  ⟨hk.get h.blk hT, h.recs.keep hk hR, h.nodes.keep hk hN, fun x hx => (h.good x hx).keep hk (hS x hx), fun y hy => ⟨(h.kids y hy).1, (h.kids y hy).2.1.keep hk (hK y hy), (h.kids y hy).2.2⟩, h.base⟩
theorem TreeH.keep0 (h : TreeH T k mt leaf B X ra rc RL na nc NL w) (hk : Kp [] w w') : TreeH T k mt leaf B X ra rc RL na nc NL w' := h.keep hk (by simp) (by simp) (by simp) (by simp) (by simp)
theorem TreeH.lt (h : TreeH T k mt leaf B X ra rc RL na nc NL w) : T < w.heap.size := lt_of_heap h.blk
theorem TreeH.frLt (h : TreeH T k mt leaf B X ra rc RL na nc NL w) : ∀ b ∈ frT T ra rc na nc, B ≤ b ∧ b < w.heap.size := by
  intro b hb
  unfold frT at hb
  rcases List.mem_cons.1 hb with rfl | hb
  · exact ⟨h.base, h.lt⟩
  · rcases List.mem_append.1 hb with hb | hb
    · exact h.recs.ob_ge b hb
    · exact h.nodes.ob_ge b hb
/-- What is of another kind is not written. -/
theorem TreeH.apart (h : TreeH T k mt leaf B X ra rc RL na nc NL w) {α : Type} {f : α → List Value} {sz B' : Nat} {e : TypeId} {ad : Option Addr} {cap : Nat} {l : List α} (ho : OwnS f sz w B' e ad cap l) (h1 : e ≠ 59) (h2 : e ≠ 82) (h3 : e ≠ 40) : ∀ b, b ∈ ob ad cap → b ∉ frT T ra rc na nc := by
  intro b hb hb2
  unfold frT at hb2
  rcases List.mem_cons.1 hb2 with rfl | hb2
  · exact own_ne ho h.blk h1 hb
  · rcases List.mem_append.1 hb2 with hb2 | hb2
    · exact ownApart ho h.recs h2 b hb hb2
    · exact ownApart ho h.nodes h3 b hb hb2
/-- Other blocks that the tree's kids do not lie in. -/
theorem TreeH.more (h : TreeH T k mt leaf B X ra rc RL na nc NL w) {Y : Nat → Prop} (hY : ∀ b, Y b → X b ∨ w.heap.size ≤ b) : TreeH T k mt leaf B Y ra rc RL na nc NL w :=
  ⟨h.blk, h.recs, h.nodes, h.good, fun y hy => ⟨(h.kids y hy).1, (h.kids y hy).2.1, fun b hb hyb => by
    rcases hY b hyb with hx | hx
    · exact (h.kids y hy).2.2 b hb hx
    · have := ((h.kids y hy).2.1.ob_ge b hb).2; omega⟩, h.base⟩
/-- A node more. -/
theorem TreeH.addNode (h : TreeH T k mt leaf B X ra rc RL na nc NL w) {w2 w3 : World} {na' : Option Addr} {nc' : Nat} {y : Nh} (hk2 : Kp (ob na nc) w w2) (hn : OwnS ncells 4 w2 B 40 na' nc' (NL ++ [y])) (hkn : y.kn = 0 ∧ y.kids = [] ∧ y.kc = 0)
    (hk3 : Kp [T] w2 w3) (hT : w3.heap[T]? = some (.cells (treeC k mt leaf ra RL.length rc na' (NL ++ [y]).length nc') 59 (0, 0))) : TreeH T k mt leaf B X ra rc RL na' nc' (NL ++ [y]) w3 := by
  have hne := tNe
  have hT2 : w2.heap[T]? = some (.cells (treeC k mt leaf ra RL.length rc na NL.length nc) 59 (0, 0)) := hk2.get h.blk (own_ne h.nodes h.blk hne.2.1)
  have ho : ∀ {α : Type} {f : α → List Value} {sz : Nat} {e : TypeId} {ad : Option Addr} {cap : Nat} {l : List α}, OwnS f sz w B e ad cap l → e ≠ 59 → e ≠ 40 → OwnS f sz w3 B e ad cap l := fun h1 h2 h3 => by
    have h4 := h1.keep hk2 (ownApart h1 h.nodes h3)
    exact h4.keep hk3 (fun b hb hb2 => by simp at hb2; subst hb2; exact own_ne h4 hT2 h2 hb)
  refine ⟨hT, ho h.recs hne.1 hne.2.2.2.2.1, hn.keep hk3 (fun b hb hb2 => by simp at hb2; subst hb2; exact own_ne hn hT2 hne.2.1 hb), fun x hx => ?_, fun z hz => ?_, h.base⟩
  · obtain ⟨g1, g2, g3, g4⟩ := h.good x hx
    exact ⟨g1, g2, g3, ho g4 hne.2.2.2.1 (fun e => hne.2.2.2.2.2.2.2.1 e.symm)⟩
  · rcases List.mem_append.1 hz with hz | hz
    · obtain ⟨g1, g2, g3⟩ := h.kids z hz
      exact ⟨g1, ho g2 hne.2.2.1 (fun e => hne.2.2.2.2.2.2.1 e.symm), g3⟩
    · simp at hz; subst hz
      refine ⟨by rw [hkn.1, hkn.2.1]; rfl, .inl ⟨hkn.2.2, hkn.2.1⟩, fun b hb => ?_⟩
      simp [ob, hkn.2.2] at hb
/-- Records more. -/
theorem TreeH.addRecs (h : TreeH T k mt leaf B X ra rc RL na nc NL w) {w2 w3 : World} {ra' : Option Addr} {rc' : Nat} {ys : List Rc} (hk2 : Kp (ob ra rc) w w2) (hn : OwnS Rc.cells 10 w2 B 82 ra' rc' (RL ++ ys)) (hg : ∀ x ∈ ys, Good k mt B w x)
    (hk3 : Kp [T] w2 w3) (hT : w3.heap[T]? = some (.cells (treeC k mt leaf ra' (RL ++ ys).length rc' na NL.length nc) 59 (0, 0))) : TreeH T k mt leaf B X ra' rc' (RL ++ ys) na nc NL w3 := by
  have hne := tNe
  have hT2 : w2.heap[T]? = some (.cells (treeC k mt leaf ra RL.length rc na NL.length nc) 59 (0, 0)) := hk2.get h.blk (own_ne h.recs h.blk hne.1)
  have ho : ∀ {α : Type} {f : α → List Value} {sz : Nat} {e : TypeId} {ad : Option Addr} {cap : Nat} {l : List α}, OwnS f sz w B e ad cap l → e ≠ 59 → e ≠ 82 → OwnS f sz w3 B e ad cap l := fun h1 h2 h3 => by
    have h4 := h1.keep hk2 (ownApart h1 h.recs h3)
    exact h4.keep hk3 (fun b hb hb2 => by simp at hb2; subst hb2; exact own_ne h4 hT2 h2 hb)
  have hgd : ∀ x, Good k mt B w x → Good k mt B w3 x := fun x ⟨g1, g2, g3, g4⟩ => ⟨g1, g2, g3, ho g4 hne.2.2.2.1 (fun e => tRec_tSum e.symm)⟩
  refine ⟨hT, hn.keep hk3 (fun b hb hb2 => by simp at hb2; subst hb2; exact own_ne hn hT2 hne.1 hb), ho h.nodes hne.2.1 (fun e => hne.2.2.2.2.1 e.symm), fun x hx => ?_, fun z hz => ?_, h.base⟩
  · rcases List.mem_append.1 hx with hx | hx
    · exact hgd x (h.good x hx)
    · exact hgd x (hg x hx)
  · obtain ⟨g1, g2, g3⟩ := h.kids z hz
    exact ⟨g1, ho g2 hne.2.2.1 (fun e => hne.2.2.2.2.2.1 e.symm), g3⟩
/-- A node's kids are set. -/
theorem TreeH.setKids (h : TreeH T k mt leaf B X ra rc RL na nc NL w) {w3 : World} {i : Nat} (hi : i < NL.length) {y : Nh} {g : Nat} (hg : g ∈ ob na nc) (hk : Kp [g] w w3) (hn : OwnS ncells 4 w3 B 40 na nc (NL.set i y))
    (hy : y.kn = y.kids.length ∧ OwnS kdcells 2 w B 44 y.ka y.kc y.kids ∧ ∀ b ∈ ob y.ka y.kc, ¬ X b) : TreeH T k mt leaf B X ra rc RL na nc (NL.set i y) w3 := by
  have hne := tNe
  have ho : ∀ {α : Type} {f : α → List Value} {sz : Nat} {e : TypeId} {ad : Option Addr} {cap : Nat} {l : List α}, OwnS f sz w B e ad cap l → e ≠ 40 → OwnS f sz w3 B e ad cap l := fun h1 h3 =>
    h1.keep hk (fun b hb hb2 => by simp at hb2; subst hb2; exact ownApart h1 h.nodes h3 b hb hg)
  refine ⟨?_, ho h.recs hne.2.2.2.2.1, hn, fun x hx => ?_, fun z hz => ?_, h.base⟩
  · rw [List.length_set]
    exact hk.get h.blk (fun hb => by simp at hb; subst hb; exact own_ne h.nodes h.blk hne.2.1 hg)
  · obtain ⟨g1, g2, g3, g4⟩ := h.good x hx
    exact ⟨g1, g2, g3, ho g4 (fun e => hne.2.2.2.2.2.2.2.1 e.symm)⟩
  · rcases List.mem_or_eq_of_mem_set hz with hz | rfl
    · obtain ⟨g1, g2, g3⟩ := h.kids z hz
      exact ⟨g1, ho g2 (fun e => hne.2.2.2.2.2.2.1 e.symm), g3⟩
    · exact ⟨hy.1, ho hy.2.1 (fun e => hne.2.2.2.2.2.2.1 e.symm), hy.2.2⟩
end
/-- The tree, wherever its slices lie, behind a call that began at w0. -/
def TreeIn (T k mt leaf B : Nat) (X : Nat → Prop) (F : List Nat) (w0 : World) (S : St) (w : World) : Prop :=
  ∃ ra rc RL na nc NL, TreeH T k mt leaf B X ra rc RL na nc NL w ∧ S = ⟨RL.map (pr k), NL.map pn⟩ ∧ (∀ b ∈ frT T ra rc na nc, b ∈ F ∨ w0.heap.size ≤ b) ∧ Kp F w0 w
theorem TreeIn.tr {T k mt leaf B : Nat} {X : Nat → Prop} {F : List Nat} {w0 w1 w2 : World} {S : St} {ra : Option Addr} {rc : Nat} {na : Option Addr} {nc : Nat} (h : TreeIn T k mt leaf B X (frT T ra rc na nc) w1 S w2) (hf : ∀ b ∈ frT T ra rc na nc, b ∈ F ∨ w0.heap.size ≤ b) (hk : Kp F w0 w1) : TreeIn T k mt leaf B X F w0 S w2 := by
  obtain ⟨ra', rc', RL, na', nc', NL, h1, h2, h3, h4⟩ := h
  refine ⟨ra', rc', RL, na', nc', NL, h1, h2, fun b hb => ?_, hk.trans h4 (fun b hb => .inl hb) hf⟩
  rcases h3 b hb with h | h
  · exact hf b h
  · exact .inr (Nat.le_trans hk.size h)
end Go.Proofs.Ythmaobmgogmaoaa
namespace Go.Proofs.Ythmaobmgogmaoaa
open Go.RowKit Go.Shelf
set_option linter.unusedSimpArgs false
set_option linter.unusedVariables false
set_option maxRecDepth 100000

section
variable {α : Type} {f : α → List Value} {sz : Nat} {w : World} {ad : Option Addr} {cap : Nat} {l : List α}
theorem RdS.head (h : RdS f sz w ad cap l) {b : Nat} (hb : b ≤ l.length) : RdS f sz w ad cap (l.take b) := by
  have h1 := h.1
  refine ⟨by simp; omega, h.2.1, fun i hi => ?_⟩
  have hi2 : i < l.length := by simp at hi; omega
  obtain ⟨g, off, h2, h3⟩ := h.2.2 i hi2
  exact ⟨g, off, h2, fun j hj => by rw [h3 j hj]; simp⟩
theorem RdS.tail (h : RdS f sz w ad cap l) {a : Nat} (ha : a ≤ l.length) : RdS f sz w (ad.map (·.add (a * sz))) (cap - a) (l.drop a) := by
  have h1 := h.1
  refine ⟨by simp; omega, by have := h.2.1; omega, fun i hi => ?_⟩
  have hi2 : a + i < l.length := by simp at hi; omega
  obtain ⟨g, off, rfl, h3⟩ := h.2.2 (a + i) hi2
  refine ⟨g, off + a * sz, by simp [Addr.add_lit], fun j hj => ?_⟩
  have := h3 j hj
  rw [Nat.add_mul, ← Nat.add_assoc off] at this
  rw [this]; simp
end
theorem size_rec (w : World) : (sizeOf (Try.prog.elem 57)).run Try.prog w = .ok 10 w := by
  obtain ⟨i, h1, h2, h3, h4⟩ := info_parts infoRec
  have e : Try.prog.elem 57 = 82 := by kernel_rfl
  rw [e]
  simp [sizeOf, typeInfo, h1, h3, go_sem]
theorem slice_recs (ra : Option Addr) (n rc p q : Nat) (hp : p < q) (hq : q ≤ n) (hn : n ≤ rc) (wx : World) :
    (Instr.slice 57 (.slice ra n rc) (some (.int .i64 p)) (some (.int .i64 q)) none).run Try.prog wx = .ok (.slice (ra.map (·.add (p * 10))) (q - p) (rc - p)) wx := by
  rw [run_slice_lh (P := Try.prog) (w := wx) 57 ra n rc (by kernel_rfl) .i64 .i64 (p : Int) (q : Int) (by omega) (by omega) (by omega), size_rec]
  simp [Result.andThen, sliced]
  intro h; omega
/-- A copy of records. -/
theorem cloneR_any (x : Addr) (c0 n : Nat) (a : List Rc) (hn : n = a.length) (w : World) (ha : RdS Rc.cells 10 w (some x) c0 a) (hb : n ≤ 1000000) :
    Calls Try.prog 60 #[.slice (some x) n c0] w fun e w' => ∃ ad cap, e = .returned (.slice ad n cap) ∧ OwnS Rc.cells 10 w' w.heap.size 82 ad cap a ∧ Kp [] w w' := by
  have heq := fun wx : World => Lib.run_eql_slice_nil (P := Try.prog) wx 57 82 (some x) n c0 0 0 Try.underlying57
  have HN := Lib.hid hn
  have HR := Lib.hid ha
  clear hn ha
  go_enter Try.func60, Try.ntmps60
  go_wp2_with (at_builtin; refine wpList_appS rclies rfl (.tmp 5) (.tmp 6) 57 57 rfl w.heap.size 82 (.agg #[.int .i64 0, .int .i64 0, .int .i64 0, .int .i64 0, .int .i64 0, .int .i64 0, .int .i64 0, .int .i64 0, .int .i64 0, .slice none 0 0]) 96 Try.underlying57 infoRec rfl (some ⟨w.heap.size, 0, none⟩) 0 0 [] rfl a _ n HN.out rfl rfl (.inl ⟨rfl, rfl⟩) (by rw [HN.out]; exact src_rdS rclies (RdS.keep0 HR.out rclies.len ((Kp.refl [] w).alloc _)) Try.underlying57) (by omega) (by omega) (by simp) ?_; intro ad1 cap1 w1 ho1 kp1 hob1 _; rw [List.nil_append] at ho1)
  go_ret
  exact ⟨ad1, cap1, by simp, ho1, ((Kp.refl [] w).alloc _).trans kp1 (by simp) (by simp [ob])⟩
theorem dat_own {w : World} {B : Nat} {e : TypeId} {ad : Option Addr} {cap : Nat} {l : List Rc} (h : OwnS Rc.cells 10 w B e ad cap l) (hne : l ≠ []) : ∃ g, ad = some ⟨g, 0, none⟩ ∧ B ≤ g ∧ g < w.heap.size ∧ g ∈ ob ad cap ∧ Dat w g l ∧ l.length ≤ cap ∧ cap ≤ 9223372036854775807 := by
  have hr := h.rd rclies
  rcases h with ⟨-, h⟩ | ⟨g, cur, rfl, h1, h2, h3, h4, h5, h6⟩
  · exact (hne h).elim
  · have hl : 0 < l.length := List.length_pos_iff.2 hne
    refine ⟨g, rfl, h1, lt_of_heap h2, by simp [ob, show ¬ cap = 0 by omega], ⟨cur, e, h2, by omega, fun i hi j hj => ?_⟩, h4, h5⟩
    obtain ⟨b, off, q1, q2⟩ := hr.2.2 i hi
    cases q1
    have := q2 j hj
    rw [Nat.zero_add, cell_of_row w g _ cur e _ h2] at this
    exact this
/-- A record with a star. -/
def Rc.star (d : Nat) (x : Rc) : Rc := ⟨fun j => if j = d then -1 else x.ids j, x.cnt, x.sa, x.sn, x.sc, x.sums⟩
theorem star_cells (x : Rc) {d : Nat} (hd : d < 8) : (x.star d).cells = x.cells.set d (.int .i64 (-1)) := by
  have : d = 0 ∨ d = 1 ∨ d = 2 ∨ d = 3 ∨ d = 4 ∨ d = 5 ∨ d = 6 ∨ d = 7 := by omega
  rcases this with rfl | rfl | rfl | rfl | rfl | rfl | rfl | rfl <;> simp [Rc.cells, Rc.star]
theorem star_pr {k d : Nat} (x : Rc) (hd : d < k) : pr k (x.star d) = starAt d (pr k x) := by
  unfold pr starAt Rc.star
  simp only
  congr 1
  refine List.ext_getElem (by simp) fun j h1 h2 => ?_
  simp only [List.length_map, List.length_range] at h1
  rw [List.getElem_map, List.getElem_range, List.getElem_set]
  by_cases h : j = d
  · rw [if_pos h, if_pos h.symm]
  · rw [if_neg h, if_neg (fun e => h e.symm), List.getElem_map, List.getElem_range]
theorem cells_id (x : Rc) {d : Nat} (hd : d < 8) : x.cells[d]? = some (.int .i64 (x.ids d)) := by
  have : d = 0 ∨ d = 1 ∨ d = 2 ∨ d = 3 ∨ d = 4 ∨ d = 5 ∨ d = 6 ∨ d = 7 := by omega
  rcases this with rfl | rfl | rfl | rfl | rfl | rfl | rfl | rfl <;> rfl
theorem idAt_map {k d a : Nat} {RL : List Rc} (ha : a < RL.length) (hd : d < k) : idAt (RL.map (pr k)) a d = RL[a].ids d := by
  have e : (RL.map (pr k)).getD a default = pr k RL[a] := by
    rw [List.getD_eq_getElem?_getD, List.getElem?_map, List.getElem?_eq_getElem ha]; rfl
  unfold idAt
  rw [e]
  simp [pr, hd]
/-- An id of a record of the tree. -/
theorem TreeH.id {T k mt leaf B : Nat} {X : Nat → Prop} {ra : Option Addr} {rc : Nat} {RL : List Rc} {na : Option Addr} {nc : Nat} {NL : List Nh} {w : World} (h : TreeH T k mt leaf B X ra rc RL na nc NL w) {a d : Nat} (ha : a < RL.length) (hd : d < k) (hk : k ≤ 8) :
    ∃ g, ra = some ⟨g, 0, none⟩ ∧ w.cell? ⟨g, a * 10 + d, none⟩ = some (.int .i64 (idAt (RL.map (pr k)) a d)) := by
  obtain ⟨g, h1, h2, -⟩ := h.recs.at' rclies ha
  refine ⟨g, h1, ?_⟩
  rw [(h2 d (by omega)).1, cells_id _ (by omega), idAt_map ha hd]
theorem TreeH.cell {T k mt leaf B : Nat} {X : Nat → Prop} {ra : Option Addr} {rc : Nat} {RL : List Rc} {na : Option Addr} {nc : Nat} {NL : List Nh} {w : World} (h : TreeH T k mt leaf B X ra rc RL na nc NL w) :
    w.cell? ⟨T, 0, none⟩ = some (.int .i64 k) ∧ w.cell? ⟨T, 2, none⟩ = some (.int .i64 leaf) ∧ w.cell? ⟨T, 3, none⟩ = some (.slice ra RL.length rc) ∧ w.cell? ⟨T, 4, none⟩ = some (.slice na NL.length nc) ∧ w.frozen? ⟨T, 3, none⟩ = false ∧ w.frozen? ⟨T, 4, none⟩ = false :=
  ⟨by rw [cell_of_row w T 0 _ _ _ h.blk]; rfl, by rw [cell_of_row w T 2 _ _ _ h.blk]; rfl, by rw [cell_of_row w T 3 _ _ _ h.blk]; rfl, by rw [cell_of_row w T 4 _ _ _ h.blk]; rfl, frozen_of_row w T _ _ _ h.blk, frozen_of_row w T _ _ _ h.blk⟩
theorem TreeIn.kids {T k mt leaf B B' : Nat} {X : Nat → Prop} {F : List Nat} {w0 w1 w2 : World} {S : St} {ka ka' : Option Addr} {kc kc' : Nat} {KL : List (Int × Nat)} (h : TreeIn T k mt leaf B (fun b => X b ∨ b ∈ ob ka kc) F w0 S w1)
    (ho : OwnS kdcells 2 w1 B' 44 ka kc KL) (hB : w0.heap.size ≤ B') (hkp : Kp (ob ka kc) w1 w2) (hob : ∀ b, b ∈ ob ka' kc' → b ∈ ob ka kc ∨ w1.heap.size ≤ b) : TreeIn T k mt leaf B (fun b => X b ∨ b ∈ ob ka' kc') F w0 S w2 := by
  obtain ⟨ra, rc, RL, na, nc, NL, h1, h2, h3, h4⟩ := h
  have hne := tNe
  have h5 := h1.more (Y := fun b => (X b ∨ b ∈ ob ka kc) ∨ b ∈ ob ka' kc') (fun b hb => by
    rcases hb with hb | hb
    · exact .inl hb
    · rcases hob b hb with h | h
      · exact .inl (.inr h)
      · exact .inr h)
  have h6 := h5.keep hkp (own_ne ho h1.blk hne.2.2.1) (fun b hb hb2 => ownApart h1.recs ho hne.2.2.2.2.2.1 b hb hb2) (fun b hb hb2 => ownApart h1.nodes ho hne.2.2.2.2.2.2.1 b hb hb2) (fun x hx b hb hb2 => ownApart (h1.good x hx).2.2.2 ho (fun e => hne.2.2.2.2.2.2.2.2 e.symm) b hb hb2) (fun y hy b hb hb2 => (h1.kids y hy).2.2 b hb (.inr hb2))
  refine ⟨ra, rc, RL, na, nc, NL, ⟨h6.blk, h6.recs, h6.nodes, h6.good, fun y hy => ⟨(h6.kids y hy).1, (h6.kids y hy).2.1, fun b hb hx => (h6.kids y hy).2.2 b hb ?_⟩, h6.base⟩, h2, h3, h4.trans hkp (fun b hb => .inl hb) (fun b hb => .inr (Nat.le_trans hB (ho.ob_ge b hb).1))⟩
  rcases hx with hx | hx
  · exact .inl (.inl hx)
  · exact .inr hx
theorem TreeIn.keep0 {T k mt leaf B : Nat} {X : Nat → Prop} {F : List Nat} {w0 w1 w2 : World} {S : St} (h : TreeIn T k mt leaf B X F w0 S w1) (hk : Kp [] w1 w2) : TreeIn T k mt leaf B X F w0 S w2 := by
  obtain ⟨ra, rc, RL, na, nc, NL, h1, h2, h3, h4⟩ := h
  exact ⟨ra, rc, RL, na, nc, NL, h1.keep0 hk, h2, h3, h4.trans hk (fun b hb => .inl hb) (by simp)⟩
end Go.Proofs.Ythmaobmgogmaoaa
