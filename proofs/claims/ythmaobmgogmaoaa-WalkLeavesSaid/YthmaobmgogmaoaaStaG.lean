/-
  Star-trees: what growing calls.
-/
import Derived.Test.YthmaobmgogmaoaaStaF
namespace Go.Proofs.Ythmaobmgogmaoaa
open Go.RowKit Go.Shelf
set_option linter.unusedSimpArgs false
set_option linter.unusedVariables false
set_option maxRecDepth 100000

section
variable {α : Type} {f : α → List Value} {sz : Nat} {w : World} {ad : Option Addr} {cap : Nat} {l : List α}
theorem RdS.head (h : RdS f sz w ad cap l) {b : Nat} (hb : b ≤ l.length) : RdS f sz w ad cap (l.take b) := by
  have h1 := h.1
  refine ⟨by simp; omega, h.2.1, fun i hi => ?_⟩
  have hi2 : i < l.length := by simp at hi; omega
  obtain ⟨g, off, h2, h3⟩ := h.2.2 i hi2
  exact ⟨g, off, h2, fun j hj => by rw [h3 j hj]; simp⟩
theorem RdS.tail (h : RdS f sz w ad cap l) {a : Nat} (ha : a ≤ l.length) : RdS f sz w (ad.map (·.add (a * sz))) (cap - a) (l.drop a) := by
  have h1 := h.1
  refine ⟨by simp; omega, by have := h.2.1; omega, fun i hi => ?_⟩
  have hi2 : a + i < l.length := by simp at hi; omega
  obtain ⟨g, off, rfl, h3⟩ := h.2.2 (a + i) hi2
  refine ⟨g, off + a * sz, by simp [Addr.add_lit], fun j hj => ?_⟩
  have := h3 j hj
  rw [Nat.add_mul, ← Nat.add_assoc off] at this
  rw [this]; simp
end
theorem size_rec (w : World) : (sizeOf (Try.prog.elem 57)).run Try.prog w = .ok 10 w := by
  obtain ⟨i, h1, h2, h3, h4⟩ := info_parts infoRec
  have e : Try.prog.elem 57 = 82 := by kernel_rfl
  rw [e]
  simp [sizeOf, typeInfo, h1, h3, go_sem]
theorem slice_recs (ra : Option Addr) (n rc p q : Nat) (hp : p < q) (hq : q ≤ n) (hn : n ≤ rc) (wx : World) :
    (Instr.slice 57 (.slice ra n rc) (some (.int .i64 p)) (some (.int .i64 q)) none).run Try.prog wx = .ok (.slice (ra.map (·.add (p * 10))) (q - p) (rc - p)) wx := by
  rw [run_slice_lh (P := Try.prog) (w := wx) 57 ra n rc (by kernel_rfl) .i64 .i64 (p : Int) (q : Int) (by omega) (by omega) (by omega), size_rec]
  simp [Result.andThen, sliced]
  intro h; omega
/-- A copy of records. -/
theorem cloneR_any (x : Addr) (c0 n : Nat) (a : List Rc) (hn : n = a.length) (w : World) (ha : RdS Rc.cells 10 w (some x) c0 a) (hb : n ≤ 1000000) :
    Calls Try.prog 60 #[.slice (some x) n c0] w fun e w' => ∃ ad cap, e = .returned (.slice ad n cap) ∧ OwnS Rc.cells 10 w' w.heap.size 82 ad cap a ∧ Kp [] w w' := by
  have heq := fun wx : World => Lib.run_eql_slice_nil (P := Try.prog) wx 57 82 (some x) n c0 0 0 Try.underlying57
  have HN := Lib.hid hn
  have HR := Lib.hid ha
  clear hn ha
  go_enter Try.func60, Try.ntmps60
  go_wp2_with (at_builtin; refine wpList_appS rclies rfl (.tmp 5) (.tmp 6) 57 57 rfl w.heap.size 82 (.agg #[.int .i64 0, .int .i64 0, .int .i64 0, .int .i64 0, .int .i64 0, .int .i64 0, .int .i64 0, .int .i64 0, .int .i64 0, .slice none 0 0]) 96 Try.underlying57 infoRec rfl (some ⟨w.heap.size, 0, none⟩) 0 0 [] rfl a _ n HN.out rfl rfl (.inl ⟨rfl, rfl⟩) (by rw [HN.out]; exact src_rdS rclies (RdS.keep0 HR.out rclies.len ((Kp.refl [] w).alloc _)) Try.underlying57) (by omega) (by omega) (by simp) ?_; intro ad1 cap1 w1 ho1 kp1 hob1 _; rw [List.nil_append] at ho1)
  go_ret
  exact ⟨ad1, cap1, by simp, ho1, ((Kp.refl [] w).alloc _).trans kp1 (by simp) (by simp [ob])⟩
theorem dat_own {w : World} {B : Nat} {e : TypeId} {ad : Option Addr} {cap : Nat} {l : List Rc} (h : OwnS Rc.cells 10 w B e ad cap l) (hne : l ≠ []) : ∃ g, ad = some ⟨g, 0, none⟩ ∧ B ≤ g ∧ g < w.heap.size ∧ g ∈ ob ad cap ∧ Dat w g l ∧ l.length ≤ cap ∧ cap ≤ 9223372036854775807 := by
  have hr := h.rd rclies
  rcases h with ⟨-, h⟩ | ⟨g, cur, rfl, h1, h2, h3, h4, h5, h6⟩
  · exact (hne h).elim
  · have hl : 0 < l.length := List.length_pos_iff.2 hne
    refine ⟨g, rfl, h1, lt_of_heap h2, by simp [ob, show ¬ cap = 0 by omega], ⟨cur, e, h2, by omega, fun i hi j hj => ?_⟩, h4, h5⟩
    obtain ⟨b, off, q1, q2⟩ := hr.2.2 i hi
    cases q1
    have := q2 j hj
    rw [Nat.zero_add, cell_of_row w g _ cur e _ h2] at this
    exact this
/-- A record with a star. -/
def Rc.star (d : Nat) (x : Rc) : Rc := ⟨fun j => if j = d then -1 else x.ids j, x.cnt, x.sa, x.sn, x.sc, x.sums⟩
theorem star_cells (x : Rc) {d : Nat} (hd : d < 8) : (x.star d).cells = x.cells.set d (.int .i64 (-1)) := by
  have : d = 0 ∨ d = 1 ∨ d = 2 ∨ d = 3 ∨ d = 4 ∨ d = 5 ∨ d = 6 ∨ d = 7 := by omega
  rcases this with rfl | rfl | rfl | rfl | rfl | rfl | rfl | rfl <;> simp [Rc.cells, Rc.star]
theorem star_pr {k d : Nat} (x : Rc) (hd : d < k) : pr k (x.star d) = starAt d (pr k x) := by
  unfold pr starAt Rc.star
  simp only
  congr 1
  refine List.ext_getElem (by simp) fun j h1 h2 => ?_
  simp only [List.length_map, List.length_range] at h1
  rw [List.getElem_map, List.getElem_range, List.getElem_set]
  by_cases h : j = d
  · rw [if_pos h, if_pos h.symm]
  · rw [if_neg h, if_neg (fun e => h e.symm), List.getElem_map, List.getElem_range]
theorem cells_id (x : Rc) {d : Nat} (hd : d < 8) : x.cells[d]? = some (.int .i64 (x.ids d)) := by
  have : d = 0 ∨ d = 1 ∨ d = 2 ∨ d = 3 ∨ d = 4 ∨ d = 5 ∨ d = 6 ∨ d = 7 := by omega
  rcases this with rfl | rfl | rfl | rfl | rfl | rfl | rfl | rfl <;> rfl
theorem idAt_map {k d a : Nat} {RL : List Rc} (ha : a < RL.length) (hd : d < k) : idAt (RL.map (pr k)) a d = RL[a].ids d := by
  have e : (RL.map (pr k)).getD a default = pr k RL[a] := by
    rw [List.getD_eq_getElem?_getD, List.getElem?_map, List.getElem?_eq_getElem ha]; rfl
  unfold idAt
  rw [e]
  simp [pr, hd]
/-- An id of a record of the tree. -/
theorem TreeH.id {T k mt leaf B : Nat} {X : Nat → Prop} {ra : Option Addr} {rc : Nat} {RL : List Rc} {na : Option Addr} {nc : Nat} {NL : List Nh} {w : World} (h : TreeH T k mt leaf B X ra rc RL na nc NL w) {a d : Nat} (ha : a < RL.length) (hd : d < k) (hk : k ≤ 8) :
    ∃ g, ra = some ⟨g, 0, none⟩ ∧ w.cell? ⟨g, a * 10 + d, none⟩ = some (.int .i64 (idAt (RL.map (pr k)) a d)) := by
  obtain ⟨g, h1, h2, -⟩ := h.recs.at' rclies ha
  refine ⟨g, h1, ?_⟩
  rw [(h2 d (by omega)).1, cells_id _ (by omega), idAt_map ha hd]
theorem TreeH.cell {T k mt leaf B : Nat} {X : Nat → Prop} {ra : Option Addr} {rc : Nat} {RL : List Rc} {na : Option Addr} {nc : Nat} {NL : List Nh} {w : World} (h : TreeH T k mt leaf B X ra rc RL na nc NL w) :
    w.cell? ⟨T, 0, none⟩ = some (.int .i64 k) ∧ w.cell? ⟨T, 2, none⟩ = some (.int .i64 leaf) ∧ w.cell? ⟨T, 3, none⟩ = some (.slice ra RL.length rc) ∧ w.cell? ⟨T, 4, none⟩ = some (.slice na NL.length nc) ∧ w.frozen? ⟨T, 3, none⟩ = false ∧ w.frozen? ⟨T, 4, none⟩ = false :=
  ⟨by rw [cell_of_row w T 0 _ _ _ h.blk]; rfl, by rw [cell_of_row w T 2 _ _ _ h.blk]; rfl, by rw [cell_of_row w T 3 _ _ _ h.blk]; rfl, by rw [cell_of_row w T 4 _ _ _ h.blk]; rfl, frozen_of_row w T _ _ _ h.blk, frozen_of_row w T _ _ _ h.blk⟩
theorem TreeIn.kids {T k mt leaf B B' : Nat} {X : Nat → Prop} {F : List Nat} {w0 w1 w2 : World} {S : St} {ka ka' : Option Addr} {kc kc' : Nat} {KL : List (Int × Nat)} (h : TreeIn T k mt leaf B (fun b => X b ∨ b ∈ ob ka kc) F w0 S w1)
    (ho : OwnS kdcells 2 w1 B' 44 ka kc KL) (hB : w0.heap.size ≤ B') (hkp : Kp (ob ka kc) w1 w2) (hob : ∀ b, b ∈ ob ka' kc' → b ∈ ob ka kc ∨ w1.heap.size ≤ b) : TreeIn T k mt leaf B (fun b => X b ∨ b ∈ ob ka' kc') F w0 S w2 := by
  obtain ⟨ra, rc, RL, na, nc, NL, h1, h2, h3, h4⟩ := h
  have hne := tNe
  have h5 := h1.more (Y := fun b => (X b ∨ b ∈ ob ka kc) ∨ b ∈ ob ka' kc') (fun b hb => by
    rcases hb with hb | hb
    · exact .inl hb
    · rcases hob b hb with h | h
      · exact .inl (.inr h)
      · exact .inr h)
  have h6 := h5.keep hkp (own_ne ho h1.blk hne.2.2.1) (fun b hb hb2 => ownApart h1.recs ho hne.2.2.2.2.2.1 b hb hb2) (fun b hb hb2 => ownApart h1.nodes ho hne.2.2.2.2.2.2.1 b hb hb2) (fun x hx b hb hb2 => ownApart (h1.good x hx).2.2.2 ho (fun e => hne.2.2.2.2.2.2.2.2 e.symm) b hb hb2) (fun y hy b hb hb2 => (h1.kids y hy).2.2 b hb (.inr hb2))
  refine ⟨ra, rc, RL, na, nc, NL, ⟨h6.blk, h6.recs, h6.nodes, h6.good, fun y hy => ⟨(h6.kids y hy).1, (h6.kids y hy).2.1, fun b hb hx => (h6.kids y hy).2.2 b hb ?_⟩, h6.base⟩, h2, h3, h4.trans hkp (fun b hb => .inl hb) (fun b hb => .inr (Nat.le_trans hB (ho.ob_ge b hb).1))⟩
  rcases hx with hx | hx
  · exact .inl (.inl hx)
  · exact .inr hx
theorem TreeIn.keep0 {T k mt leaf B : Nat} {X : Nat → Prop} {F : List Nat} {w0 w1 w2 : World} {S : St} (h : TreeIn T k mt leaf B X F w0 S w1) (hk : Kp [] w1 w2) : TreeIn T k mt leaf B X F w0 S w2 := by
  obtain ⟨ra, rc, RL, na, nc, NL, h1, h2, h3, h4⟩ := h
  exact ⟨ra, rc, RL, na, nc, NL, h1.keep0 hk, h2, h3, h4.trans hk (fun b hb => .inl hb) (by simp)⟩
end Go.Proofs.Ythmaobmgogmaoaa
