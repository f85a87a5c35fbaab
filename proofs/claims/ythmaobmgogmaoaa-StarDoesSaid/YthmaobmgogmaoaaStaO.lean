/-
  Star-trees: a node that is told.
-/
import Derived.Test.YthmaobmgogmaoaaStaN
namespace Go.Proofs.Ythmaobmgogmaoaa
open Go.RowKit Go.Shelf
set_option linter.unusedSimpArgs false
set_option linter.unusedVariables false
set_option maxRecDepth 100000

def nodeV (y : Nh) : Value := .agg #[.int .i64 y.d, .int .i64 y.f, .int .i64 y.t, .slice y.ka y.kn y.kc]
def node0 : Value := .agg #[.int .i64 0, .int .i64 0, .int .i64 0, .slice none 0 0]
/-- What Node tells. -/
def NodePost (N : List PN) (i : Int) (w : World) (e : Ending) (w' : World) : Prop :=
  Kp [] w w' ∧ (((i < 0 ∨ (N.length : Int) ≤ i) ∧ e = .returned (.tuple #[node0, .int .i64 7])) ∨
    ∃ (n : Nat) (h : n < N.length) (y : Nh), i = (n : Int) ∧ e = .returned (.tuple #[nodeV y, .int .i64 0]) ∧ pn y = N[n] ∧ y.kn = y.kids.length ∧ OwnS kdcells 2 w' w.heap.size 44 y.ka y.kc y.kids)

set_option maxHeartbeats 1600000 in
theorem stNode_any {T k mt leaf B : Nat} {X : Nat → Prop} {ra : Option Addr} {rc : Nat} {RL : List Rc} {na : Option Addr} {nc : Nat} {NL : List Nh} (w : World) (h : TreeH T k mt leaf B X ra rc RL na nc NL w) (hk : 1 ≤ k) (hkb : ∀ y ∈ NL, y.kids.length ≤ 100000000) (i : Int) :
    Calls Try.prog 17 #[.pointer (some ⟨T, 0, none⟩), .int .i64 i] w (NodePost (NL.map pn) i w) := by
  have H := Lib.hid h
  have HKB := Lib.hid hkb
  have hT := h.lt
  clear h hkb
  go_enter Try.func17, Try.ntmps17
  go_wp2_with fail
  obtain ⟨p, hp⟩ : ∃ p, p = w.heap.size := ⟨_, rfl⟩
  obtain ⟨w1, hw1⟩ : ∃ w1, w1 = w.alloc (Obj.cells #[Value.int IntKind.i64 0, Value.int IntKind.i64 0, Value.int IntKind.i64 0, Value.slice none 0 0] 40) := ⟨_, rfl⟩
  have k1 : Kp [] w w1 := by rw [hw1]; exact (Kp.refl [] w).alloc _
  have hp1 : w1.heap[p]? = some (.cells #[Value.int IntKind.i64 0, Value.int IntKind.i64 0, Value.int IntKind.i64 0, Value.slice none 0 0] 40) := by rw [hw1]; exact heap_alloc_at hp
  rw [← hw1, ← hp]
  have H1 := Lib.hid (H.out.keep0 k1)
  have HP1 := Lib.hid hp1
  have K1 := Lib.hid k1
  have HP := Lib.hid hp
  clear hw1 k1 hp1 hp
  refine (H1.out.some0 hk).mono ?_
  rintro e w2 ⟨rfl, rfl⟩
  obtain ⟨-, -, -, c4, -, -⟩ := H1.out.cell
  obtain ⟨nn, hnn⟩ : ∃ nn, nn = NL.length := ⟨_, rfl⟩
  rw [← hnn] at c4
  have HNN : Hid ((NL.map pn).length = nn) := Lib.hid (by rw [hnn, List.length_map])
  have HNL := Lib.hid hnn
  have hncap : nn ≤ nc := by rw [hnn]; exact (H1.out.nodes.rd nlies).1
  have hncap2 := (H1.out.nodes.rd nlies).2.1
  clear hnn
  have hno : ∀ (hc : i < 0 ∨ (nn : Int) ≤ i), NodePost (NL.map pn) i w (.returned (.tuple #[node0, .int .i64 7])) (w2.setRow p #[Value.int IntKind.i64 0, Value.int IntKind.i64 0, Value.int IntKind.i64 0, Value.slice none 0 0]) := fun hc =>
    ⟨K1.out.setRowF _ _ (.inr (by rw [HP.out]; exact Nat.le_refl _)), .inl ⟨by rw [HNN.out]; exact hc, rfl⟩⟩
  have HNO := Lib.hid hno
  clear hno
  by_cases h0 : i < 0
  · have HF := Lib.hid (HNO.out (.inl h0))
    go_wp2_with (refine wpList_store_row rfl 40 _ _ rfl p #[.int .i64 0, .int .i64 0, .int .i64 0, .slice none 0 0] rfl rfl 40 _ HP1.out (by kernel_rfl) rfl (by simp [Value.oneCell']) ?_)
    exact bodyPost_ret (v := .tuple #[node0, .int .i64 7]) (resCellTmp Try.results17 _ _ p 40 _ (0, 0) _ rfl (setRow_heap _ p _ _ _ _ HP1.out) Try.underlying40 rfl (by kernel_rfl)) rfl HF.out
  by_cases h2 : (nn : Int) ≤ i
  · have HF := Lib.hid (HNO.out (.inr h2))
    go_wp2_with (refine wpList_store_row rfl 40 _ _ rfl p #[.int .i64 0, .int .i64 0, .int .i64 0, .slice none 0 0] rfl rfl 40 _ HP1.out (by kernel_rfl) rfl (by simp [Value.oneCell']) ?_)
    exact bodyPost_ret (v := .tuple #[node0, .int .i64 7]) (resCellTmp Try.results17 _ _ p 40 _ (0, 0) _ rfl (setRow_heap _ p _ _ _ _ HP1.out) Try.underlying40 rfl (by kernel_rfl)) rfl HF.out
  obtain ⟨n, rfl⟩ : ∃ n : Nat, i = (n : Int) := ⟨i.toNat, by omega⟩
  have hn : n < NL.length := by rw [← HNL.out]; omega
  have hnn2 : n < nn := by omega
  obtain ⟨gn, rfl, hc, -, -⟩ := H1.out.nodes.at' nlies hn
  have hkd := H1.out.kids _ (List.getElem_mem hn)
  have hkb2 := HKB.out _ (List.getElem_mem hn)
  have HMAP : Hid ((NL.map pn)[n]'(by simpa using hn) = pn NL[n]) := Lib.hid (by simp)
  obtain ⟨y, hy⟩ : ∃ y, y = NL[n] := ⟨_, rfl⟩
  rw [← hy] at hc hkd hkb2
  have HY := Lib.hid hy
  have hrg : w2.rangeAt gn (n * 4) (ncells y) := fun j v hv => by
    rw [(hc j (by have := (List.getElem?_eq_some_iff.1 hv).1; exact this)).1]; exact hv
  have HKD := Lib.hid hkd
  have HRG := Lib.hid hrg
  clear hc hkd hy hrg h2 h0
  obtain ⟨yd, yf, yt, yka, ykn, ykc, ykids⟩ := y
  go_upto_region 6 with first
    | (refine wpList_load_mid rfl 40 _ rfl gn (n * 4) rfl [.int .i64 (yd : Int), .int .i64 (yf : Int), .int .i64 (yt : Int), .slice yka ykn ykc] _ HRG.out Try.underlying40 rfl (by kernel_rfl) ?_)
    | (refine wpList_store_row rfl 40 _ _ rfl w2.heap.size #[.int .i64 (yd : Int), .int .i64 (yf : Int), .int .i64 (yt : Int), .slice yka ykn ykc] rfl rfl 40 _ (heap_alloc_at rfl) (by kernel_rfl) rfl (by simp [Value.oneCell']) ?_)
  obtain ⟨q, hq⟩ : ∃ q, q = w2.heap.size := ⟨_, rfl⟩
  generalize hz : (w2.alloc (Obj.cells _ _)).setRow _ _ = w3
  rw [← hq] at hz ⊢
  have hq3 : w3.heap[q]? = some (.cells #[.int .i64 (yd : Int), .int .i64 (yf : Int), .int .i64 (yt : Int), .slice yka ykn ykc] 40) := by rw [← hz]; exact setRow_heap _ q _ _ _ _ (heap_alloc_at hq)
  have k3 : Kp [] w2 w3 := by rw [← hz]; exact ((Kp.refl [] w2).alloc _).setRowF _ _ (.inr (by omega))
  have HQ3 := Lib.hid hq3
  have K3 := Lib.hid k3
  have HQ := Lib.hid hq
  have hqp : p < q := by rw [hq]; exact lt_of_heap HP1.out
  have e3 : w3.cell? ⟨q, 3, none⟩ = some (.slice yka ykn ykc) := by rw [cell_of_row w3 q 3 _ _ _ hq3]; rfl
  clear hz hq3 k3 hq c4
  go_wp2_with fail
  refine (cloneK_any yka ykc ykn ykids HKD.out.1 w3 (RdS.keep0 (HKD.out.2.1.rd kdlies) kdlies.len K3.out) (by rw [HKD.out.1]; exact hkb2)).mono ?_
  rintro e w5 ⟨ad, cap, rfl, ho5, kp5⟩
  have hq5 := kp5.get HQ3.out (by simp)
  have c5 : w5.cell? ⟨q, 3, none⟩ = some (.slice yka ykn ykc) := by rw [cell_of_row w5 q 3 _ _ _ hq5]; rfl
  have f5 := frozen_of_row w5 q 3 _ _ hq5
  have hq6 : (w5.setCell ⟨q, 3, none⟩ (.slice ad ykn cap)).heap[q]? = some (.cells #[.int .i64 (yd : Int), .int .i64 (yf : Int), .int .i64 (yt : Int), .slice ad ykn cap] 40) := by
    rw [heap_setCell_same w5 q 3 _ _ _ hq5]; rfl
  have k6 : Kp [q] w5 (w5.setCell ⟨q, 3, none⟩ (.slice ad ykn cap)) := (Kp.refl [q] w5).setCell _ _ (by simp)
  have hp6 : (w5.setCell ⟨q, 3, none⟩ (.slice ad ykn cap)).heap[p]? = some (.cells #[.int .i64 0, .int .i64 0, .int .i64 0, .slice none 0 0] 40) := k6.get (kp5.get (K3.out.get HP1.out (by simp)) (by simp)) (by simp; omega)
  have HQ6 := Lib.hid hq6
  have HP6 := Lib.hid hp6
  have hqs : q < w3.heap.size := lt_of_heap HQ3.out
  have HO6 : Hid (OwnS kdcells 2 (w5.setCell ⟨q, 3, none⟩ (.slice ad ykn cap)) w3.heap.size 44 ad cap ykids) := Lib.hid (ho5.keep k6 (fun b hb hb2 => by simp at hb2; subst hb2; have := (ho5.ob_ge b hb).1; omega))
  have K6 : Hid (Kp [] w (w5.setCell ⟨q, 3, none⟩ (.slice ad ykn cap))) := Lib.hid (((K1.out.tr K3.out).tr kp5).setCell _ _ (.inr (by have := K1.out.size; have := HQ.out; dsimp only; omega)))
  have HSZ : Hid (w.heap.size ≤ w3.heap.size) := Lib.hid (K1.out.tr K3.out).size
  have HPS : Hid (p < w3.heap.size ∧ w.heap.size ≤ p) := Lib.hid ⟨by omega, by rw [HP.out]; exact Nat.le_refl _⟩
  clear ho5 kp5 hq5 hq6 k6 hp6 e3
  go_wp2_with first
    | (refine wpList_load_row rfl 40 _ rfl q rfl 40 #[.int .i64 (yd : Int), .int .i64 (yf : Int), .int .i64 (yt : Int), .slice ad ykn cap] (0, 0) _ HQ6.out Try.underlying40 rfl (by kernel_rfl) ?_)
    | (refine wpList_store_row rfl 40 _ _ rfl p #[.int .i64 (yd : Int), .int .i64 (yf : Int), .int .i64 (yt : Int), .slice ad ykn cap] rfl rfl 40 _ HP6.out (by kernel_rfl) rfl (by simp [Value.oneCell']) ?_)
  refine bodyPost_ret (v := .tuple #[nodeV ⟨yd, yf, yt, ad, ykn, cap, ykids⟩, .int .i64 0]) (resCellTmp Try.results17 _ _ p 40 _ (0, 0) _ rfl (setRow_heap _ p _ _ _ _ HP6.out) Try.underlying40 rfl (by kernel_rfl)) rfl ?_
  refine ⟨K6.out.setRowF _ _ (.inr HPS.out.2), .inr ⟨n, by rw [HNN.out]; exact hnn2, _, rfl, rfl, ?_, HKD.out.1, ?_⟩⟩
  · rw [HMAP.out, ← HY.out]; rfl
  · have kq : Kp [p] (w5.setCell ⟨q, 3, none⟩ (.slice ad ykn cap)) ((w5.setCell ⟨q, 3, none⟩ (.slice ad ykn cap)).setRow p #[.int .i64 (yd : Int), .int .i64 (yf : Int), .int .i64 (yt : Int), .slice ad ykn cap]) := (Kp.refl [p] _).setRowF _ _ (.inl (by simp))
    exact (HO6.out.mono HSZ.out).keep kq (fun b hb hb2 => by simp at hb2; subst hb2; have := (HO6.out.ob_ge b hb).1; have := HPS.out.1; omega)
end Go.Proofs.Ythmaobmgogmaoaa
