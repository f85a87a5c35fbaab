/-
  Forward: the iterator of an index.
-/
import Derived.Test.YtgdiffabnalidaaFor
import Derived.RangeFuncNested
import Derived.RangeFuncBound
import Derived.RangeFuncCalls
import Derived.RangeFuncLeaves
import Derived.Shelf.Abstract
import Derived.Shelf.RegionOpen
import Derived.WalkKit
import Derived.OwnWalkIn
import Derived.TacticsInMore
import Derived.LoopNIn
import Derived.LoopIn
namespace Go.Proofs.Ytgdiffabnalidaa
open Go.RowKit Go.Shelf
set_option linter.unusedSimpArgs false
set_option linter.unusedVariables false
attribute [local go_sem] Oper.semAt_some

/-- What has come when k rounds are over. -/
def uptoF {α : Type} (f : Nat → α) (k : Nat) : List α := (List.range k).map f
theorem uptoF_succ {α : Type} (f : Nat → α) (k : Nat) : uptoF f (k + 1) = uptoF f k ++ [f k] := by simp [uptoF, List.range_succ]
theorem uptoF_length {α : Type} (f : Nat → α) (k : Nat) : (uptoF f k).length = k := by simp [uptoF]
theorem kp_grown {w w' : World} (h : Kp [] w w') : w.grownBy w' none := ⟨h.os, h.tape, h.output, h.size, fun k hk _ => h.block k hk (by simp)⟩
theorem below_kp {w w' : World} (h : Below w.heap.size w w') : Kp [] w w' := ⟨h.os, h.tape, h.output, h.size, fun k hk _ => h.block k hk⟩
/-- What a round keeps: what lay low, and the block Bx. -/
def KB (n₀ Bx : Nat) (W W' : World) : Prop := Below n₀ W W' ∧ W'.heap[Bx]? = W.heap[Bx]?
theorem KB.refl (n₀ Bx : Nat) (W : World) : KB n₀ Bx W W := ⟨Below.refl _ _, rfl⟩
theorem KB.trans {n₀ Bx : Nat} {A B C : World} (h : KB n₀ Bx A B) (k : KB n₀ Bx B C) : KB n₀ Bx A C := ⟨h.1.trans k.1, k.2.trans h.2⟩
theorem kb_b {n₀ Bx : Nat} {w : World} (hn : n₀ ≤ w.heap.size) (hB : Bx < w.heap.size) (W : World) (l : Nat) (o o' : Obj) (hl : w.heap.size ≤ l) (h : W.heap[l]? = some o) (h1 : o.isCells = false) (h2 : o.isWalk = false) : KB n₀ Bx W (W.putObj l o') :=
  ⟨belowK_b hn W l o o' hl h h1 h2, (grownBy_putObj' W l o').block Bx (by have := (Array.getElem?_eq_some_iff.1 h).1; omega) (by simp; omega)⟩
theorem cell_same {W W' : World} {b : Nat} (h : W'.heap[b]? = W.heap[b]?) (i : Nat) : W'.cell? ⟨b, i, none⟩ = W.cell? ⟨b, i, none⟩ := by simp only [World.cell?, h]
/-- An index that lies low. -/
def LowIdx (n₀ : Nat) (w : World) (p n m wd : Nat) (ad : Option Addr) (cap : Nat) (bs : List Int) : Prop := IsIdx w p n m wd ad cap bs ∧ p < n₀ ∧ ∀ x, ad = some x → bs ≠ [] → x.block < n₀
theorem LowIdx.below {n₀ : Nat} {w w' : World} {p n m wd : Nat} {ad : Option Addr} {cap : Nat} {bs : List Int} (h : LowIdx n₀ w p n m wd ad cap bs) (k : Below n₀ w w') : LowIdx n₀ w' p n m wd ad cap bs := by
  obtain ⟨⟨h1, h2⟩, h3, h4⟩ := h
  refine ⟨⟨(k.block p h3).trans h1, h2.1, h2.2.1, fun i hi => ?_⟩, h3, h4⟩
  obtain ⟨b, off, rfl, hc⟩ := h2.2.2 i hi
  have hb : b < n₀ := h4 ⟨b, off, none⟩ rfl (by rintro rfl; simp at hi)
  exact ⟨b, off, rfl, (k.cell (p := ⟨b, off + i, none⟩) hb).trans hc⟩

set_option maxRecDepth 100000 in
set_option maxHeartbeats 2000000 in
/-- The iterator's closure, for every loop body that keeps what lay below n₀. -/
theorem fAll1_in (nn : Nat) (hnn : 1 ≤ nn) (l Bx n₀ : Nat) (p n m wd : Nat) (ad : Option Addr) (cap : Nat) (bs : List Int) (hb : Bytes8 bs) (hw : 1 ≤ wd) (hw2 : wd ≤ 24) (hn : n ≤ 16777216) (J Jx : List (Nat × Nat) → World → Prop)
    (hY : ∀ pre x W, J pre W → pre.length < n → YieldAt Fence.wide (nn - 1) Try.prog l #[.int .i64 (x.1 : Int), .int .i64 (x.2 : Int)] W fun e W' =>
      (e = .returned (.bool true) ∧ J (pre ++ [x]) W' ∧ KB n₀ Bx W W') ∨ (e = .returned (.bool false) ∧ Jx (pre ++ [x]) W'))
    (W : World) (hJ : AbidesFrom W.heap.size J) (hBx : W.cell? ⟨Bx, 0, none⟩ = some (.pointer (some ⟨p, 0, none⟩))) (hBW : Bx < W.heap.size) (hI : LowIdx n₀ W p n m wd ad cap bs) (hnW : n₀ ≤ W.heap.size) (h0 : J [] W) :
    CallsIn Fence.wide nn Try.prog 45 #[.func (.yield l) #[] #[], .pointer (some ⟨Bx, 0, none⟩)] W fun e W' => (∃ v, e = .returned v) ∧
      ((∃ ys, ys = uptoF (fun j => (j, idG bs wd j)) n ∧ J ys W') ∨ (∃ pre, (∃ k, k ≤ n ∧ pre = uptoF (fun j => (j, idG bs wd j)) k) ∧ Jx pre W')) := by
  refine callsIn_of_wp Try.func45 rfl trivial ?_ rfl
  simp only [Try.ntmps45, List.size_toArray, List.length_cons, List.length_nil, Nat.reduceAdd, Nat.reduceSub, Array.replicate_succ, Array.replicate_zero, List.push_toArray, List.append_toArray, List.nil_append, List.cons_append]
  gi_wp2
  refine ⟨trivial, (callsIn_wide.2 (fLen_any hI.1 hw)).mono ?_⟩
  rintro e w7 ⟨rfl, h7⟩
  subst w7
  gi_wp2
  gi_loopw [3, 4, 5, 8] (fun _ _ _ i wr => ∃ k : Nat, k ≤ n ∧ i = .int .i64 k ∧ J (uptoF (fun j => (j, idG bs wd j)) k) wr ∧ KB n₀ Bx W wr)
    (fun _ _ _ i _ => n - (intOf i).toNat)
  case atStart => exact ⟨0, Nat.zero_le _, rfl, h0, KB.refl _ _ _⟩
  case round =>
    obtain ⟨k, hk, rfl, hJs, hnx⟩ := hrel
    by_cases hlt : k < n
    · have hcx := (cell_same hnx.2 0).trans hBx
      have hIx := hI.below hnx.1
      gi_wp2
      refine ⟨trivial, (callsIn_wide.2 (fGet_in hIx.1 hb hw hw2 k hlt hn)).mono ?_⟩
      rintro e w7 ⟨rfl, kp7⟩
      have hJ7 := hJ _ _ _ none hJs (kp_grown kp7) (by intro r hr; cases hr)
      have hnx7 : KB n₀ Bx W w7 := hnx.trans ⟨⟨kp7.os, kp7.tape, kp7.output, kp7.size, fun q hq => kp7.block q (by have := hnx.1.size; omega) (by simp)⟩, kp7.block Bx (by have := hnx.1.size; omega) (by simp)⟩
      obtain ⟨fn, tmps, assign, body, hy, hR⟩ := hY _ (k, idG bs wd k) w7 hJ7 (by rw [uptoF_length]; exact hlt)
      dsimp only at hy
      clear hcx hIx
      gi_wp2
      refine hR.mono ?_
      rintro e W3 (⟨rfl, hJ3, hk3⟩ | ⟨rfl, hJx3⟩)
      · gi_wp2
        go_roundw
        case rel => exact ⟨k + 1, by omega, by simp, by rw [uptoF_succ]; exact hJ3, hnx7.trans hk3⟩
        case measure => simp [intOf]; omega
      · gi_wp2
        refine bodyPost_ret (results_none rfl _ _ _) rfl ?_
        exact ⟨⟨_, rfl⟩, .inr ⟨_, ⟨k + 1, by omega, (uptoF_succ _ _).symm⟩, hJx3⟩⟩
    · obtain rfl : k = n := by omega
      gi_wp2
      go_end0
      exact ⟨⟨_, rfl⟩, .inl ⟨_, rfl, hJs⟩⟩
/-- What x.All() hands back. -/
theorem fAll_stops (nn : Nat) (hnn : 1 ≤ nn) (Bx n₀ : Nat) (p n m wd : Nat) (ad : Option Addr) (cap : Nat) (bs : List Int) (hb : Bytes8 bs) (hw : 1 ≤ wd) (hw2 : wd ≤ 24) (hn : n ≤ 16777216) (w : World)
    (hBx : w.cell? ⟨Bx, 0, none⟩ = some (.pointer (some ⟨p, 0, none⟩))) (hBW : Bx < w.heap.size) (hI : LowIdx n₀ w p n m wd ad cap bs) (hnW : n₀ ≤ w.heap.size) :
    SeqStopsK Fence.wide nn Try.prog 45 #[.pointer (some ⟨Bx, 0, none⟩)] (fun x : Nat × Nat => #[Value.int .i64 (x.1 : Int), Value.int .i64 (x.2 : Int)]) (KB n₀ Bx) (fun ys => ys = uptoF (fun j => (j, idG bs wd j)) n)
      (fun pre => ∃ k, k ≤ n ∧ pre = uptoF (fun j => (j, idG bs wd j)) k) n w := fun l J Jx W hW hJ _ hY h0 =>
  fAll1_in nn hnn l Bx n₀ p n m wd ad cap bs hb hw hw2 hn J Jx hY W hJ ((hW.cell (p := ⟨Bx, 0, none⟩) hBW).trans hBx) (Nat.lt_of_lt_of_le hBW hW.size) (hI.below (hW.mono hnW)) (Nat.le_trans hnW hW.size) h0

/-- How many ids are this one. -/
def cntF (id : Int) (l : List (Nat × Nat)) : Nat := l.countP fun x => decide ((x.2 : Int) = id)
theorem cntF_snoc (id : Int) (l : List (Nat × Nat)) (x : Nat × Nat) : cntF id (l ++ [x]) = cntF id l + if (x.2 : Int) = id then 1 else 0 := by
  rw [cntF, List.countP_append]; simp [cntF, List.countP_cons]
theorem cntF_le (id : Int) (l : List (Nat × Nat)) : cntF id l ≤ l.length := List.countP_le_length

set_option maxRecDepth 100000 in
set_option maxHeartbeats 2000000 in
theorem fCount_any (p n m wd : Nat) (ad : Option Addr) (cap : Nat) (bs : List Int) (hb : Bytes8 bs) (hw : 1 ≤ wd) (hw2 : wd ≤ 24) (hn : n ≤ 16777216) (id : Int) (w : World) (hI : LowIdx w.heap.size w p n m wd ad cap bs) :
    Calls Try.prog 25 #[.pointer (some ⟨p, 0, none⟩), .int .i64 id] w fun e w' => e = .returned (.int .i64 (cntF id (uptoF (fun j => (j, idG bs wd j)) n) : Nat)) ∧ Kp [] w w' := by
  refine (callsIn_wide (n := 5)).1 ?_
  refine callsIn_of_wp_marks Try.func25 rfl trivial ?_ rfl
  simp only [Try.ntmps25, List.size_toArray, List.length_cons, List.length_nil, Nat.reduceAdd, Nat.reduceSub, Array.replicate_succ, Array.replicate_zero, List.push_toArray, List.append_toArray, List.nil_append, List.cons_append]
  gi_wp2
  refine ⟨trivial, (callsIn_wide.2 (fAll_any _ p)).mono ?_⟩
  rintro e w7 ⟨rfl, rfl⟩
  gi_wp2
  have bI := Boxed.new w 3 (.int .i64 id)
  have bN := Boxed.new (w.alloc (.cells #[.int .i64 id] 3)) 3 (.int .i64 0)
  have bX := Boxed.new ((w.alloc (.cells #[.int .i64 id] 3)).alloc (.cells #[.int .i64 0] 3)) 40 (.pointer (some ⟨p, 0, none⟩))
  rw [World.size_alloc] at bN
  rw [World.size_alloc, World.size_alloc] at bX
  have hB0 : Below w.heap.size w (((w.alloc (.cells #[.int .i64 id] 3)).alloc (.cells #[.int .i64 0] 3)).alloc (.cells #[.pointer (some ⟨p, 0, none⟩)] 40)) := (((Below.refl _ w).alloc (Nat.le_refl _) _).alloc (by simp) _).alloc (by simp; omega) _
  refine wpIn_rangeFunc_ownG rfl (by omega) (gf := 45) (lb := #[.pointer (some ⟨w.heap.size + 1 + 1, 0, none⟩)]) rfl trivial (enters_of Try.func45 (by kernel_rfl) rfl)
    (fAll_stops 4 (by omega) (w.heap.size + 1 + 1) w.heap.size p n m wd ad cap bs hb hw hw2 hn _ bX.cell (by simp) (hI.below hB0) (by simp; omega)) KB.trans (kb_b (by simp; omega) (by simp)) (Below.refl _ _) (fun _ => rfl)
    (fun pre W => (W.cell? ⟨w.heap.size, 0, none⟩ = some (.int .i64 id) ∧ W.cell? ⟨w.heap.size + 1, 0, none⟩ = some (.int .i64 (cntF id pre : Nat)) ∧ W.frozen? ⟨w.heap.size + 1, 0, none⟩ = false) ∧ Below w.heap.size w W)
    (fun _ _ _ => False)
    (OwnFrom.and (Own.from (fun s A B row hs hg hr => ⟨cell_kept hs.1 hg hr, cell_kept hs.2.1 hg hr, (frozen_kept hs.2.1 hg hr).trans hs.2.2⟩) _) (ownFrom_below (Nat.le_refl _) (by simp; omega)))
    (fun _ _ _ _ _ hs _ _ => hs)
    ⟨⟨((bI.alloc _).alloc _).cell, (bN.alloc _).cell, (bN.alloc _).frozen⟩, hB0⟩
    (fun x => { tmps := #[.pointer (some ⟨p, 0, none⟩), .int .i64 id, undef, .pointer (some ⟨w.heap.size, 0, none⟩), .pointer (some ⟨w.heap.size + 1, 0, none⟩), undef, .int .i64 (x.2 : Int), .pointer (some ⟨p, 0, none⟩), .func (.func 45) #[] #[.pointer (some ⟨w.heap.size + 1 + 1, 0, none⟩)], .int .i64 (x.1 : Int), .int .i64 (x.2 : Int), undef, undef, undef, undef, undef, undef], defers := [] }) ?assign ?body ?done ?stop
  case assign =>
    intro l x W K hK
    gi_wp2
    exact hK
  case body =>
    rintro l pre x W ⟨⟨hi, hc, hf⟩, hB⟩ hlen
    have hcl := cntF_le id pre
    have hw1 : wrap64 ((cntF id pre : Nat) + 1) = ((cntF id pre + 1 : Nat) : Int) := by unfold wrap64; omega
    by_cases hx : (x.2 : Int) = id
    · have e1 : cntF id (pre ++ [x]) = cntF id pre + 1 := by rw [cntF_snoc, if_pos hx]
      have hx2 : ((x.2 : Int) == id) = true := by simpa using hx
      gi_wp2
      have ew : ((cntF id pre : Nat) : Int) + 1 = ((cntF id (pre ++ [x]) : Nat) : Int) := by rw [e1]; omega
      rw [ew]
      exact ⟨(KeepsOthers.setCell _ _ _).from _, ⟨(Below.refl w.heap.size W).setCell (p := ⟨w.heap.size + 1, 0, none⟩) (by simp) _, Below.heap_setCell _ _ _ _ (by simp)⟩, ⟨(cell_same (Below.heap_setCell _ _ _ _ (by simp)) 0).trans hi, World.cell?_setCell_same' _ _ _ (by rw [hc]; rfl), by rw [World.frozen?_setCell]; exact hf⟩, hB.setCell (p := ⟨w.heap.size + 1, 0, none⟩) (by simp) _⟩
    · have e1 : cntF id (pre ++ [x]) = cntF id pre := by rw [cntF_snoc, if_neg hx]; rfl
      have hx2 : ((x.2 : Int) == id) = false := by simpa using hx
      gi_wp2
      exact ⟨KeepsFrom.refl _ _, KB.refl _ _ _, ⟨hi, by rw [e1]; exact hc, hf⟩, hB⟩
  case done =>
    rintro D ys W hD rfl ⟨⟨hi, hc, hf⟩, hB⟩ hK
    gi_wp2
    have hK' := (KeepsOthers.setCell W ⟨w.heap.size + 1, 0, none⟩ (.int .i64 (cntF id (uptoF (fun j => (j, idG bs wd j)) n) : Nat))).same D _ hK rfl
    refine ⟨by simp, .inl ⟨_, _, rfl, run_takeDeferred hK', ?_⟩⟩
    have hc5 := cell_kept (World.cell?_setCell_same' W ⟨w.heap.size + 1, 0, none⟩ (.int .i64 (cntF id (uptoF (fun j => (j, idG bs wd j)) n) : Nat)) (by rw [hc]; rfl)) (grownBy_putObj' _ D (.deferred none)) (fun r e => by cases e; exact ⟨_, hK', rfl⟩)
    refine ⟨.int .i64 (cntF id (uptoF (fun j => (j, idG bs wd j)) n) : Nat), ?_, rfl, below_kp ((hB.setCell (p := ⟨w.heap.size + 1, 0, none⟩) (by simp) _).trans (belowK_b (w := w) (Nat.le_refl _) _ D _ _ (by simp at hD; omega) hK' rfl rfl))⟩
    simp [results, Try.f25, go_sem, hc5]
  case stop =>
    rintro D c pre W _ _ h _
    exact h.elim
end Go.Proofs.Ytgdiffabnalidaa
