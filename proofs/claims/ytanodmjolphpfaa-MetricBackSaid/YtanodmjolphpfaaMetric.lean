/-
  What metric.Of, Len, Get, Least, Greatest and Some tell.
-/
import Derived.Test.YtanodmjolphpfaaBase
namespace Go.Proofs.Ytanodmjolphpfaa
open Go.RowKit

theorem infoI64 : (Try.prog.info? 2).map (fun i => (i.zero, i.size, i.bytes)) = some (some (.int .i64 0), 1, 8) := by kernel_rfl
theorem sizeI64 : (Try.prog.info? 2).map (fun i => i.size) = some 1 := by kernel_rfl

def lows (zs : List Int) : Int := zs.foldl min 9223372036854775807
def highs (zs : List Int) : Int := zs.foldl max (-9223372036854775808)

theorem lows_step (zs : List Int) (k : Nat) (h : k < zs.length) : lows (zs.take (k + 1)) = if nth zs k < lows (zs.take k) then nth zs k else lows (zs.take k) := by
  rw [take_nth zs k h, lows, List.foldl_append]; simp only [List.foldl_cons, List.foldl_nil, lows]; omega
theorem highs_step (zs : List Int) (k : Nat) (h : k < zs.length) : highs (zs.take (k + 1)) = if highs (zs.take k) < nth zs k then nth zs k else highs (zs.take k) := by
  rw [take_nth zs k h, highs, List.foldl_append]; simp only [List.foldl_cons, List.foldl_nil, highs]; omega

def colCells (q n : Nat) (lo hi : Int) : Array Value := #[.slice (some ⟨q, 0, none⟩) n n, .int .i64 lo, .int .i64 hi, .bool true]

set_option maxHeartbeats 400000 in
theorem of_any (ad : Option Addr) (cap : Nat) (zs : List Int) (w : World) (hr : Rd w .i64 ad cap zs) (hn : zs.length ≤ 16777216) :
    Calls Try.prog 14 #[.slice ad zs.length cap] w fun e w' => ∃ q c, e = .returned (.tuple #[.pointer (some ⟨c, 0, none⟩), .int .i64 0]) ∧ w.heap.size ≤ q ∧ w.heap.size ≤ c ∧ c = q + 1 ∧
      w'.heap[q]? = some (.cells (ints .i64 zs) 2) ∧ w'.heap[c]? = some (.cells (colCells q zs.length (lows zs) (highs zs)) 33) ∧ Kp [] w w' := by
  obtain ⟨n, hlen⟩ : ∃ n, n = zs.length := ⟨_, rfl⟩
  obtain ⟨hcap, hcm, hc⟩ := hr
  rw [← hlen] at hn hc hcap ⊢
  have hn' : ¬ (16777216 < (n:Int)) := by omega
  have hmk : ∀ wx : World, _ := fun wx => make_ints (P := Try.prog) wx 22 2 .i64 .i64 .i64 n 8 Try.underlying22 infoI64 (by omega) (by omega)
  have HC := Lib.hid hc
  have HL := Lib.hid hlen
  clear hc hlen
  go_enter Try.func14, Try.ntmps14
  go_wp2_with (fail)
  obtain ⟨w1, h1, h2, h3, h4⟩ := copy_all (P := Try.prog) ((w.alloc (.cells (ints .i64 (List.replicate n 0)) 2)).alloc (Obj.cells (colCells w.heap.size n 9223372036854775807 (-9223372036854775808)) 33)) 22 2 3 .i64 w.heap.size n n n cap ad zs Try.underlying22 sizeI64
    (ints .i64 (List.replicate n 0)) (cells_alloc (heap_alloc_at rfl)) (by simp [ints_size]) HL.out.symm rfl (((show Rd w .i64 ad cap zs from ⟨by rw [← HL.out]; exact hcap, hcm, by rw [← HL.out]; exact HC.out⟩).alloc _).alloc _).2.2
  unfold colCells at h1
  rw [h1]
  go_wp2_with (fail)
  have k1 : Kp [] w w1 := (((Kp.refl [] w).alloc _).alloc _).trans h3 (by simp) (by simp)
  have hc1 : w1.heap[w.heap.size + 1]? = some (.cells (colCells w.heap.size n 9223372036854775807 (-9223372036854775808)) 33) := h3.get (heap_alloc_at (by simp)) (by simp)
  have hs1 : w1.heap.size = w.heap.size + 2 := by simp [h4]
  have HS := Lib.hid hs1
  clear h1 h3 h4 hs1 hmk
  go_loopw [23] (fun i wr => ∃ k : Nat, k ≤ n ∧ i = .int .i64 k ∧ wr.heap[w.heap.size + 1]? = some (.cells (colCells w.heap.size n (lows (zs.take k)) (highs (zs.take k))) 33) ∧ wr.heap[w.heap.size]? = some (.cells (ints .i64 zs) 2) ∧ Kp [] w wr) (fun i _ => n - (intOf i).toNat)
  case atStart => exact ⟨0, Nat.zero_le _, rfl, hc1, h2, k1⟩
  case round =>
    obtain ⟨k, hk, rfl, hc2, hq2, kp2⟩ := hrel
    clear k1 hc1 h2
    by_cases hlt : k < n
    · obtain ⟨b, off, rfl, hcell⟩ := HC.out k hlt
      have hcell2 := kp2.cell hcell (by simp)
      have hc3 := cell_of_row wr _ 1 _ _ _ hc2
      have hc4 := cell_of_row wr _ 2 _ _ _ hc2
      have hf1 := frozen_of_row wr _ 1 _ _ hc2
      have hf2 := frozen_of_row wr _ 2 _ _ hc2
      simp only [colCells] at hc3 hc4
      clear hcell
      go_wp2

      go_region
      go_wp2
      go_roundw
      case rel =>
        have e1 := heap_setCell_same wr (w.heap.size + 1) 1 _ 33 (.int .i64 (if nth zs k < lows (zs.take k) then nth zs k else lows (zs.take k))) hc2
        have e2 := heap_setCell_same _ (w.heap.size + 1) 2 _ 33 (.int .i64 (if highs (zs.take k) < nth zs k then nth zs k else highs (zs.take k))) e1
        refine ⟨k + 1, hlt, by go_num, ?_, ?_, ?_⟩
        · rw [lows_step zs k (by rw [← HL.out]; exact hlt), highs_step zs k (by rw [← HL.out]; exact hlt)]
          exact e2
        · refine Eq.trans ?_ hq2
          rw [heap_drew, heap_setCell_other _ _ _ _ (by simp), heap_setCell_other _ _ _ _ (by simp)]
        · exact ((kp2.setCell _ _ (by simp)).setCell _ _ (by simp)).drew
      case measure => simp [intOf]; omega
    · go_wp2
      go_ret2
      obtain rfl : k = n := by omega
      rw [List.take_of_length_le (by have := HL.out; omega)] at hc2
      exact ⟨_, _, rfl, by omega, by omega, by omega, hq2, hc2, kp2⟩

theorem col_cells {w : World} {c q n : Nat} {lo hi : Int} (h : w.heap[c]? = some (.cells (colCells q n lo hi) 33)) :
    w.cell? ⟨c, 0, none⟩ = some (.slice (some ⟨q, 0, none⟩) n n) ∧ w.cell? ⟨c, 1, none⟩ = some (.int .i64 lo) ∧ w.cell? ⟨c, 2, none⟩ = some (.int .i64 hi) ∧ w.cell? ⟨c, 3, none⟩ = some (.bool true) :=
  ⟨cell_of_row w _ 0 _ _ _ h, cell_of_row w _ 1 _ _ _ h, cell_of_row w _ 2 _ _ _ h, cell_of_row w _ 3 _ _ _ h⟩

/-- w holds at block c a column of the numbers zs. -/
def IsCol (w : World) (c : Nat) (zs : List Int) : Prop := ∃ q, c = q + 1 ∧ zs.length ≤ 16777216 ∧ w.heap[q]? = some (.cells (ints .i64 zs) 2) ∧ w.heap[c]? = some (.cells (colCells q zs.length (lows zs) (highs zs)) 33)
theorem IsCol.keep {w w' : World} {c : Nat} {zs : List Int} (h : IsCol w c zs) (k : Kp [] w w') : IsCol w' c zs :=
  let ⟨q, h1, h2, h3, h4⟩ := h; ⟨q, h1, h2, k.get h3 (by simp), k.get h4 (by simp)⟩

theorem IsCol.keepS {w w' : World} {c : Nat} {zs : List Int} (h : IsCol w c zs) {S : List Nat} (k : Kp S w w') (hn : ∀ b, b ∈ S → b + 1 < c) : IsCol w' c zs :=
  let ⟨q, h1, h2, h3, h4⟩ := h; ⟨q, h1, h2, k.get h3 (fun hm => by have := hn q hm; omega), k.get h4 (fun hm => by have := hn c hm; omega)⟩

/-- A column that is not there, or was not made. -/
def NoCol (w : World) (v : Option Addr) : Prop := v = none ∨ ∃ c, v = some ⟨c, 0, none⟩ ∧ w.heap[c]? = some (.cells #[.slice none 0 0, .int .i64 0, .int .i64 0, .bool false] 33)

theorem least_any (c : Nat) (zs : List Int) (w : World) (h : IsCol w c zs) :
    Calls Try.prog 15 #[.pointer (some ⟨c, 0, none⟩)] w fun e w' => e = .returned (.int .i64 (lows zs)) ∧ w = w' := by
  obtain ⟨q, -, -, -, hc⟩ := h
  obtain ⟨-, c1, -, c3⟩ := col_cells hc
  clear hc
  go_enter Try.func15, Try.ntmps15
  go_wp2
  go_ret
  exact ⟨rfl, rfl⟩

theorem greatest_any (c : Nat) (zs : List Int) (w : World) (h : IsCol w c zs) :
    Calls Try.prog 16 #[.pointer (some ⟨c, 0, none⟩)] w fun e w' => e = .returned (.int .i64 (highs zs)) ∧ w = w' := by
  obtain ⟨q, -, -, -, hc⟩ := h
  obtain ⟨-, -, c2, c3⟩ := col_cells hc
  clear hc
  go_enter Try.func16, Try.ntmps16
  go_wp2
  go_ret
  exact ⟨rfl, rfl⟩

theorem len_any (c : Nat) (zs : List Int) (w : World) (h : IsCol w c zs) :
    Calls Try.prog 21 #[.pointer (some ⟨c, 0, none⟩)] w fun e w' => e = .returned (.int .i64 zs.length) ∧ w = w' := by
  obtain ⟨q, -, -, -, hc⟩ := h
  obtain ⟨c0, -, -, c3⟩ := col_cells hc
  clear hc
  go_enter Try.func21, Try.ntmps21
  go_wp2
  go_ret
  exact ⟨rfl, rfl⟩

/-- What Get tells. -/
def getv (zs : List Int) (i : Int) : Int := if 0 ≤ i ∧ i < zs.length then nth zs i.toNat else 0
def gete (zs : List Int) (i : Int) : Int := if 0 ≤ i ∧ i < zs.length then 0 else 7
theorem get_any (c : Nat) (zs : List Int) (i : Int) (w : World) (h : IsCol w c zs) :
    Calls Try.prog 19 #[.pointer (some ⟨c, 0, none⟩), .int .i64 i] w fun e w' => e = .returned (.tuple #[.int .i64 (getv zs i), .int .i64 (gete zs i)]) ∧ w = w' := by
  obtain ⟨q, -, -, hq, hc⟩ := h
  obtain ⟨c0, -, -, c3⟩ := col_cells hc
  clear hc
  by_cases hi : 0 ≤ i ∧ i < zs.length
  · obtain ⟨j, rfl⟩ := Int.eq_ofNat_of_zero_le hi.1
    have hj : j < zs.length := by omega
    have hx := cell_of_row w q j _ _ _ hq
    rw [ints_get _ _ _ hj] at hx
    rw [show getv zs j = nth zs j by simp [getv, hj], show gete zs j = 0 by simp [gete, hj]]
    clear hq hi
    go_enter Try.func19, Try.ntmps19
    go_wp2
    go_ret2
    exact ⟨rfl, rfl⟩
  · rw [show getv zs i = 0 by simp only [getv, if_neg hi], show gete zs i = 7 by simp only [gete, if_neg hi]]
    clear hq
    by_cases h0 : i < 0
    · clear hi
      go_enter Try.func19, Try.ntmps19
      go_wp2
      go_ret2
      exact ⟨rfl, rfl⟩
    · have h1 : (zs.length : Int) ≤ i := by omega
      have h2 : 0 ≤ i := by omega
      clear hi h0
      go_enter Try.func19, Try.ntmps19
      go_wp2
      go_ret2
      exact ⟨rfl, rfl⟩

set_option maxHeartbeats 400000 in
theorem some_ok (c : Nat) (zs : List Int) (from' to' : Nat) (w : World) (h : IsCol w c zs) (hft : from' ≤ to') (ht : to' ≤ zs.length) :
    Calls Try.prog 20 #[.pointer (some ⟨c, 0, none⟩), .int .i64 from', .int .i64 to'] w fun e w' => ∃ q, e = .returned (.tuple #[.slice (some ⟨q, 0, none⟩) (to' - from') (to' - from'), .int .i64 0]) ∧ w.heap.size ≤ q ∧
      w'.heap[q]? = some (.cells (ints .i64 (sub zs from' to')) 2) ∧ Kp [] w w' := by
  obtain ⟨q, -, hmx, hq, hc⟩ := h
  obtain ⟨c0, -, -, c3⟩ := col_cells hc
  have hqs := lt_of_heap hq
  have hcs := lt_of_heap hc
  have t1 : ¬ to' < from' := by omega
  have t2 : ¬ zs.length < to' := by omega
  clear hc
  obtain ⟨n, hn⟩ : ∃ n, n = to' - from' := ⟨_, rfl⟩
  have e1 : IntKind.i64.wrap ((to' : Int) - from') = ((n : Nat) : Int) := by rw [IntWalk.i64_in _ (by omega)]; omega
  have hmk : ∀ wx : World, _ := fun wx => make_ints (P := Try.prog) wx 22 2 .i64 .i64 .i64 n 8 Try.underlying22 infoI64 (by omega) (by omega)
  have HN := Lib.hid hn
  clear hn
  have src : ∀ i, i < (sub zs from' to').length → ∃ b off, (some (⟨q, from', none⟩ : Addr)) = some ⟨b, off, none⟩ ∧ (w.alloc (.cells (ints .i64 (List.replicate n 0)) 2)).cell? ⟨b, off + i, none⟩ = some (.int .i64 (nth (sub zs from' to') i)) := by
    intro i hi
    rw [sub_length _ _ _ ht] at hi
    refine ⟨_, _, rfl, cell_alloc ?_⟩
    rw [cell_of_row w q _ _ _ _ hq, ints_get _ _ _ (by omega), nth_sub _ _ _ _ hi]
  have HS := Lib.hid src
  clear src
  go_enter Try.func20, Try.ntmps20
  by_cases hcase : zs.length = from'
  · go_wp2_with (go_at_call 46; go_in)
    obtain ⟨w1, h1, h2, h3, h4⟩ := copy_all (P := Try.prog) (w.alloc (.cells (ints .i64 (List.replicate n 0)) 2)) 22 2 3 .i64 w.heap.size n n (to' - from') 0 (some ⟨q, 0, none⟩) (sub zs from' to') Try.underlying22 sizeI64
      (ints .i64 (List.replicate n 0)) (heap_alloc_at rfl) (by simp [ints_size]) (by rw [sub_length _ _ _ ht, HN.out]) (HN.out.symm) (by intro i hi; rw [sub_length _ _ _ ht] at hi; omega)
    rw [h1]
    go_wp2
    go_ret2
    refine ⟨_, ?_, Nat.le_refl _, h2, ((Kp.refl [] w).alloc _).trans h3 (by simp) (by simp)⟩
    rw [HN.out]; rfl
  · go_wp2_with (go_at_call 46; go_in)
    obtain ⟨w1, h1, h2, h3, h4⟩ := copy_all (P := Try.prog) (w.alloc (.cells (ints .i64 (List.replicate n 0)) 2)) 22 2 3 .i64 w.heap.size n n (to' - from') (zs.length - from') _ (sub zs from' to') Try.underlying22 sizeI64
      (ints .i64 (List.replicate n 0)) (heap_alloc_at rfl) (by simp [ints_size]) (by rw [sub_length _ _ _ ht, HN.out]) (HN.out.symm) HS.out
    rw [h1]
    go_wp2
    go_ret2
    refine ⟨_, ?_, Nat.le_refl _, h2, ((Kp.refl [] w).alloc _).trans h3 (by simp) (by simp)⟩
    rw [HN.out]; rfl

theorem some_bad (c : Nat) (zs : List Int) (a b : Int) (w : World) (h : IsCol w c zs) (hb : ¬ (0 ≤ a ∧ a ≤ b ∧ b ≤ zs.length)) :
    Calls Try.prog 20 #[.pointer (some ⟨c, 0, none⟩), .int .i64 a, .int .i64 b] w fun e w' => e = .returned (.tuple #[.slice none 0 0, .int .i64 2]) ∧ w = w' := by
  obtain ⟨q, -, hmx, -, hc⟩ := h
  obtain ⟨c0, -, -, c3⟩ := col_cells hc
  clear hc
  by_cases t1 : a < 0
  · clear hb
    go_enter Try.func20, Try.ntmps20
    go_wp2_with (go_at_call 46; go_in)
    go_ret2
    exact ⟨rfl, rfl⟩
  · by_cases t2 : b < a
    · clear hb
      go_enter Try.func20, Try.ntmps20
      go_wp2_with (go_at_call 46; go_in)
      go_ret2
      exact ⟨rfl, rfl⟩
    · have t3 : (zs.length : Int) < b := by omega
      clear hb
      go_enter Try.func20, Try.ntmps20
      go_wp2_with (go_at_call 46; go_in)
      go_ret2
      exact ⟨rfl, rfl⟩
end Go.Proofs.Ytanodmjolphpfaa
