/-
  What metric.Column's Bytes tells.
-/
import Derived.Test.YtanodmjolphpfaaMetric
namespace Go.Proofs.Ytanodmjolphpfaa
open Go.RowKit
set_option linter.unusedSimpArgs false
set_option linter.unusedVariables false

set_option maxHeartbeats 400000 in
theorem put_any (c base size n : Nat) (ad : Option Addr) (cap : Nat) (zs : List Int) (w : World) (hc : w.heap[c]? = some (.cells #[.slice ad zs.length cap] 40)) (ho : Own w base 5 .u8 ad cap zs) (hd : c ∉ ob ad cap)
    (hb : zs.length + size ≤ 1099511627776) (hbase : base ≤ w.heap.size) (hn : n < 18446744073709551616) :
    Calls Try.prog 49 #[.int .u64 n, .int .i64 size, .pointer (some ⟨c, 0, none⟩)] w fun e w' => ∃ ad' cap', e = .returned (.tuple #[]) ∧ w'.heap[c]? = some (.cells #[.slice ad' (zs.length + size) cap'] 40) ∧ Own w' base 5 .u8 ad' cap' (zs ++ le n size) ∧
      Kp (c :: ob ad cap) w w' ∧ (∀ b, b ∈ ob ad' cap' → b ∈ ob ad cap ∨ w.heap.size ≤ b) := by
  have HN := Lib.hid hn
  clear hn
  go_enter Try.func49, Try.ntmps49
  go_wp2
  go_loopw [0, 6] (fun vn i wr => ∃ (k : Nat) (ad' : Option Addr) (cap' : Nat), k ≤ size ∧ i = .int .i64 k ∧ vn = .int .u64 ((n / 256 ^ k : Nat) : Int) ∧ wr.heap[c]? = some (.cells #[.slice ad' (zs.length + k) cap'] 40) ∧ Own wr base 5 .u8 ad' cap' (zs ++ le n k) ∧
      Kp (c :: ob ad cap) w wr ∧ (∀ b, b ∈ ob ad' cap' → b ∈ ob ad cap ∨ w.heap.size ≤ b)) (fun _ i _ => size - (intOf i).toNat)
  case atStart => exact ⟨0, ad, cap, Nat.zero_le _, rfl, by simp, by simpa using hc, by simpa [le] using ho, Kp.refl _ _, fun b hb => .inl hb⟩
  case round =>
    obtain ⟨k, ad', cap', hk, rfl, rfl, hc2, ho2, kp2, hob⟩ := hrel
    by_cases hlt : k < size
    · obtain ⟨m, hm⟩ : ∃ m, m = n / 256 ^ k := ⟨_, rfl⟩
      rw [← hm]
      have HM := Lib.hid hm
      obtain ⟨hx, hf, hcs⟩ := one_cell hc2
      have hc0 := lt_of_heap hc
      have hni : c ∉ ob ad' cap' := fun hb => (hob c hb).elim hd (fun h => by omega)
      clear hc hm ho
      go_wp2_with (at_builtin; go_must (refine wpList_app rfl _ _ 40 40 rfl base 5 .u8 1 Try.underlying40 infoU8 ad' cap' (zs.length + k) (zs ++ le n k) (by simp [le_length]) [(m : Int) % 256] _ 1 rfl rfl rfl (ho2.alloc _) (src_one Try.underlying40 (World.cell?_alloc_at _ _ _ _ rfl)) (by omega) (by omega) (by have := kp2.size; simp; omega) ?_); intro ad2 cap2 w2 ho3 kp3 hob3 _; have hc3 := kp3.get (cells_alloc hc2) hni; obtain ⟨hx3, hf3, _⟩ := one_cell hc3)
      go_roundw
      case rel =>
        have hs2 := kp2.size
        simp only [World.size_alloc] at hob3
        refine ⟨k + 1, ad2, cap2, hlt, by go_num, ?_, ?_, ?_, ?_, ?_⟩
        · rw [HM.out, Nat.pow_succ, ← Nat.div_div_eq_div_mul]; simp
        · exact one_set hc3 _
        · rw [le_snoc, ← List.append_assoc]
          rw [HM.out] at ho3
          exact ho3.keep ((Kp.refl [c] w2).setCell _ _ (by simp)) (fun b hb => by simp; rintro rfl; rcases hob3 _ hb with h | h; exact hni h; omega)
        · refine Kp.setCell ?_ _ _ (by simp)
          exact (kp2.alloc _).trans kp3 (fun x hx => .inl hx) (fun x hx => by rcases hob x hx with h | h; exact .inl (by simp [h]); exact .inr h)
        · intro b hb
          rcases hob3 b hb with h | h
          · exact hob b h
          · exact .inr (by omega)
      case measure => simp [intOf]; omega
    · have hkk : k = size := by omega
      subst hkk
      clear hc
      go_wp2
      go_end0
      exact ⟨ad', cap', rfl, hc2, ho2, kp2, hob⟩

/-- A variable at block c, of the call's own, holds bytes of the call's own. -/
def Buf (w0 w : World) (c : Nat) (zs : List Int) : Prop := ∃ ad cap, w.heap[c]? = some (.cells #[.slice ad zs.length cap] 40) ∧ Own w w0.heap.size 5 .u8 ad cap zs ∧ c ∉ ob ad cap ∧ Kp [] w0 w ∧ w0.heap.size ≤ c
theorem put_buf (w0 : World) (c size n : Nat) (zs : List Int) (w : World) (h : Buf w0 w c zs) (hb : zs.length + size ≤ 1099511627776) (hn : n < 18446744073709551616) :
    Calls Try.prog 49 #[.int .u64 n, .int .i64 size, .pointer (some ⟨c, 0, none⟩)] w fun e w' => e = .returned (.tuple #[]) ∧ Buf w0 w' c (zs ++ le n size) := by
  obtain ⟨ad, cap, h1, h2, h3, h4, h5⟩ := h
  refine (put_any c w0.heap.size size n ad cap zs w h1 h2 h3 hb h4.size hn).mono ?_
  rintro e w1 ⟨ad1, cap1, rfl, hb1, ho1, kp1, ob1⟩
  have hc := lt_of_heap h1
  refine ⟨rfl, ad1, cap1, by simpa [le_length] using hb1, ho1, fun hb => (ob1 c hb).elim h3 (fun h => by omega), h4.trans kp1 (by simp) ?_, h5⟩
  intro x hx
  rcases List.mem_cons.1 hx with rfl | hx
  · exact .inr h5
  · exact .inr (h2.ob_ge x hx).1
theorem Buf.keep {w0 w : World} {c : Nat} {zs : List Int} (h : Buf w0 w c zs) : Kp [] w0 w := let ⟨_, _, _, _, _, h4, _⟩ := h; h4

/-- A column's bytes. -/
def colHead (zs : List Int) : List Int := le zs.length 4 ++ le (u64 (lows zs)) 8 ++ le (u64 (highs zs)) 8
def colBytes (zs : List Int) : List Int := colHead zs ++ u64s zs
theorem colHead_length (zs : List Int) : (colHead zs).length = 20 := by simp [colHead, le_length]

set_option maxHeartbeats 400000 in
theorem bytes_any (c : Nat) (zs : List Int) (w : World) (h : IsCol w c zs) :
    Calls Try.prog 22 #[.pointer (some ⟨c, 0, none⟩)] w fun e w' => ∃ ad cap, e = .returned (.slice ad (colBytes zs).length cap) ∧ Own w' w.heap.size 5 .u8 ad cap (colBytes zs) ∧ Kp [] w w' := by
  obtain ⟨q, -, hmx, hq, hc⟩ := h
  have HQ := Lib.hid hq
  have HC := Lib.hid hc
  obtain ⟨c0, c1, c2, c3⟩ := col_cells hc
  have hcs := lt_of_heap hc
  have hqs := lt_of_heap hq
  obtain ⟨n, hn⟩ : ∃ n, n = zs.length := ⟨_, rfl⟩
  rw [← hn] at c0 hmx
  have HN := Lib.hid hn
  have hmk : ∀ wx : World, (Instr.makeSlice 40 (.int .i64 0) (.int .i64 (20 + 8 * (n : Int)))).run Try.prog wx = .ok (.slice (some ⟨wx.heap.size, 0, none⟩) 0 (20 + 8 * n)) (wx.alloc (.cells (ints .u8 (List.replicate (20 + 8 * n) 0)) 5)) := by
    intro wx
    have := make_ints0 (P := Try.prog) wx 40 5 .u8 .i64 .i64 (20 + 8 * n) 1 Try.underlying40 infoU8 (by omega) (by omega)
    rw [show (((20 + 8 * n : Nat)) : Int) = 20 + 8 * (n : Int) by omega] at this
    exact this
  clear hc hq hn
  go_enter Try.func22, Try.ntmps22
  go_wp2_with (go_at_call 46; go_in)
  have hb0 : Buf w ((w.alloc (Obj.cells (ints IntKind.u8 (List.replicate (20 + 8 * n) 0)) 5)).alloc (Obj.cells #[Value.slice (some { block := w.heap.size, off := 0 }) 0 (20 + 8 * n)] 40)) (w.heap.size + 1) [] :=
    ⟨some ⟨w.heap.size, 0, none⟩, 20 + 8 * n, heap_alloc_at (by simp), (Own.made (Nat.le_refl _) (heap_alloc_at rfl) (by omega)).alloc _, by unfold ob; split <;> simp, ((Kp.refl [] w).alloc _).alloc _, by omega⟩
  clear hmk
  refine (put_buf w (w.heap.size + 1) 4 n [] _ hb0 (by simp) (by omega)).mono ?_
  rintro e w1 ⟨rfl, hb1⟩
  have d0 := hb1.keep.cell c0 (by simp)
  have d1 := hb1.keep.cell c1 (by simp)
  have d2 := hb1.keep.cell c2 (by simp)
  clear hb0
  go_wp2_with fail
  rw [u64_wrap]
  refine (put_buf w (w.heap.size + 1) 8 (u64 (lows zs)) _ _ hb1 (by simp [le_length]) (u64_lt _)).mono ?_
  rintro e w2 ⟨rfl, hb2⟩
  have d0 := hb2.keep.cell c0 (by simp)
  have d2 := hb2.keep.cell c2 (by simp)
  clear hb1 d1
  go_wp2_with fail
  rw [u64_wrap]
  refine (put_buf w (w.heap.size + 1) 8 (u64 (highs zs)) _ _ hb2 (by simp [le_length]) (u64_lt _)).mono ?_
  rintro e w3 ⟨rfl, hb3⟩
  have d0 := hb3.keep.cell c0 (by simp)
  rw [show [] ++ le n 4 ++ le (u64 (lows zs)) 8 ++ le (u64 (highs zs)) 8 = colHead zs by rw [HN.out]; simp [colHead]] at hb3
  clear hb2 d2
  go_wp2_with fail
  go_loopw [45] (fun i wr => ∃ k : Nat, k ≤ n ∧ i = .int .i64 k ∧ Buf w wr (w.heap.size + 1) (colHead zs ++ u64s (zs.take k))) (fun i _ => n - (intOf i).toNat)
  case atStart => exact ⟨0, Nat.zero_le _, rfl, by simpa [u64s] using hb3⟩
  case round =>
    obtain ⟨k, hk, rfl, hbr⟩ := hrel
    clear hb3 d0
    by_cases hlt : k < n
    · have hx := hbr.keep.cell (show w.cell? ⟨q, k, none⟩ = some (.int .i64 (nth zs k)) by rw [cell_of_row w q k _ _ _ HQ.out, ints_get _ _ _ (by have := HN.out; omega)]) (by simp)
      go_wp2_with fail
      rw [u64_wrap]
      refine (put_buf w (w.heap.size + 1) 8 (u64 (nth zs k)) _ _ hbr (by simp [colHead_length, u64s_length]; omega) (u64_lt _)).mono ?_
      rintro e w4 ⟨rfl, hb4⟩
      clear hbr hx
      go_wp2_with fail
      go_roundw
      case rel =>
        refine ⟨k + 1, hlt, by go_num, ?_⟩
        rw [u64s_step zs k (by have := HN.out; omega), ← List.append_assoc]; exact hb4
      case measure => simp [intOf]; omega
    · obtain rfl : k = n := by omega
      rw [HN.out, List.take_length] at hbr
      obtain ⟨ad, cap, h1, h2, h3, h4, h5⟩ := hbr
      obtain ⟨hx, -, -⟩ := one_cell h1
      clear h1
      go_wp2_with fail
      go_ret
      exact ⟨ad, cap, by rw [colBytes, List.length_append]; rfl, h2, h4⟩
theorem colBytes_length (zs : List Int) : (colBytes zs).length = 20 + 8 * zs.length := by rw [colBytes, List.length_append, colHead_length, u64s_length]
end Go.Proofs.Ytanodmjolphpfaa
