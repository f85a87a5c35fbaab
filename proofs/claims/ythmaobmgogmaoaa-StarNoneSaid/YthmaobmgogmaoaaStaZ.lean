/-
  Star-trees: StarNone.
-/
import Derived.Test.YthmaobmgogmaoaaStaY
namespace Go.Proofs.Ythmaobmgogmaoaa
open Go.RowKit Go.Shelf
set_option linter.unusedSimpArgs false
set_option linter.unusedVariables false
set_option maxRecDepth 100000

set_option maxHeartbeats 1600000 in
theorem starNone_any (i : Int) (w : World) : Calls Try.prog 7 #[.int .i64 i] w fun e w' => e = .returned (.bool true) ∧ Kp [] w w' := by
  go_enter Try.func7, Try.ntmps7
  go_wp2_with fail
  obtain ⟨w2, hw2⟩ : ∃ u, u = (w.alloc (Obj.cells #[.int .i64 0, .int .i64 0, .int .i64 0, .slice none 0 0, .slice none 0 0] 59)).alloc (Obj.cells #[.pointer none, .pointer (some ⟨w.heap.size, 0, none⟩)] 27) := ⟨_, rfl⟩
  rw [← hw2]
  have k2 : Kp [] w w2 := by rw [hw2]; exact ((Kp.refl [] w).alloc _).alloc _
  have z0 : w2.heap[w.heap.size]? = some (.cells #[.int .i64 0, .int .i64 0, .int .i64 0, .slice none 0 0, .slice none 0 0] 59) := by rw [hw2]; exact cells_alloc (heap_alloc_at rfl)
  have z1 : w2.heap[w.heap.size + 1]? = some (.cells #[.pointer none, .pointer (some ⟨w.heap.size, 0, none⟩)] 27) := by rw [hw2]; exact heap_alloc_at (by simp)
  obtain ⟨a, ha⟩ : ∃ a, a = w.heap.size := ⟨_, rfl⟩
  have K2 := Lib.hid k2
  have HL : Hid (∀ W, Kp [] w2 W → ∀ n : Nat, n < 2 → ∃ t : Option Addr, W.cell? ⟨w.heap.size + 1, n, none⟩ = some (.pointer t) ∧ TreeK W t 0) := Lib.hid (fun W hW n hn => by
    have h1 := hW.get z1 (by simp)
    have h0 := hW.get z0 (by simp)
    obtain rfl | rfl : n = 0 ∨ n = 1 := by omega
    · exact ⟨none, by rw [cell_of_row W _ 0 _ _ _ h1]; rfl, .inl ⟨rfl, rfl⟩⟩
    · exact ⟨some ⟨w.heap.size, 0, none⟩, by rw [cell_of_row W _ 1 _ _ _ h1]; rfl, .inr ⟨_, rfl, by rw [cell_of_row W _ 0 _ _ _ h0]; rfl⟩⟩)
  clear hw2 k2 z0 z1 ha
  go_loopw [14] (fun vn wr => ∃ n : Nat, n ≤ 2 ∧ vn = .int .i64 n ∧ Hid (Kp [] w2 wr)) (fun vn _ => 2 - (intOf vn).toNat)
  case atStart => exact ⟨0, by omega, rfl, Lib.hid (Kp.refl _ _)⟩
  case round =>
    obtain ⟨n, hn, rfl, HK⟩ := hrel
    obtain ⟨wt, rfl⟩ : ∃ wt : World, wt = wr := ⟨_, rfl⟩
    by_cases hlt : n < 2
    · obtain ⟨t, ht, hT⟩ := HL.out wt HK.out n hlt
      have HT := Lib.hid hT
      clear hT
      go_wp2_with fail
      refine (stRecord0 HT.out i).mono ?_
      rintro e w3 ⟨rfl, kp3⟩
      have HT3 := Lib.hid (HT.out.keep kp3)
      have K3 := Lib.hid kp3
      clear kp3 ht
      unfold rec0
      go_wp2_with (refine wpList_store_row rfl 34 _ _ rfl w3.heap.size #[.slice none 0 0, .int .i64 0, .slice none 0 0, .slice none 0 0, .slice none 0 0] rfl rfl 34 _ (heap_alloc_at rfl) (by kernel_rfl) rfl (by simp [Value.oneCell']) ?_)
      generalize hz : (w3.alloc (Obj.cells _ _)).setRow _ _ = w4
      have K4 : Hid (Kp [] w3 w4) := Lib.hid (by rw [← hz]; exact ((Kp.refl [] w3).alloc _).setRowF _ _ (.inr (Nat.le_refl _)))
      clear hz
      refine (stNode0 (HT3.out.keep K4.out) i).mono ?_
      rintro e w5 ⟨rfl, kp5⟩
      have HT5 := Lib.hid ((HT3.out.keep K4.out).keep kp5)
      have K5 := Lib.hid kp5
      clear kp5
      unfold node0
      go_upto_region 9 with (refine wpList_store_row rfl 40 _ _ rfl w5.heap.size #[.int .i64 0, .int .i64 0, .int .i64 0, .slice none 0 0] rfl rfl 40 _ (heap_alloc_at rfl) (by kernel_rfl) rfl (by simp [Value.oneCell']) ?_)
      generalize hz : (w5.alloc (Obj.cells _ _)).setRow _ _ = w6
      have K6 : Hid (Kp [] w5 w6) := Lib.hid (by rw [← hz]; exact ((Kp.refl [] w5).alloc _).setRowF _ _ (.inr (Nat.le_refl _)))
      clear hz
      have HT6 := Lib.hid (HT5.out.keep K6.out)
      have HKN := Lib.hid ((((HK.out.tr K3.out).tr K4.out).tr K5.out).tr K6.out)
      go_wp2_with fail
      refine (stDepth0 HT6.out).mono ?_
      rintro e w7 ⟨rfl, rfl⟩
      go_wp2_with fail
      refine (stMetrics0 HT6.out).mono ?_
      rintro e w8 ⟨rfl, rfl⟩
      go_wp2_with fail
      refine (stRecords0 HT6.out).mono ?_
      rintro e w9 ⟨rfl, rfl⟩
      go_wp2_with fail
      refine (stNodes0 HT6.out).mono ?_
      rintro e w10 ⟨rfl, rfl⟩
      go_wp2_with fail
      refine (stBytes0 HT6.out).mono ?_
      rintro e w11 ⟨rfl, rfl⟩
      go_wp2_with fail
      go_roundw
      case rel => exact ⟨n + 1, hlt, by go_num, HKN⟩
      case measure => simp [intOf]; omega
    · go_wp2_with fail
      refine (known19_any wt).mono ?_
      rintro e w3 ⟨rfl, kp3⟩
      have HF := Lib.hid ((K2.out.tr HK.out).tr kp3)
      clear kp3
      go_wp2_with fail
      go_ret
      exact ⟨rfl, HF.out⟩
end Go.Proofs.Ythmaobmgogmaoaa
