/-
  Sections: what is known.
-/
import Derived.Test.YtegnobdablbahaaSec9
namespace Go.Proofs.Ytegnobdablbahaa
open Go.RowKit
set_option linter.unusedSimpArgs false
set_option linter.unusedVariables false

theorem k21a : wrB [] = [73, 83, 71, 76, 0, 0] := by decide +kernel
theorem k21b : mayP [] = 0 := by decide +kernel
theorem k21c : rdP [73, 83, 71, 76, 0, 0] = (0, []) := by decide +kernel
theorem k21d : rdP [73, 83, 71] = (4, []) := by decide +kernel
theorem k21e : rdP [73, 83, 71, 77, 0, 0] = (5, []) := by decide +kernel
def ab : List Sec := [⟨⟨#[97]⟩, none, 0, []⟩, ⟨⟨#[98]⟩, none, 0, []⟩]
theorem k21f : fndX ab ⟨#[98]⟩ = 1 := by decide +kernel
theorem k21g : ((strOfNums [73, 83, 71, 76, 0, 0]).toList == [73, 83, 71, 76, 0, 0]) = true := by decide +kernel

/-- A new row of sections. -/
theorem rows_new {w : World} {g : Nat} {t : TypeId} {l : List Sec} {fr : Nat × Nat} (h : w.heap[g]? = some (.cells (l.flatMap scells).toArray t fr)) (hl : l.length ≤ 9223372036854775807 := by decide) : RdX w (some ⟨g, 0, none⟩) l.length l := by
  refine ⟨Nat.le_refl _, hl, fun i hi => ⟨g, 0, rfl, fun j hj => ?_⟩⟩
  rw [Nat.zero_add, cell_of_row w g _ _ _ _ h, ← flat_get slies.len l i j hi hj]
  simp

set_option maxHeartbeats 800000 in
set_option maxRecDepth 100000 in
theorem known21_any (w : World) : Calls Try.prog 31 #[] w fun e w' => e = .returned (.bool true) ∧ Kp [] w w' := by
  have hc1 := fun wx : World => Go.Joins.run_convert_bytes_const_at (P := Try.prog) wx 39 5 (ints .u8 [73, 83, 71, 76, 0, 0]) 6 6 wx.heap.size rfl Try.underlying39 Try.underlying5
  have hc2 := fun wx : World => Go.Joins.run_convert_bytes_const_at (P := Try.prog) wx 39 5 (ints .u8 [73, 83, 71]) 3 3 wx.heap.size rfl Try.underlying39 Try.underlying5
  have hc3 := fun wx : World => Go.Joins.run_convert_bytes_const_at (P := Try.prog) wx 39 5 (ints .u8 [73, 83, 71, 77, 0, 0]) 6 6 wx.heap.size rfl Try.underlying39 Try.underlying5
  simp only [ints, List.map_cons, List.map_nil] at hc1 hc2 hc3
  go_enter Try.func31, Try.ntmps31
  go_wp2_with fail
  refine (xWrite_any none 0 0 [] rfl w (RdS.nil _ _ _) (by intro x hx; simp at hx) (by intro x hx; simp at hx)).mono ?_
  rintro e w1 ⟨ad1, cap1, rfl, ho1, kp1⟩
  rw [k21a] at ho1
  rw [k21a, k21b]
  have HO1 := Lib.hid ho1
  have HK1 := Lib.hid kp1
  clear ho1 kp1
  go_wp2_with fail
  refine (xRead_any (some ⟨w1.heap.size, 0, none⟩) 6 6 [73, 83, 71, 76, 0, 0] rfl _ (rd_row (heap_alloc_at rfl) (by decide)) (bytes_dec rfl) (by omega)).mono ?_
  rintro e w2 ⟨l2, ad2, cap2, rfl, hk2, -, -, -, kp2⟩
  rw [k21c] at hk2
  obtain rfl : l2 = [] := by simpa using hk2
  rw [k21c]
  have HK2 := Lib.hid (HK1.out.tr (((Kp.refl [] w1).alloc _).tr kp2))
  have HO2 := Lib.hid (HO1.out.keep0 (((Kp.refl [] w1).alloc _).tr kp2))
  clear hk2 kp2
  go_wp2_with fail
  refine (xRead_any (some ⟨w2.heap.size, 0, none⟩) 3 3 [73, 83, 71] rfl _ (rd_row (heap_alloc_at rfl) (by decide)) (bytes_dec rfl) (by omega)).mono ?_
  rintro e w3 ⟨l3, ad3, cap3, rfl, -, -, -, -, kp3⟩
  rw [k21d]
  have HK3 := Lib.hid (HK2.out.tr (((Kp.refl [] w2).alloc _).tr kp3))
  have HO3 := Lib.hid (HO2.out.keep0 (((Kp.refl [] w2).alloc _).tr kp3))
  clear kp3
  go_wp2_with fail
  refine (xRead_any (some ⟨w3.heap.size, 0, none⟩) 6 6 [73, 83, 71, 77, 0, 0] rfl _ (rd_row (heap_alloc_at rfl) (by decide)) (bytes_dec rfl) (by omega)).mono ?_
  rintro e w4 ⟨l4, ad4, cap4, rfl, -, -, -, -, kp4⟩
  rw [k21e]
  have HK4 := Lib.hid (HK3.out.tr (((Kp.refl [] w3).alloc _).tr kp4))
  have HO4 := Lib.hid (HO3.out.keep0 (((Kp.refl [] w3).alloc _).tr kp4))
  clear kp4
  have hcv := cvs w4 ad1 cap1 6 _ HO4.out.rd rfl
  have hq := k21g
  go_wp2_with fail
  refine (xFind_any (some ⟨w4.heap.size, 0, none⟩) 2 2 ab ⟨#[98]⟩ rfl _ (rows_new (heap_alloc_at rfl)) ).mono ?_
  rintro e w5 ⟨rfl, kp5⟩
  rw [k21f]
  have HK5 := Lib.hid (HK4.out.tr (((Kp.refl [] w4).alloc _).tr kp5))
  clear kp5
  go_wp2_with fail
  go_ret
  exact ⟨rfl, HK5.out⟩
end Go.Proofs.Ytegnobdablbahaa
