/-
  Star-trees: what one that is not there, or was not made, tells.
-/
import Derived.Test.YthmaobmgogmaoaaStaT
import Derived.Test.YthmaobmgogmaoaaStaO
namespace Go.Proofs.Ythmaobmgogmaoaa
open Go.RowKit Go.Shelf
set_option linter.unusedSimpArgs false
set_option linter.unusedVariables false
set_option maxRecDepth 100000

theorem stNone0 {t : Option Addr} {w : World} (h : TreeK w t 0) : Calls Try.prog 38 #[.pointer t] w fun e w' => e = .returned (.bool true) ∧ w' = w := stNone_any t 0 w h
theorem TreeK.keep {w w' : World} {t : Option Addr} {k : Int} (h : TreeK w t k) (hk : Kp [] w w') : TreeK w' t k := by
  rcases h with ⟨h1, h2⟩ | ⟨T, h1, h2⟩
  · exact .inl ⟨h1, h2⟩
  · exact .inr ⟨T, h1, hk.cell h2 (by simp)⟩
theorem stRecords0 {t : Option Addr} {w : World} (h : TreeK w t 0) : Calls Try.prog 14 #[.pointer t] w fun e w' => e = .returned (.int .i64 0) ∧ w' = w := by
  have H := Lib.hid (stNone0 h)
  clear h
  go_enter Try.func14, Try.ntmps14
  go_wp2_with fail
  refine H.out.mono ?_
  rintro e w' ⟨rfl, rfl⟩
  go_wp2_with fail
  go_ret
  exact ⟨rfl, rfl⟩
theorem stNodes0 {t : Option Addr} {w : World} (h : TreeK w t 0) : Calls Try.prog 16 #[.pointer t] w fun e w' => e = .returned (.int .i64 0) ∧ w' = w := by
  have H := Lib.hid (stNone0 h)
  clear h
  go_enter Try.func16, Try.ntmps16
  go_wp2_with fail
  refine H.out.mono ?_
  rintro e w' ⟨rfl, rfl⟩
  go_wp2_with fail
  go_ret
  exact ⟨rfl, rfl⟩
theorem stDepth0 {t : Option Addr} {w : World} (h : TreeK w t 0) : Calls Try.prog 22 #[.pointer t] w fun e w' => e = .returned (.int .i64 0) ∧ w' = w := by
  have H := Lib.hid (stNone0 h)
  clear h
  go_enter Try.func22, Try.ntmps22
  go_wp2_with fail
  refine H.out.mono ?_
  rintro e w' ⟨rfl, rfl⟩
  go_wp2_with fail
  go_ret
  exact ⟨rfl, rfl⟩
theorem stMetrics0 {t : Option Addr} {w : World} (h : TreeK w t 0) : Calls Try.prog 23 #[.pointer t] w fun e w' => e = .returned (.int .i64 0) ∧ w' = w := by
  have H := Lib.hid (stNone0 h)
  clear h
  go_enter Try.func23, Try.ntmps23
  go_wp2_with fail
  refine H.out.mono ?_
  rintro e w' ⟨rfl, rfl⟩
  go_wp2_with fail
  go_ret
  exact ⟨rfl, rfl⟩
theorem stBytes0 {t : Option Addr} {w : World} (h : TreeK w t 0) : Calls Try.prog 20 #[.pointer t] w fun e w' => e = .returned (.slice none 0 0) ∧ w' = w := by
  have H := Lib.hid (stNone0 h)
  clear h
  go_enter Try.func20, Try.ntmps20
  go_wp2_with fail
  refine H.out.mono ?_
  rintro e w' ⟨rfl, rfl⟩
  go_wp2_with fail
  go_ret
  exact ⟨rfl, rfl⟩
theorem stRecord0 {t : Option Addr} {w : World} (h : TreeK w t 0) (i : Int) : Calls Try.prog 15 #[.pointer t, .int .i64 i] w fun e w' => e = .returned (.tuple #[rec0, .int .i64 1]) ∧ Kp [] w w' := by
  have HT := Lib.hid h
  clear h
  go_enter Try.func15, Try.ntmps15
  go_wp2_with fail
  obtain ⟨p, hp⟩ : ∃ p, p = w.heap.size := ⟨_, rfl⟩
  obtain ⟨w1, hw1⟩ : ∃ w1, w1 = w.alloc (Obj.cells #[Value.slice none 0 0, Value.int IntKind.i64 0, Value.slice none 0 0, Value.slice none 0 0, Value.slice none 0 0] 34) := ⟨_, rfl⟩
  have k1 : Kp [] w w1 := by rw [hw1]; exact (Kp.refl [] w).alloc _
  have hp1 : w1.heap[p]? = some (.cells #[Value.slice none 0 0, Value.int IntKind.i64 0, Value.slice none 0 0, Value.slice none 0 0, Value.slice none 0 0] 34) := by rw [hw1]; exact heap_alloc_at hp
  rw [← hw1, ← hp]
  have HP1 := Lib.hid hp1
  have HF : Hid (Kp [] w (w1.setRow p #[Value.slice none 0 0, Value.int IntKind.i64 0, Value.slice none 0 0, Value.slice none 0 0, Value.slice none 0 0])) := Lib.hid (k1.setRowF _ _ (.inr (by rw [hp]; exact Nat.le_refl _)))
  have HN := Lib.hid (stNone0 (HT.out.keep k1))
  clear hw1 k1 hp1 hp
  refine HN.out.mono ?_
  rintro e w2 ⟨rfl, rfl⟩
  go_wp2_with (refine wpList_store_row rfl 34 _ _ rfl p #[.slice none 0 0, .int .i64 0, .slice none 0 0, .slice none 0 0, .slice none 0 0] rfl rfl 34 _ HP1.out (by kernel_rfl) rfl (by simp [Value.oneCell']) ?_)
  exact bodyPost_ret (v := .tuple #[rec0, .int .i64 1]) (resCellTmp Try.results15 _ _ p 34 _ (0, 0) _ rfl (setRow_heap _ p _ _ _ _ HP1.out) Try.underlying34 rfl (by kernel_rfl)) rfl ⟨rfl, HF.out⟩
theorem stNode0 {t : Option Addr} {w : World} (h : TreeK w t 0) (i : Int) : Calls Try.prog 17 #[.pointer t, .int .i64 i] w fun e w' => e = .returned (.tuple #[node0, .int .i64 1]) ∧ Kp [] w w' := by
  have HT := Lib.hid h
  clear h
  go_enter Try.func17, Try.ntmps17
  go_wp2_with fail
  obtain ⟨p, hp⟩ : ∃ p, p = w.heap.size := ⟨_, rfl⟩
  obtain ⟨w1, hw1⟩ : ∃ w1, w1 = w.alloc (Obj.cells #[Value.int IntKind.i64 0, Value.int IntKind.i64 0, Value.int IntKind.i64 0, Value.slice none 0 0] 40) := ⟨_, rfl⟩
  have k1 : Kp [] w w1 := by rw [hw1]; exact (Kp.refl [] w).alloc _
  have hp1 : w1.heap[p]? = some (.cells #[Value.int IntKind.i64 0, Value.int IntKind.i64 0, Value.int IntKind.i64 0, Value.slice none 0 0] 40) := by rw [hw1]; exact heap_alloc_at hp
  rw [← hw1, ← hp]
  have HP1 := Lib.hid hp1
  have HF : Hid (Kp [] w (w1.setRow p #[Value.int IntKind.i64 0, Value.int IntKind.i64 0, Value.int IntKind.i64 0, Value.slice none 0 0])) := Lib.hid (k1.setRowF _ _ (.inr (by rw [hp]; exact Nat.le_refl _)))
  have HN := Lib.hid (stNone0 (HT.out.keep k1))
  clear hw1 k1 hp1 hp
  refine HN.out.mono ?_
  rintro e w2 ⟨rfl, rfl⟩
  go_wp2_with (refine wpList_store_row rfl 40 _ _ rfl p #[.int .i64 0, .int .i64 0, .int .i64 0, .slice none 0 0] rfl rfl 40 _ HP1.out (by kernel_rfl) rfl (by simp [Value.oneCell']) ?_)
  exact bodyPost_ret (v := .tuple #[node0, .int .i64 1]) (resCellTmp Try.results17 _ _ p 40 _ (0, 0) _ rfl (setRow_heap _ p _ _ _ _ HP1.out) Try.underlying40 rfl (by kernel_rfl)) rfl ⟨rfl, HF.out⟩
end Go.Proofs.Ythmaobmgogmaoaa
