/-
  The walks of MetricDoes and MetricNone: they return true.
-/
import Derived.Test.YtanodmjolphpfaaTold13
namespace Go.Proofs.Ytanodmjolphpfaa
open Go.RowKit
set_option linter.unusedSimpArgs false
set_option linter.unusedVariables false

set_option maxHeartbeats 1000000 in
theorem does_walk (a0 : Option Addr) (cap0 : Nat) (l : List Int) (x y : Int) (w : World) (r0 : Rd w .i64 a0 cap0 l) :
    Calls Try.prog 4 #[.slice a0 l.length cap0, .int .i64 x, .int .i64 y] w fun e w' => e = .returned (.bool true) ∧ Kp [] w w' := by
  obtain ⟨n, hn⟩ : ∃ n, n = l.length := ⟨_, rfl⟩
  rw [← hn]
  have HN := Lib.hid hn
  have HR := Lib.hid r0
  clear hn r0
  by_cases h1 : 300 < n
  · go_enter Try.func4, Try.ntmps4
    go_wp2_with (go_at_call 13; refine (known13 _).mono ?_; rintro e w' ⟨rfl, kp⟩)
    go_ret
    exact ⟨rfl, kp⟩
  go_enter Try.func4, Try.ntmps4
  go_wp2_with (at_builtin; refine wpList_app rfl (.tmp 15) (.tmp 16) 22 22 rfl w.heap.size 2 .i64 8 Try.underlying22 infoI64 (some ⟨w.heap.size, 0, none⟩) 0 0 [] rfl l _ n HN.out rfl rfl (.inl ⟨rfl, rfl⟩) (by rw [HN.out]; exact src_rd (HR.out.alloc _) Try.underlying22) (by omega) (by omega) (by simp) ?_; intro ad1 cap1 w1 ho1 kp1 hob1 _)
  have kw1 : Kp [] w w1 := ((Kp.refl [] w).alloc _).trans kp1 (by simp) (by simp [ob])
  rw [List.nil_append] at ho1
  refine (of_col ad1 cap1 l n HN.out w1 ho1.rd (by have := HN.out; omega)).mono ?_
  rintro e w2 ⟨c, rfl, hc0, hc, kp2⟩
  have kw2 : Kp [] w w2 := kw1.trans kp2 (by simp) (by simp)
  have ho2 := ho1.keep0 kp2
  have hlt1 : ∀ b, b ∈ ob ad1 cap1 → b < w1.heap.size := fun b hb => (ho1.ob_ge b hb).2
  have HLT := Lib.hid hlt1
  clear hlt1 ho1 kp1 hob1 kw1
  go_wp2_with fail
  refine (r13same_yes ad1 a0 cap1 cap0 l n HN.out w2 ho2.rd (HR.out.keep0 kw2)).mono ?_
  rintro e w3 ⟨rfl, kp3⟩
  have kw3 : Kp [] w w3 := kw2.trans kp3 (by simp) (by simp)
  have ho3 := ho2.keep0 kp3
  have hc3 := hc.keep kp3
  have HO := Lib.hid ho3
  have HC := Lib.hid hc3
  clear ho2 hc ho3 hc3 kp3 kw2
  go_wp2_with fail
  go_loopw [37] (fun i wr => ∃ (k : Nat) (s' : List Int), k ≤ n ∧ i = .int .i64 k ∧ s'.length = n ∧ Own wr w.heap.size 2 .i64 ad1 cap1 s' ∧ IsCol wr c l ∧ Kp [] w wr) (fun i _ => n - (intOf i).toNat)
  case atStart => exact ⟨0, l, Nat.zero_le _, rfl, HN.out.symm, HO.out, HC.out, kw3⟩
  case round =>
    obtain ⟨k, s', hk, rfl, hs', ho', hc', kp'⟩ := hrel
    have HS' := Lib.hid hs'
    clear hs'
    by_cases hlt : k < n
    · obtain ⟨g, rfl, q1, q2, q3, q4⟩ := ho'.at' (i := k) (by rw [HS'.out]; exact hlt)
      go_wp2_with fail
      go_roundw
      case rel =>
        refine ⟨k + 1, s'.set k (RowKit.wrap64 (nth s' k + 1)), hlt, by go_num, by simp [HS'.out], ho'.set k _, ?_, kp'.setCell _ _ (.inr q3)⟩
        exact hc'.keepS ((Kp.refl [g] wr).setCell _ _ (by simp)) (fun b hb => by have := HLT.out g q4; simp at hb; omega)
      case measure => simp [intOf]; omega
    · have hR' := HR.out.keep0 kp'
      go_wp2_with fail
      refine (told_any c l a0 cap0 n HN.out x y _ hc' hR' (by have := HN.out; omega)).mono ?_
      rintro e w5 ⟨rfl, kp5⟩
      have hc5 := hc'.keep kp5
      go_wp2_with fail
      refine (told_any c l a0 cap0 n HN.out 0 n _ hc5 (hR'.keep0 kp5) (by have := HN.out; omega)).mono ?_
      rintro e w6 ⟨rfl, kp6⟩
      go_wp2_with fail
      refine (known13 _).mono ?_
      rintro e w7 ⟨rfl, kp7⟩
      go_wp2_with fail
      go_ret
      exact ⟨rfl, ((kp'.tr kp5).tr kp6).tr kp7⟩

/-! A column that is not there. -/
theorem nocol_cells {w : World} {c : Nat} (h : w.heap[c]? = some (.cells #[.slice none 0 0, .int .i64 0, .int .i64 0, .bool false] 33)) : w.cell? ⟨c, 3, none⟩ = some (.bool false) := cell_of_row w c 3 _ _ _ h

theorem least_no (v : Option Addr) (w : World) (h : NoCol w v) : Calls Try.prog 15 #[.pointer v] w fun e w' => e = .returned (.int .i64 0) ∧ w = w' := by
  rcases h with rfl | ⟨c, rfl, h⟩
  · go_enter Try.func15, Try.ntmps15
    go_wp2
    go_ret
    exact ⟨rfl, rfl⟩
  · have h3 := nocol_cells h
    clear h
    go_enter Try.func15, Try.ntmps15
    go_wp2
    go_ret
    exact ⟨rfl, rfl⟩
theorem greatest_no (v : Option Addr) (w : World) (h : NoCol w v) : Calls Try.prog 16 #[.pointer v] w fun e w' => e = .returned (.int .i64 0) ∧ w = w' := by
  rcases h with rfl | ⟨c, rfl, h⟩
  · go_enter Try.func16, Try.ntmps16
    go_wp2
    go_ret
    exact ⟨rfl, rfl⟩
  · have h3 := nocol_cells h
    clear h
    go_enter Try.func16, Try.ntmps16
    go_wp2
    go_ret
    exact ⟨rfl, rfl⟩
theorem len_no (v : Option Addr) (w : World) (h : NoCol w v) : Calls Try.prog 21 #[.pointer v] w fun e w' => e = .returned (.int .i64 0) ∧ w = w' := by
  rcases h with rfl | ⟨c, rfl, h⟩
  · go_enter Try.func21, Try.ntmps21
    go_wp2
    go_ret
    exact ⟨rfl, rfl⟩
  · have h3 := nocol_cells h
    clear h
    go_enter Try.func21, Try.ntmps21
    go_wp2
    go_ret
    exact ⟨rfl, rfl⟩
theorem bytes_no (v : Option Addr) (w : World) (h : NoCol w v) : Calls Try.prog 22 #[.pointer v] w fun e w' => e = .returned (.slice none 0 0) ∧ w = w' := by
  rcases h with rfl | ⟨c, rfl, h⟩
  · go_enter Try.func22, Try.ntmps22
    go_wp2
    go_ret
    exact ⟨rfl, rfl⟩
  · have h3 := nocol_cells h
    clear h
    go_enter Try.func22, Try.ntmps22
    go_wp2
    go_ret
    exact ⟨rfl, rfl⟩
theorem get_no (v : Option Addr) (i : Int) (w : World) (h : NoCol w v) : Calls Try.prog 19 #[.pointer v, .int .i64 i] w fun e w' => e = .returned (.tuple #[.int .i64 0, .int .i64 1]) ∧ w = w' := by
  rcases h with rfl | ⟨c, rfl, h⟩
  · go_enter Try.func19, Try.ntmps19
    go_wp2
    go_ret2
    exact ⟨rfl, rfl⟩
  · have h3 := nocol_cells h
    clear h
    go_enter Try.func19, Try.ntmps19
    go_wp2
    go_ret2
    exact ⟨rfl, rfl⟩
theorem some_no (v : Option Addr) (i j : Int) (w : World) (h : NoCol w v) : Calls Try.prog 20 #[.pointer v, .int .i64 i, .int .i64 j] w fun e w' => e = .returned (.tuple #[.slice none 0 0, .int .i64 1]) ∧ w = w' := by
  rcases h with rfl | ⟨c, rfl, h⟩
  · go_enter Try.func20, Try.ntmps20
    go_wp2
    go_ret2
    exact ⟨rfl, rfl⟩
  · have h3 := nocol_cells h
    clear h
    go_enter Try.func20, Try.ntmps20
    go_wp2
    go_ret2
    exact ⟨rfl, rfl⟩

set_option maxHeartbeats 1000000 in
theorem none_walk (i j : Int) (w : World) : Calls Try.prog 5 #[.int .i64 i, .int .i64 j] w fun e w' => e = .returned (.bool true) ∧ Kp [] w w' := by
  go_enter Try.func5, Try.ntmps5
  go_wp2_with fail
  have hz : NoCol ((w.alloc (Obj.cells #[.slice none 0 0, .int .i64 0, .int .i64 0, .bool false] 33)).alloc (Obj.cells #[.pointer none, .pointer (some ⟨w.heap.size, 0, none⟩)] 24)) (some ⟨w.heap.size, 0, none⟩) := .inr ⟨_, rfl, cells_alloc (heap_alloc_at rfl)⟩
  have hn : NoCol ((w.alloc (Obj.cells #[.slice none 0 0, .int .i64 0, .int .i64 0, .bool false] 33)).alloc (Obj.cells #[.pointer none, .pointer (some ⟨w.heap.size, 0, none⟩)] 24)) none := .inl rfl
  have kw : Kp [] w ((w.alloc (Obj.cells #[.slice none 0 0, .int .i64 0, .int .i64 0, .bool false] 33)).alloc (Obj.cells #[.pointer none, .pointer (some ⟨w.heap.size, 0, none⟩)] 24)) := ((Kp.refl [] w).alloc _).alloc _
  have c0 : ((w.alloc (Obj.cells #[.slice none 0 0, .int .i64 0, .int .i64 0, .bool false] 33)).alloc (Obj.cells #[.pointer none, .pointer (some ⟨w.heap.size, 0, none⟩)] 24)).cell? ⟨w.heap.size + 1, 0, none⟩ = some (.pointer none) := World.cell?_alloc_at _ _ _ _ (by simp)
  have c1 : ((w.alloc (Obj.cells #[.slice none 0 0, .int .i64 0, .int .i64 0, .bool false] 33)).alloc (Obj.cells #[.pointer none, .pointer (some ⟨w.heap.size, 0, none⟩)] 24)).cell? ⟨w.heap.size + 1, 1, none⟩ = some (.pointer (some ⟨w.heap.size, 0, none⟩)) := World.cell?_alloc_at _ _ _ _ (by simp)
  generalize ((w.alloc (Obj.cells #[.slice none 0 0, .int .i64 0, .int .i64 0, .bool false] 33)).alloc (Obj.cells #[.pointer none, .pointer (some ⟨w.heap.size, 0, none⟩)] 24)) = w1 at *
  go_loop [16] (fun v => ∃ k : Nat, k ≤ 2 ∧ v = .int .i64 k) (fun v => 2 - (intOf v).toNat)
  case atStart => exact ⟨0, by omega, rfl⟩
  case round =>
    obtain ⟨k, hk, rfl⟩ := hrel
    have hk3 : k = 0 ∨ k = 1 ∨ k = 2 := by omega
    rcases hk3 with rfl | rfl | rfl
    · go_wp2_with (first
        | (go_at_call 19; refine (get_no _ _ _ hn).mono ?_; rintro e w' ⟨rfl, rfl⟩)
        | (go_at_call 20; refine (some_no _ _ _ _ hn).mono ?_; rintro e w' ⟨rfl, rfl⟩)
        | (go_at_call 21; refine (len_no _ _ hn).mono ?_; rintro e w' ⟨rfl, rfl⟩)
        | (go_at_call 15; refine (least_no _ _ hn).mono ?_; rintro e w' ⟨rfl, rfl⟩)
        | (go_at_call 16; refine (greatest_no _ _ hn).mono ?_; rintro e w' ⟨rfl, rfl⟩)
        | (go_at_call 22; refine (bytes_no _ _ hn).mono ?_; rintro e w' ⟨rfl, rfl⟩))
      go_round
      case rel => exact ⟨1, by omega, rfl⟩
      case measure => simp [intOf]
    · go_wp2_with (first
        | (go_at_call 19; refine (get_no _ _ _ hz).mono ?_; rintro e w' ⟨rfl, rfl⟩)
        | (go_at_call 20; refine (some_no _ _ _ _ hz).mono ?_; rintro e w' ⟨rfl, rfl⟩)
        | (go_at_call 21; refine (len_no _ _ hz).mono ?_; rintro e w' ⟨rfl, rfl⟩)
        | (go_at_call 15; refine (least_no _ _ hz).mono ?_; rintro e w' ⟨rfl, rfl⟩)
        | (go_at_call 16; refine (greatest_no _ _ hz).mono ?_; rintro e w' ⟨rfl, rfl⟩)
        | (go_at_call 22; refine (bytes_no _ _ hz).mono ?_; rintro e w' ⟨rfl, rfl⟩))
      go_round
      case rel => exact ⟨2, by omega, rfl⟩
      case measure => simp [intOf]
    · go_wp2_with (go_at_call 13; refine (known13 _).mono ?_; rintro e w' ⟨rfl, kp⟩)
      go_ret
      exact ⟨rfl, kw.tr kp⟩
end Go.Proofs.Ytanodmjolphpfaa
