/-
  Values: a text, read by the document.
-/
import Derived.Test.YtlcilinobdjlaaaVal11
namespace Go.Proofs.Ytlcilinobdjlaaa
open Go.RowKit
set_option linter.unusedSimpArgs false
set_option linter.unusedVariables false

set_option maxRecDepth 10000 in
set_option maxHeartbeats 1600000 in
theorem r10Read_text {L : Nat → Prop} (p : Nat) (bs : List Int) (a : Nat) (b : Bool) (v a1 : Nat) (b1 : Bool) (w : World) (h : Rdr01 w L p bs a b) (hL : ∀ x, L x → x < w.heap.size) (hv : v < 18446744073709551616)
    (hu : ∀ wx, Rdr01 wx L p bs a b → Calls Try.prog 49 #[.pointer (some ⟨p, 0, none⟩)] wx fun e w' => e = .returned (.int .u64 (v : Int)) ∧ Rdr01 w' L p bs a1 b1 ∧ Kp [p] wx w') :
    Calls Try.prog 30 #[.pointer (some ⟨p, 0, none⟩), .int .u8 2] w fun e w' => e = .returned (.tuple #[rvT bs a1 b1 v, .bool (rkT bs a1 b1 v)]) ∧ Rdr01 w' L p bs (raT bs a1 b1 v) (rbT bs a1 b1 v) ∧ Kp [p] w w' := by
  have H := Lib.hid h
  have hp := hL p h.lt
  have hbl := h.le.2
  have HL := Lib.hid hL
  have HU := Lib.hid hu
  clear h hL hu
  go_enter Try.func30, Try.ntmps30
  go_wp2_with fail
  obtain ⟨w2, hw2⟩ : ∃ w2, w2 = (w.alloc (Obj.cells #[Value.int IntKind.u8 0, Value.int IntKind.i64 0, Value.string ⟨#[]⟩] 36)).alloc (Obj.cells #[Value.int IntKind.u8 2, Value.int IntKind.i64 0, Value.string ⟨#[]⟩] 36) := ⟨_, rfl⟩
  rw [← hw2]
  have k2 : Kp [] w w2 := by rw [hw2]; exact ((Kp.refl [] w).alloc _).alloc _
  have h4 : w2.heap[w.heap.size]? = some (.cells #[.int .u8 0, .int .i64 0, .string ⟨#[]⟩] 36) := by rw [hw2]; exact cells_alloc (heap_alloc_at rfl)
  have h6 : w2.heap[w.heap.size + 1]? = some (.cells #[.int .u8 2, .int .i64 0, .string ⟨#[]⟩] 36) := by rw [hw2]; exact heap_alloc_at (by simp)
  clear hw2
  refine (HU.out _ (H.out.keep k2)).mono ?_
  rintro e w3 ⟨rfl, h3, k3⟩
  have H43 := Lib.hid (k3.get h4 (by simp; omega))
  have H63 := Lib.hid (k3.get h6 (by simp; omega))
  have HK3 := Lib.hid (k2.trans k3 (U := [p]) (by simp) (fun x hx => .inl hx))
  have H3 := Lib.hid h3
  clear k2 k3 h3 h4 h6
  by_cases hbig : (65535 : Int) < (v : Int)
  · go_wp2_with (refine wpList_store_row rfl 36 _ _ rfl w.heap.size #[.int .u8 0, .int .i64 0, .string ⟨#[]⟩] rfl rfl 36 _ H43.out (by kernel_rfl) rfl (by simp [Value.oneCell']) ?_)
    refine bodyPost_ret (v := .tuple #[zeroV, .bool false]) (results_cell_tmp Try.results30 _ _ w.heap.size 36 #[.int .u8 0, .int .i64 0, .string ⟨#[]⟩] (0, 0) _ rfl (setRow_heap _ w.heap.size _ _ _ _ H43.out) Try.underlying36 rfl (by kernel_rfl)) rfl ⟨?_, ?_, ?_⟩
    · simp only [rvT, rkT, if_pos (show 65535 < v by omega)]
    · simp only [raT, rbT, if_pos (show 65535 < v by omega)]
      exact H3.out.keepS ((Kp.refl [w.heap.size] _).setRow _ _ (.inl (by simp))) (by intro x hx hl; simp at hx; have := HL.out x hl; omega)
    · exact HK3.out.setRow _ _ (.inr (Nat.le_refl _))
  · have hw4 : IntKind.i64.wrap (v : Int) = (v : Int) := by rw [IntWalk.i64_in _ (by omega)]
    go_wp2_with fail
    refine (r01bytes_any p bs a1 b1 (v : Int) _ H3.out).mono ?_
    rintro e w4 ⟨ad4, cap4, rfl, ho4, h4, k4⟩
    have hxl : (rdS bs a1 b1 (v : Int)).length ≤ 1099511627776 := by
      unfold rdS
      split
      · simp [sub]; omega
      · simp
    obtain ⟨x, hx⟩ : ∃ x, x = rdS bs a1 b1 (v : Int) := ⟨_, rfl⟩
    obtain ⟨a2, ha2⟩ : ∃ a2, a2 = rdSA bs a1 b1 (v : Int) := ⟨_, rfl⟩
    obtain ⟨b2, hb2⟩ : ∃ b2, b2 = rdSB bs a1 b1 (v : Int) := ⟨_, rfl⟩
    rw [← hx] at ho4 hxl ⊢
    rw [← ha2, ← hb2] at h4
    obtain ⟨lx, hlx⟩ : ∃ lx, lx = x.length := ⟨_, rfl⟩
    rw [← hlx] at hxl ⊢
    have hcv := cvs w4 ad4 cap4 lx x ho4.rd hlx
    have HX := Lib.hid (And.intro hx (And.intro ha2 hb2))
    have H44 := Lib.hid (k4.get H43.out (by simp; omega))
    have h64 := k4.get H63.out (by simp; omega)
    have HK4 := Lib.hid (kp_same HK3.out k4)
    obtain ⟨y, hy⟩ : ∃ y, y = strOfNums x := ⟨_, rfl⟩
    rw [← hy] at hcv
    have HY := Lib.hid hy
    have c6 := cell_of_row w4 _ 2 _ _ _ h64
    have f6 := frozen_of_row w4 _ 2 _ _ h64
    simp only [List.getElem?_toArray, List.getElem?_cons_succ, List.getElem?_cons_zero] at c6
    have h65 := heap_setCell_same w4 (w.heap.size + 1) 2 _ 36 (.string y) h64
    have k5 := (Kp.refl [w.heap.size + 1] w4).setCell ⟨w.heap.size + 1, 2, none⟩ (.string y) (by simp)
    have h35 := h4.keepS k5 (by intro x hx hl; simp at hx; have := HL.out x hl; omega)
    have H45 := Lib.hid (k5.get H44.out (by simp))
    have HK5 := Lib.hid (HK4.out.setCell ⟨w.heap.size + 1, 2, none⟩ (.string y) (.inr (by simp)))
    obtain ⟨-, cb, -, -⟩ := h35.c2
    have H65 := Lib.hid h65
    have H35 := Lib.hid h35
    clear hx ha2 hb2 hlx ho4 h4 k4 h64 h65 k5 h35 hy H43 H63 HK3 H3 H44 HK4
    cases b2 with
    | true =>
      go_wp2_with (refine wpList_store_row rfl 36 _ _ rfl w.heap.size #[.int .u8 0, .int .i64 0, .string ⟨#[]⟩] rfl rfl 36 _ H45.out (by kernel_rfl) rfl (by simp [Value.oneCell']) ?_)
      refine bodyPost_ret (v := .tuple #[zeroV, .bool false]) (results_cell_tmp Try.results30 _ _ w.heap.size 36 #[.int .u8 0, .int .i64 0, .string ⟨#[]⟩] (0, 0) _ rfl (setRow_heap _ w.heap.size _ _ _ _ H45.out) Try.underlying36 rfl (by kernel_rfl)) rfl ⟨?_, ?_, ?_⟩
      · simp only [rvT, rkT, if_neg (show ¬ 65535 < v by omega)]; rw [← HX.out.2.2]; rfl
      · simp only [raT, rbT, if_neg (show ¬ 65535 < v by omega)]; rw [← HX.out.2.1, ← HX.out.2.2]
        exact H35.out.keepS ((Kp.refl [w.heap.size] _).setRow _ _ (.inl (by simp))) (by intro x hx hl; simp at hx; have := HL.out x hl; omega)
      · exact HK5.out.setRow _ _ (.inr (Nat.le_refl _))
    | false =>
      go_wp2_with first
        | (refine wpList_load_row rfl 36 _ rfl (w.heap.size + 1) rfl 36 #[.int .u8 2, .int .i64 0, .string y] (0, 0) _ H65.out Try.underlying36 rfl (by kernel_rfl) ?_)
        | (refine wpList_store_row rfl 36 _ _ rfl w.heap.size #[.int .u8 2, .int .i64 0, .string y] rfl rfl 36 _ H45.out (by kernel_rfl) rfl (by simp [Value.oneCell']) ?_)
      refine bodyPost_ret (v := .tuple #[.agg #[.int .u8 2, .int .i64 0, .string y], .bool true]) (results_cell_tmp Try.results30 _ _ w.heap.size 36 #[.int .u8 2, .int .i64 0, .string y] (0, 0) _ rfl (setRow_heap _ w.heap.size _ _ _ _ H45.out) Try.underlying36 rfl (by kernel_rfl)) rfl ⟨?_, ?_, ?_⟩
      · simp only [rvT, rkT, if_neg (show ¬ 65535 < v by omega)]; rw [← HX.out.2.2, ← HX.out.1, HY.out]; rfl
      · simp only [raT, rbT, if_neg (show ¬ 65535 < v by omega)]; rw [← HX.out.2.1, ← HX.out.2.2]
        exact H35.out.keepS ((Kp.refl [w.heap.size] _).setRow _ _ (.inl (by simp))) (by intro x hx hl; simp at hx; have := HL.out x hl; omega)
      · exact HK5.out.setRow _ _ (.inr (Nat.le_refl _))
end Go.Proofs.Ytlcilinobdjlaaa
