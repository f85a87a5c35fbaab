/-
  Questions: the law's known answers.
-/
import Derived.Test.YthmaobmgogmaoaaStbM
namespace Go.Proofs.Ythmaobmgogmaoaa
open Go.RowKit Go.Shelf
set_option linter.unusedSimpArgs false
set_option linter.unusedVariables false
set_option maxRecDepth 100000

theorem rdM_row {w : World} {g : Nat} {hs : List Bh} {t : TypeId} (h : w.heap[g]? = some (.cells (hs.map (fun h : Bh => Value.slice h.ad h.n h.cap)).toArray t)) (hl : hs.length ≤ 9223372036854775807) (hok : ∀ x ∈ hs, BhOk w x) : RdM w (some ⟨g, 0, none⟩) hs.length hs := by
  refine ⟨⟨Nat.le_refl _, hl, fun i hi => ⟨g, 0, rfl, fun j hj => ?_⟩⟩, hok⟩
  obtain rfl : j = 0 := by omega
  rw [cell_of_row w g _ _ _ _ h]; simp [bhcells, hi]
theorem rdF_row {w : World} {g : Nat} {l : List Bool} {t : TypeId} (h : w.heap[g]? = some (.cells (l.map Value.bool).toArray t)) (hl : l.length ≤ 9223372036854775807) : RdF w (some ⟨g, 0, none⟩) l.length l := by
  refine ⟨Nat.le_refl _, hl, fun i hi => ⟨g, 0, rfl, fun j hj => ?_⟩⟩
  obtain rfl : j = 0 := by omega
  rw [cell_of_row w g _ _ _ _ h]; simp [bocells, hi]
def bh0 : Bh := ⟨none, 0, 0, []⟩
theorem bh0_ok (w : World) : BhOk w bh0 := ⟨rfl, ⟨by simp [bh0], by show 0 ≤ _; omega, fun i hi => by simp [bh0] at hi⟩⟩
def R19 : List PR := [⟨[0, 1], 2, [⟨12, 5, 7⟩]⟩, ⟨[1, 1], 1, [⟨1, 1, 1⟩]⟩, ⟨[-1, 1], 3, [⟨13, 1, 7⟩]⟩]
def N19 : List PN := [⟨0, 0, 2, [(0, 1), (1, 2), (-1, 3)]⟩, ⟨1, 0, 1, []⟩, ⟨1, 1, 2, []⟩, ⟨1, 2, 3, []⟩]
theorem askA : askN 2 R19 N19 [[], []] [false, false] 0 = [2] := by kernel_rfl
theorem askB : askN 2 R19 N19 [[true], []] [false, false] 0 = [0] := by kernel_rfl
theorem askC : askN 2 R19 N19 [[], []] [true, false] 0 = [0, 1] := by kernel_rfl
theorem built19 (may : List (List Bool)) (by' : List Bool) : Built 2 1 R19 N19 may by' := by
  have := built_ofP (S := S19) (M := M19) (leaf := 1) (n := 3) (by decide) rfl (by decide) (by decide) may by'
  rw [of19R, of19N] at this
  exact this
/-- A question of the known tree. -/
theorem ask19 {T lf B : Nat} {ra : Option Addr} {rc : Nat} {RL : List Rc} {na : Option Addr} {nc : Nat} {NL : List Nh} (w : World) (h : TreeH T 2 1 lf B (fun _ => False) ra rc RL na nc NL w) (hR : RL.map (pr 2) = R19) (hN : NL.map pn = N19) (hlf : lf = 1)
    (ma : Option Addr) (mc : Nat) (MF : List Bh) (hM : 2 = MF.length) (hm : RdM w ma mc MF) (ba : Option Addr) (bc : Nat) (BF : List Bool) (hB : 2 = BF.length) (hb : RdF w ba bc BF) (L : List Nat) (hL : askN 2 R19 N19 (lisF MF) BF 0 = L) :
    Calls Try.prog 29 #[.pointer (some ⟨T, 0, none⟩), .slice ma 2 mc, .slice ba 2 bc] w fun e w' => ∃ la lc, e = .returned (.tuple #[.slice la L.length lc, .int .i64 0]) ∧ Own w' w.heap.size 3 .i64 la lc (nums L) ∧ Kp [] w w' := by
  subst hlf
  have := wAsk_any w h (by omega) (by omega) (by omega) ma 2 mc MF hM rfl hm ba 2 bc BF hB rfl hb (by rw [hR, hN]; exact built19 _ _)
  rw [hR, hN, hL] at this
  exact this

set_option maxHeartbeats 3200000 in
theorem known20_any (w : World) : Calls Try.prog 28 #[] w fun e w' => e = .returned (.bool true) ∧ Kp [] w w' := by
  go_enter Try.func28, Try.ntmps28
  go_wp2_with fail
  obtain ⟨w6, hw6⟩ : ∃ w6, w6 = ((((((w.alloc (Obj.cells #[Value.int IntKind.i64 0, Value.int IntKind.i64 0, Value.int IntKind.i64 1] 3)).alloc
    (Obj.cells #[Value.int IntKind.i64 1, Value.int IntKind.i64 1, Value.int IntKind.i64 1] 3)).alloc
    (Obj.cells #[Value.slice (some ⟨w.heap.size, 0, none⟩) 3 3, Value.slice (some ⟨w.heap.size + 1, 0, none⟩) 3 3] 23)).alloc
    (Obj.cells #[Value.int IntKind.i64 2, Value.int IntKind.i64 2] 3)).alloc
    (Obj.cells #[Value.int IntKind.i64 5, Value.int IntKind.i64 7, Value.int IntKind.i64 1] 2)).alloc
    (Obj.cells #[Value.slice (some ⟨w.heap.size + 1 + 1 + 1 + 1, 0, none⟩) 3 3] 32)) := ⟨_, rfl⟩
  rw [← hw6]
  have HK6 : Hid (Kp [] w w6) := Lib.hid (by rw [hw6]; exact ((((((Kp.refl [] w).alloc _).alloc _).alloc _).alloc _).alloc _).alloc _)
  have g0 : w6.heap[w.heap.size]? = some (.cells (ints .i64 [0, 0, 1]) 3) := by rw [hw6]; exact cells_alloc (cells_alloc (cells_alloc (cells_alloc (cells_alloc (heap_alloc_at rfl)))))
  have g1 : w6.heap[w.heap.size + 1]? = some (.cells (ints .i64 [1, 1, 1]) 3) := by rw [hw6]; exact cells_alloc (cells_alloc (cells_alloc (cells_alloc (heap_alloc_at (by simp)))))
  have g2 : w6.heap[w.heap.size + 1 + 1]? = some (.cells #[.slice (some ⟨w.heap.size, 0, none⟩) 3 3, .slice (some ⟨w.heap.size + 1, 0, none⟩) 3 3] 23) := by rw [hw6]; exact cells_alloc (cells_alloc (cells_alloc (heap_alloc_at (by simp))))
  have g3 : w6.heap[w.heap.size + 1 + 1 + 1]? = some (.cells (ints .i64 [2, 2]) 3) := by rw [hw6]; exact cells_alloc (cells_alloc (heap_alloc_at (by simp)))
  have g4 : w6.heap[w.heap.size + 1 + 1 + 1 + 1]? = some (.cells (ints .i64 [5, 7, 1]) 2) := by rw [hw6]; exact cells_alloc (heap_alloc_at (by simp))
  have g5 : w6.heap[w.heap.size + 1 + 1 + 1 + 1 + 1]? = some (.cells #[.slice (some ⟨w.heap.size + 1 + 1 + 1 + 1, 0, none⟩) 3 3] 32) := by rw [hw6]; exact heap_alloc_at (by simp)
  have HOF : Hid (Calls Try.prog 13 #[.slice (some ⟨w.heap.size + 1 + 1, 0, none⟩) 2 2, .slice (some ⟨w.heap.size + 1 + 1 + 1, 0, none⟩) 2 2, .slice (some ⟨w.heap.size + 1 + 1 + 1 + 1 + 1, 0, none⟩) 1 1, .int .i64 1] w6 (OfPost S19 M19 [2, 2] 1 w6)) := Lib.hid
    (stOf_any _ 2 2 [H0 w, H1 w] rfl _ 2 2 [2, 2] rfl _ 1 1 [H2 w] rfl 1 w6
      ⟨rdS_row (hs := [H0 w, H1 w]) g2 (by simp), fun x hx => by
        simp at hx
        rcases hx with rfl | rfl
        · exact ⟨rfl, (Own.row (zs := [0, 0, 1]) (Nat.le_refl _) g0 (by simp)).rd⟩
        · exact ⟨rfl, (Own.row (zs := [1, 1, 1]) (Nat.le_refl _) g1 (by simp)).rd⟩⟩
      (Own.row (zs := [2, 2]) (Nat.le_refl _) g3 (by simp)).rd
      ⟨rdS_row (hs := [H2 w]) g5 (by simp), fun x hx => by
        simp at hx
        subst hx
        exact ⟨rfl, (Own.row (zs := [5, 7, 1]) (Nat.le_refl _) g4 (by simp)).rd⟩⟩ (by simp [rowP, lis, H0]))
  clear g0 g1 g2 g3 g4 g5 hw6
  refine HOF.out.mono ?_
  rintro e w7 ⟨kp7, ⟨h1, -⟩ | ⟨-, T, lf, rfl, hlf, hT, ra, rc, RL, na, nc, NL, hTr, hEq⟩⟩
  · rw [may19] at h1; cases h1
  obtain rfl : lf = 1 := by omega
  have HR : Hid (RL.map (pr 2) = R19) := Lib.hid (by
    have := congrArg St.R hEq
    rw [of19R] at this; exact this)
  have HN : Hid (NL.map pn = N19) := Lib.hid (by
    have := congrArg St.N hEq
    rw [of19N] at this; exact this)
  have HTR : Hid (TreeH T 2 1 1 w6.heap.size (fun _ => False) ra rc RL na nc NL w7) := Lib.hid hTr
  have HK7 := Lib.hid (HK6.out.tr kp7)
  have HNILT : Hid (TreeK w7 none 0) := Lib.hid (.inl ⟨rfl, rfl⟩)
  clear kp7 hTr hEq hlf hT HOF
  go_wp2_with fail
  --A
  obtain ⟨w8, hw8⟩ : ∃ u, u = (w7.alloc (Obj.cells #[.slice none 0 0, .slice none 0 0] 63)).alloc (Obj.cells #[.bool false, .bool false] 4) := ⟨_, rfl⟩
  rw [← hw8]
  have k8 : Kp [] w7 w8 := by rw [hw8]; exact ((Kp.refl [] w7).alloc _).alloc _
  have a0 : w8.heap[w7.heap.size]? = some (.cells #[.slice none 0 0, .slice none 0 0] 63) := by rw [hw8]; exact cells_alloc (heap_alloc_at rfl)
  have a1 : w8.heap[w7.heap.size + 1]? = some (.cells #[.bool false, .bool false] 4) := by rw [hw8]; exact heap_alloc_at (by simp)
  have HA := Lib.hid (ask19 w8 (HTR.out.keep0 k8) HR.out HN.out rfl _ 2 [bh0, bh0] rfl (rdM_row (hs := [bh0, bh0]) a0 (by simp) (fun x hx => by simp at hx; subst hx; exact bh0_ok _)) _ 2 [false, false] rfl (rdF_row (l := [false, false]) a1 (by simp)) [2] askA)
  have K8 := Lib.hid k8
  clear hw8 k8 a0 a1
  refine HA.out.mono ?_
  rintro e w9 ⟨xa, xc, rfl, hxo, kp9⟩
  have HXA := Lib.hid hxo
  have HK9 := Lib.hid (K8.out.tr kp9)
  clear hxo kp9
  go_wp2_with fail
  --B
  obtain ⟨w10, hw10⟩ : ∃ u, u = ((w9.alloc (Obj.cells #[.bool true] 4)).alloc (Obj.cells #[.slice (some ⟨w9.heap.size, 0, none⟩) 1 1, .slice none 0 0] 63)).alloc (Obj.cells #[.bool false, .bool false] 4) := ⟨_, rfl⟩
  rw [← hw10]
  have k10 : Kp [] w9 w10 := by rw [hw10]; exact (((Kp.refl [] w9).alloc _).alloc _).alloc _
  have a0 : w10.heap[w9.heap.size]? = some (.cells #[.bool true] 4) := by rw [hw10]; exact cells_alloc (cells_alloc (heap_alloc_at rfl))
  have a1 : w10.heap[w9.heap.size + 1]? = some (.cells #[.slice (some ⟨w9.heap.size, 0, none⟩) 1 1, .slice none 0 0] 63) := by rw [hw10]; exact cells_alloc (heap_alloc_at (by simp))
  have a2 : w10.heap[w9.heap.size + 1 + 1]? = some (.cells #[.bool false, .bool false] 4) := by rw [hw10]; exact heap_alloc_at (by simp)
  have HB := Lib.hid (ask19 w10 (HTR.out.keep0 (HK9.out.tr k10)) HR.out HN.out rfl _ 2 [⟨some ⟨w9.heap.size, 0, none⟩, 1, 1, [true]⟩, bh0] rfl (rdM_row (hs := [⟨some ⟨w9.heap.size, 0, none⟩, 1, 1, [true]⟩, bh0]) a1 (by simp) (fun x hx => by
    simp at hx
    rcases hx with rfl | rfl
    · exact ⟨rfl, rdF_row (l := [true]) a0 (by simp)⟩
    · exact bh0_ok _)) _ 2 [false, false] rfl (rdF_row (l := [false, false]) a2 (by simp)) [0] askB)
  have K10 := Lib.hid k10
  clear hw10 k10 a0 a1 a2
  refine HB.out.mono ?_
  rintro e w11 ⟨ya, yc, rfl, hyo, kp11⟩
  have HYB := Lib.hid hyo
  have HK11 := Lib.hid (K10.out.tr kp11)
  clear hyo kp11
  go_wp2_with fail
  --C
  obtain ⟨w12, hw12⟩ : ∃ u, u = (w11.alloc (Obj.cells #[.slice none 0 0, .slice none 0 0] 63)).alloc (Obj.cells #[.bool true, .bool false] 4) := ⟨_, rfl⟩
  rw [← hw12]
  have k12 : Kp [] w11 w12 := by rw [hw12]; exact ((Kp.refl [] w11).alloc _).alloc _
  have a0 : w12.heap[w11.heap.size]? = some (.cells #[.slice none 0 0, .slice none 0 0] 63) := by rw [hw12]; exact cells_alloc (heap_alloc_at rfl)
  have a1 : w12.heap[w11.heap.size + 1]? = some (.cells #[.bool true, .bool false] 4) := by rw [hw12]; exact heap_alloc_at (by simp)
  have HC := Lib.hid (ask19 w12 (HTR.out.keep0 ((HK9.out.tr HK11.out).tr k12)) HR.out HN.out rfl _ 2 [bh0, bh0] rfl (rdM_row (hs := [bh0, bh0]) a0 (by simp) (fun x hx => by simp at hx; subst hx; exact bh0_ok _)) _ 2 [true, false] rfl (rdF_row (l := [true, false]) a1 (by simp)) [0, 1] askC)
  have K12 := Lib.hid k12
  clear hw12 k12 a0 a1
  refine HC.out.mono ?_
  rintro e w13 ⟨za, zc, rfl, hzo, kp13⟩
  have HZC := Lib.hid hzo
  have HK13 := Lib.hid (K12.out.tr kp13)
  clear hzo kp13
  have HNIL := Lib.hid (wAsk_nil (HNILT.out.keep ((HK9.out.tr HK11.out).tr HK13.out)) none 0 0 none 0 0)
  go_upto_region 5 with (fail)
  go_wp2_with fail
  refine HNIL.out.mono ?_
  rintro e w14 ⟨rfl, rfl⟩
  obtain ⟨ga, rfl, ca, -, -, -⟩ := (HXA.out.keep0 (HK11.out.tr HK13.out)).at' (i := 0) (by simp [nums])
  obtain ⟨gb, rfl, cb, -, -, -⟩ := (HYB.out.keep0 HK13.out).at' (i := 0) (by simp [nums])
  obtain ⟨gc, rfl, cc, -, -, -⟩ := HZC.out.at' (i := 1) (by simp [nums])
  have hxc := HXA.out.rd
  have hyc := HYB.out.rd
  have hzc := HZC.out.rd
  have h1 : 1 ≤ xc ∧ xc ≤ 9223372036854775807 := ⟨hxc.1, hxc.2.1⟩
  have h2 : 1 ≤ yc ∧ yc ≤ 9223372036854775807 := ⟨hyc.1, hyc.2.1⟩
  have h3 : 2 ≤ zc ∧ zc ≤ 9223372036854775807 := ⟨hzc.1, hzc.2.1⟩
  replace ca : w14.cell? ⟨ga, 0, none⟩ = some (.int .i64 2) := ca
  replace cb : w14.cell? ⟨gb, 0, none⟩ = some (.int .i64 0) := cb
  replace cc : w14.cell? ⟨gc, 1, none⟩ = some (.int .i64 1) := cc
  have HF : Hid (Kp [] w w14) := Lib.hid (((HK7.out.tr HK9.out).tr HK11.out).tr HK13.out)
  clear hxc hyc hzc
  go_wp2_with fail
  go_ret
  exact ⟨rfl, HF.out⟩
end Go.Proofs.Ythmaobmgogmaoaa
