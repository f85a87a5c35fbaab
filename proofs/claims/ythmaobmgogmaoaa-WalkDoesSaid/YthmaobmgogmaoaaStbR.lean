/-
  Questions: the law's known answers.
  Questions: the document's Great; what the laws take.
-/
import Derived.Test.YthmaobmgogmaoaaStbM
namespace Go.Proofs.Ythmaobmgogmaoaa
open Go.RowKit Go.Shelf
set_option linter.unusedSimpArgs false
set_option linter.unusedVariables false
set_option maxRecDepth 100000

theorem rdM_row {w : World} {g : Nat} {hs : List Bh} {t : TypeId} (h : w.heap[g]? = some (.cells (hs.map (fun h : Bh => Value.slice h.ad h.n h.cap)).toArray t)) (hl : hs.length ≤ 9223372036854775807) (hok : ∀ x ∈ hs, BhOk w x) : RdM w (some ⟨g, 0, none⟩) hs.length hs := by
  refine ⟨⟨Nat.le_refl _, hl, fun i hi => ⟨g, 0, rfl, fun j hj => ?_⟩⟩, hok⟩
  obtain rfl : j = 0 := by omega
  rw [cell_of_row w g _ _ _ _ h]; simp [bhcells, hi]
theorem rdF_row {w : World} {g : Nat} {l : List Bool} {t : TypeId} (h : w.heap[g]? = some (.cells (l.map Value.bool).toArray t)) (hl : l.length ≤ 9223372036854775807) : RdF w (some ⟨g, 0, none⟩) l.length l := by
  refine ⟨Nat.le_refl _, hl, fun i hi => ⟨g, 0, rfl, fun j hj => ?_⟩⟩
  obtain rfl : j = 0 := by omega
  rw [cell_of_row w g _ _ _ _ h]; simp [bocells, hi]
def bh0 : Bh := ⟨none, 0, 0, []⟩
theorem bh0_ok (w : World) : BhOk w bh0 := ⟨rfl, ⟨by simp [bh0], by show 0 ≤ _; omega, fun i hi => by simp [bh0] at hi⟩⟩
def R19 : List PR := [⟨[0, 1], 2, [⟨12, 5, 7⟩]⟩, ⟨[1, 1], 1, [⟨1, 1, 1⟩]⟩, ⟨[-1, 1], 3, [⟨13, 1, 7⟩]⟩]
def N19 : List PN := [⟨0, 0, 2, [(0, 1), (1, 2), (-1, 3)]⟩, ⟨1, 0, 1, []⟩, ⟨1, 1, 2, []⟩, ⟨1, 2, 3, []⟩]
theorem askA : askN 2 R19 N19 [[], []] [false, false] 0 = [2] := by kernel_rfl
theorem askB : askN 2 R19 N19 [[true], []] [false, false] 0 = [0] := by kernel_rfl
theorem askC : askN 2 R19 N19 [[], []] [true, false] 0 = [0, 1] := by kernel_rfl
theorem built19 (may : List (List Bool)) (by' : List Bool) : Built 2 1 R19 N19 may by' := by
  have := built_ofP (S := S19) (M := M19) (leaf := 1) (n := 3) (by decide) rfl (by decide) (by decide) may by'
  rw [of19R, of19N] at this
  exact this
/-- A question of the known tree. -/
theorem ask19 {T lf B : Nat} {ra : Option Addr} {rc : Nat} {RL : List Rc} {na : Option Addr} {nc : Nat} {NL : List Nh} (w : World) (h : TreeH T 2 1 lf B (fun _ => False) ra rc RL na nc NL w) (hR : RL.map (pr 2) = R19) (hN : NL.map pn = N19) (hlf : lf = 1)
    (ma : Option Addr) (mc : Nat) (MF : List Bh) (hM : 2 = MF.length) (hm : RdM w ma mc MF) (ba : Option Addr) (bc : Nat) (BF : List Bool) (hB : 2 = BF.length) (hb : RdF w ba bc BF) (L : List Nat) (hL : askN 2 R19 N19 (lisF MF) BF 0 = L) :
    Calls Try.prog 29 #[.pointer (some ⟨T, 0, none⟩), .slice ma 2 mc, .slice ba 2 bc] w fun e w' => ∃ la lc, e = .returned (.tuple #[.slice la L.length lc, .int .i64 0]) ∧ Own w' w.heap.size 3 .i64 la lc (nums L) ∧ Kp [] w w' := by
  subst hlf
  have := wAsk_any w h (by omega) (by omega) (by omega) ma 2 mc MF hM rfl hm ba 2 bc BF hB rfl hb (by rw [hR, hN]; exact built19 _ _)
  rw [hR, hN, hL] at this
  exact this

set_option maxHeartbeats 3200000 in
theorem known20_any (w : World) : Calls Try.prog 28 #[] w fun e w' => e = .returned (.bool true) ∧ Kp [] w w' := by
  go_enter Try.func28, Try.ntmps28
  go_wp2_with fail
  obtain ⟨w6, hw6⟩ : ∃ w6, w6 = ((((((w.alloc (Obj.cells #[Value.int IntKind.i64 0, Value.int IntKind.i64 0, Value.int IntKind.i64 1] 3)).alloc
    (Obj.cells #[Value.int IntKind.i64 1, Value.int IntKind.i64 1, Value.int IntKind.i64 1] 3)).alloc
    (Obj.cells #[Value.slice (some ⟨w.heap.size, 0, none⟩) 3 3, Value.slice (some ⟨w.heap.size + 1, 0, none⟩) 3 3] 23)).alloc
    (Obj.cells #[Value.int IntKind.i64 2, Value.int IntKind.i64 2] 3)).alloc
    (Obj.cells #[Value.int IntKind.i64 5, Value.int IntKind.i64 7, Value.int IntKind.i64 1] 2)).alloc
    (Obj.cells #[Value.slice (some ⟨w.heap.size + 1 + 1 + 1 + 1, 0, none⟩) 3 3] 32)) := ⟨_, rfl⟩
  rw [← hw6]
  have HK6 : Hid (Kp [] w w6) := Lib.hid (by rw [hw6]; exact ((((((Kp.refl [] w).alloc _).alloc _).alloc _).alloc _).alloc _).alloc _)
  have g0 : w6.heap[w.heap.size]? = some (.cells (ints .i64 [0, 0, 1]) 3) := by rw [hw6]; exact cells_alloc (cells_alloc (cells_alloc (cells_alloc (cells_alloc (heap_alloc_at rfl)))))
  have g1 : w6.heap[w.heap.size + 1]? = some (.cells (ints .i64 [1, 1, 1]) 3) := by rw [hw6]; exact cells_alloc (cells_alloc (cells_alloc (cells_alloc (heap_alloc_at (by simp)))))
  have g2 : w6.heap[w.heap.size + 1 + 1]? = some (.cells #[.slice (some ⟨w.heap.size, 0, none⟩) 3 3, .slice (some ⟨w.heap.size + 1, 0, none⟩) 3 3] 23) := by rw [hw6]; exact cells_alloc (cells_alloc (cells_alloc (heap_alloc_at (by simp))))
  have g3 : w6.heap[w.heap.size + 1 + 1 + 1]? = some (.cells (ints .i64 [2, 2]) 3) := by rw [hw6]; exact cells_alloc (cells_alloc (heap_alloc_at (by simp)))
  have g4 : w6.heap[w.heap.size + 1 + 1 + 1 + 1]? = some (.cells (ints .i64 [5, 7, 1]) 2) := by rw [hw6]; exact cells_alloc (heap_alloc_at (by simp))
  have g5 : w6.heap[w.heap.size + 1 + 1 + 1 + 1 + 1]? = some (.cells #[.slice (some ⟨w.heap.size + 1 + 1 + 1 + 1, 0, none⟩) 3 3] 32) := by rw [hw6]; exact heap_alloc_at (by simp)
  have HOF : Hid (Calls Try.prog 13 #[.slice (some ⟨w.heap.size + 1 + 1, 0, none⟩) 2 2, .slice (some ⟨w.heap.size + 1 + 1 + 1, 0, none⟩) 2 2, .slice (some ⟨w.heap.size + 1 + 1 + 1 + 1 + 1, 0, none⟩) 1 1, .int .i64 1] w6 (OfPost S19 M19 [2, 2] 1 w6)) := Lib.hid
    (stOf_any _ 2 2 [H0 w, H1 w] rfl _ 2 2 [2, 2] rfl _ 1 1 [H2 w] rfl 1 w6
      ⟨rdS_row (hs := [H0 w, H1 w]) g2 (by simp), fun x hx => by
        simp at hx
        rcases hx with rfl | rfl
        · exact ⟨rfl, (Own.row (zs := [0, 0, 1]) (Nat.le_refl _) g0 (by simp)).rd⟩
        · exact ⟨rfl, (Own.row (zs := [1, 1, 1]) (Nat.le_refl _) g1 (by simp)).rd⟩⟩
      (Own.row (zs := [2, 2]) (Nat.le_refl _) g3 (by simp)).rd
      ⟨rdS_row (hs := [H2 w]) g5 (by simp), fun x hx => by
        simp at hx
        subst hx
        exact ⟨rfl, (Own.row (zs := [5, 7, 1]) (Nat.le_refl _) g4 (by simp)).rd⟩⟩ (by simp [rowP, lis, H0]))
  clear g0 g1 g2 g3 g4 g5 hw6
  refine HOF.out.mono ?_
  rintro e w7 ⟨kp7, ⟨h1, -⟩ | ⟨-, T, lf, rfl, hlf, hT, ra, rc, RL, na, nc, NL, hTr, hEq⟩⟩
  · rw [may19] at h1; cases h1
  obtain rfl : lf = 1 := by omega
  have HR : Hid (RL.map (pr 2) = R19) := Lib.hid (by
    have := congrArg St.R hEq
    rw [of19R] at this; exact this)
  have HN : Hid (NL.map pn = N19) := Lib.hid (by
    have := congrArg St.N hEq
    rw [of19N] at this; exact this)
  have HTR : Hid (TreeH T 2 1 1 w6.heap.size (fun _ => False) ra rc RL na nc NL w7) := Lib.hid hTr
  have HK7 := Lib.hid (HK6.out.tr kp7)
  have HNILT : Hid (TreeK w7 none 0) := Lib.hid (.inl ⟨rfl, rfl⟩)
  clear kp7 hTr hEq hlf hT HOF
  go_wp2_with fail
  --A
  obtain ⟨w8, hw8⟩ : ∃ u, u = (w7.alloc (Obj.cells #[.slice none 0 0, .slice none 0 0] 63)).alloc (Obj.cells #[.bool false, .bool false] 4) := ⟨_, rfl⟩
  rw [← hw8]
  have k8 : Kp [] w7 w8 := by rw [hw8]; exact ((Kp.refl [] w7).alloc _).alloc _
  have a0 : w8.heap[w7.heap.size]? = some (.cells #[.slice none 0 0, .slice none 0 0] 63) := by rw [hw8]; exact cells_alloc (heap_alloc_at rfl)
  have a1 : w8.heap[w7.heap.size + 1]? = some (.cells #[.bool false, .bool false] 4) := by rw [hw8]; exact heap_alloc_at (by simp)
  have HA := Lib.hid (ask19 w8 (HTR.out.keep0 k8) HR.out HN.out rfl _ 2 [bh0, bh0] rfl (rdM_row (hs := [bh0, bh0]) a0 (by simp) (fun x hx => by simp at hx; subst hx; exact bh0_ok _)) _ 2 [false, false] rfl (rdF_row (l := [false, false]) a1 (by simp)) [2] askA)
  have K8 := Lib.hid k8
  clear hw8 k8 a0 a1
  refine HA.out.mono ?_
  rintro e w9 ⟨xa, xc, rfl, hxo, kp9⟩
  have HXA := Lib.hid hxo
  have HK9 := Lib.hid (K8.out.tr kp9)
  clear hxo kp9
  go_wp2_with fail
  --B
  obtain ⟨w10, hw10⟩ : ∃ u, u = ((w9.alloc (Obj.cells #[.bool true] 4)).alloc (Obj.cells #[.slice (some ⟨w9.heap.size, 0, none⟩) 1 1, .slice none 0 0] 63)).alloc (Obj.cells #[.bool false, .bool false] 4) := ⟨_, rfl⟩
  rw [← hw10]
  have k10 : Kp [] w9 w10 := by rw [hw10]; exact (((Kp.refl [] w9).alloc _).alloc _).alloc _
  have a0 : w10.heap[w9.heap.size]? = some (.cells #[.bool true] 4) := by rw [hw10]; exact cells_alloc (cells_alloc (heap_alloc_at rfl))
  have a1 : w10.heap[w9.heap.size + 1]? = some (.cells #[.slice (some ⟨w9.heap.size, 0, none⟩) 1 1, .slice none 0 0] 63) := by rw [hw10]; exact cells_alloc (heap_alloc_at (by simp))
  have a2 : w10.heap[w9.heap.size + 1 + 1]? = some (.cells #[.bool false, .bool false] 4) := by rw [hw10]; exact heap_alloc_at (by simp)
  have HB := Lib.hid (ask19 w10 (HTR.out.keep0 (HK9.out.tr k10)) HR.out HN.out rfl _ 2 [⟨some ⟨w9.heap.size, 0, none⟩, 1, 1, [true]⟩, bh0] rfl (rdM_row (hs := [⟨some ⟨w9.heap.size, 0, none⟩, 1, 1, [true]⟩, bh0]) a1 (by simp) (fun x hx => by
    simp at hx
    rcases hx with rfl | rfl
    · exact ⟨rfl, rdF_row (l := [true]) a0 (by simp)⟩
    · exact bh0_ok _)) _ 2 [false, false] rfl (rdF_row (l := [false, false]) a2 (by simp)) [0] askB)
  have K10 := Lib.hid k10
  clear hw10 k10 a0 a1 a2
  refine HB.out.mono ?_
  rintro e w11 ⟨ya, yc, rfl, hyo, kp11⟩
  have HYB := Lib.hid hyo
  have HK11 := Lib.hid (K10.out.tr kp11)
  clear hyo kp11
  go_wp2_with fail
  --C
  obtain ⟨w12, hw12⟩ : ∃ u, u = (w11.alloc (Obj.cells #[.slice none 0 0, .slice none 0 0] 63)).alloc (Obj.cells #[.bool true, .bool false] 4) := ⟨_, rfl⟩
  rw [← hw12]
  have k12 : Kp [] w11 w12 := by rw [hw12]; exact ((Kp.refl [] w11).alloc _).alloc _
  have a0 : w12.heap[w11.heap.size]? = some (.cells #[.slice none 0 0, .slice none 0 0] 63) := by rw [hw12]; exact cells_alloc (heap_alloc_at rfl)
  have a1 : w12.heap[w11.heap.size + 1]? = some (.cells #[.bool true, .bool false] 4) := by rw [hw12]; exact heap_alloc_at (by simp)
  have HC := Lib.hid (ask19 w12 (HTR.out.keep0 ((HK9.out.tr HK11.out).tr k12)) HR.out HN.out rfl _ 2 [bh0, bh0] rfl (rdM_row (hs := [bh0, bh0]) a0 (by simp) (fun x hx => by simp at hx; subst hx; exact bh0_ok _)) _ 2 [true, false] rfl (rdF_row (l := [true, false]) a1 (by simp)) [0, 1] askC)
  have K12 := Lib.hid k12
  clear hw12 k12 a0 a1
  refine HC.out.mono ?_
  rintro e w13 ⟨za, zc, rfl, hzo, kp13⟩
  have HZC := Lib.hid hzo
  have HK13 := Lib.hid (K12.out.tr kp13)
  clear hzo kp13
  have HNIL := Lib.hid (wAsk_nil (HNILT.out.keep ((HK9.out.tr HK11.out).tr HK13.out)) none 0 0 none 0 0)
  go_upto_region 5 with (fail)
  go_wp2_with fail
  refine HNIL.out.mono ?_
  rintro e w14 ⟨rfl, rfl⟩
  obtain ⟨ga, rfl, ca, -, -, -⟩ := (HXA.out.keep0 (HK11.out.tr HK13.out)).at' (i := 0) (by simp [nums])
  obtain ⟨gb, rfl, cb, -, -, -⟩ := (HYB.out.keep0 HK13.out).at' (i := 0) (by simp [nums])
  obtain ⟨gc, rfl, cc, -, -, -⟩ := HZC.out.at' (i := 1) (by simp [nums])
  have hxc := HXA.out.rd
  have hyc := HYB.out.rd
  have hzc := HZC.out.rd
  have h1 : 1 ≤ xc ∧ xc ≤ 9223372036854775807 := ⟨hxc.1, hxc.2.1⟩
  have h2 : 1 ≤ yc ∧ yc ≤ 9223372036854775807 := ⟨hyc.1, hyc.2.1⟩
  have h3 : 2 ≤ zc ∧ zc ≤ 9223372036854775807 := ⟨hzc.1, hzc.2.1⟩
  replace ca : w14.cell? ⟨ga, 0, none⟩ = some (.int .i64 2) := ca
  replace cb : w14.cell? ⟨gb, 0, none⟩ = some (.int .i64 0) := cb
  replace cc : w14.cell? ⟨gc, 1, none⟩ = some (.int .i64 1) := cc
  have HF : Hid (Kp [] w w14) := Lib.hid (((HK7.out.tr HK9.out).tr HK11.out).tr HK13.out)
  clear hxc hyc hzc
  go_wp2_with fail
  go_ret
  exact ⟨rfl, HF.out⟩
end Go.Proofs.Ythmaobmgogmaoaa
namespace Go.Proofs.Ythmaobmgogmaoaa
open Go.RowKit Go.Shelf
set_option linter.unusedSimpArgs false
set_option linter.unusedVariables false
set_option maxRecDepth 100000

def cntM (M : Nat) (L : List Nat) : List Int := (List.range M).map fun j => (L.count j : Int)
theorem cntM_len (M : Nat) (L : List Nat) : (cntM M L).length = M := by simp [cntM]
theorem cntM_nth {M j : Nat} (L : List Nat) (h : j < M) : nth (cntM M L) j = (L.count j : Int) := by simp [cntM, nth, h]
theorem cntM_nil (M : Nat) : cntM M [] = List.replicate M 0 := by
  refine List.ext_getElem (by simp [cntM]) fun i h1 h2 => ?_
  simp [cntM]
theorem cntM_set {M c : Nat} (L : List Nat) (h : c < M) : (cntM M L).set c ((L.count c : Int) + 1) = cntM M (L ++ [c]) := by
  refine List.ext_getElem (by simp [cntM]) fun i h1 h2 => ?_
  rw [List.length_set, cntM_len] at h1
  rw [List.getElem_set]
  by_cases e : c = i
  · subst e
    rw [if_pos rfl]
    simp [cntM, List.count_append]
  · rw [if_neg e]
    have e2 : (c == i) = false := by simpa using e
    simp only [cntM, List.getElem_map, List.getElem_range, List.count_append, List.count_singleton, e2]
    simp
def longF (n : Nat) (l : List Bool) : Bool := decide (n < l.length)
def great20 (may : List (List Bool)) (bn : Nat) : Bool := may.any (longF 100) || (decide (10 < may.length) || decide (10 < bn))
theorem lisF_get (S : List Bh) {j : Nat} (h : j < S.length) : (lisF S)[j]? = some (rowF (lisF S) j) := by
  rw [rowF_lis S j h]; simp [lisF, h]
theorem r20Great_any (ma : Option Addr) (mn mc : Nat) (MF : List Bh) (hM : mn = MF.length) (ba : Option Addr) (bn bc : Nat) (w : World) (hm : RdM w ma mc MF) :
    Calls Try.prog 27 #[.slice ma mn mc, .slice ba bn bc] w fun e w' => e = .returned (.bool (great20 (lisF MF) bn)) ∧ w' = w := by
  have HM := Lib.hid hm
  have HMN := Lib.hid hM
  have hc1 : mn ≤ mc := by rw [hM]; exact hm.1.1
  have hc2 := hm.1.2.1
  have HV : Hid (great20 (lisF MF) bn = ((lisF MF).any (longF 100) || (decide (10 < mn) || decide (10 < bn)))) := Lib.hid (by
    unfold great20; rw [hM]; simp [lisF])
  clear hm hM
  generalize great20 (lisF MF) bn = v at *
  go_enter Try.func27, Try.ntmps27
  go_wp2_with fail
  go_loopw [5] (fun vj wr => ∃ j : Nat, j ≤ mn ∧ vj = .int .i64 j ∧ Hid (((lisF MF).take j).any (longF 100) = false) ∧ wr = w) (fun vj _ => mn - (intOf vj).toNat)
  case atStart => exact ⟨0, Nat.zero_le _, rfl, Lib.hid (by simp), rfl⟩
  case round =>
    obtain ⟨j, hj, rfl, HA, rfl⟩ := hrel
    by_cases hlt : j < mn
    · have hjS : j < MF.length := by rw [← HMN.out]; exact hlt
      obtain ⟨b', off', xa, xn, xc, rfl, d0, hxn, hxr⟩ := HM.out.at' j hjS
      have HG := Lib.hid (lisF_get MF hjS)
      have hxc : xn ≤ xc := by rw [hxn]; exact hxr.1
      have hxc2 := hxr.2.1
      have HX : Hid (longF 100 (rowF (lisF MF) j) = decide (100 < xn)) := Lib.hid (by unfold longF; rw [← hxn])
      clear hxn hxr hjS
      by_cases h1 : (100 : Int) < (xn : Int)
      · have HF : Hid (v = true) := Lib.hid (by rw [HV.out, any_hit HG.out (by rw [HX.out]; exact decide_eq_true (by omega))]; rfl)
        go_wp2_with fail
        go_ret
        exact ⟨by rw [HF.out]; rfl, rfl⟩
      · have HN := Lib.hid (any_step HG.out HA.out (by rw [HX.out]; exact decide_eq_false (by omega)))
        go_wp2_with fail
        go_roundw
        case rel => exact ⟨j + 1, hlt, by go_num, HN, trivial⟩
        case measure => simp [intOf]; omega
    · obtain rfl : j = mn := by omega
      have HV3 : Hid (v = (decide (10 < j) || decide (10 < bn))) := Lib.hid (by
        have := HA.out
        rw [List.take_of_length_le (by rw [HMN.out]; simp [lisF])] at this
        rw [HV.out, this]; rfl)
      by_cases h1 : (10 : Int) < (j : Int)
      · have HF : Hid (v = true) := Lib.hid (by rw [HV3.out, decide_eq_true (by omega)]; rfl)
        go_wp2_with fail
        go_ret
        exact ⟨by rw [HF.out]; rfl, rfl⟩
      · by_cases h2 : (10 : Int) < (bn : Int)
        · have HF : Hid (v = true) := Lib.hid (by rw [HV3.out, decide_eq_true (p := 10 < bn) (by omega)]; simp)
          go_wp2_with fail
          go_ret
          exact ⟨by rw [HF.out]; rfl, rfl⟩
        · have HF : Hid (v = false) := Lib.hid (by rw [HV3.out, decide_eq_false (by omega), decide_eq_false (by omega)]; rfl)
          go_wp2_with fail
          go_ret
          exact ⟨by rw [HF.out]; rfl, rfl⟩

theorem ralies : Lies racells 5 := ⟨fun _ => rfl, fun x v hv => by simp [racells] at hv; rcases hv with rfl | rfl | rfl | rfl | rfl <;> rfl, by omega⟩
theorem infoRecA : (Try.prog.info? 34).map (fun i => (i.zero, i.size, i.bytes)) = some (some (.agg #[.slice none 0 0, .int .i64 0, .slice none 0 0, .slice none 0 0, .slice none 0 0]), 5, 104) := by kernel_rfl
theorem RaOwn.keep {w w' : World} {B : Nat} {x : Ra} (h : RaOwn w B x) {S : List Nat} (k : Kp S w w') (hS : ∀ b ∈ S, b < B ∨ ∃ cs fr, w.heap[b]? = some (.cells cs 34 fr)) : RaOwn w' B x := by
  have hne : ∀ {e : TypeId} {ad : Option Addr} {cap : Nat} {l : List Int}, Own w B e .i64 ad cap l → e ≠ 34 → ∀ b, b ∈ ob ad cap → b ∉ S := fun ho hn b hb hb2 => by
    rcases hS b hb2 with h1 | ⟨cs, fr, h1⟩
    · have := (ho.ob_ge b hb).1; omega
    · exact ownI_ne ho h1 hn hb
  exact ⟨h.1.keep k (hne h.1 (by decide)), h.2.1.keep k (hne h.2.1 (by decide)), h.2.2.1.keep k (hne h.2.2.1 (by decide)), h.2.2.2.keep k (hne h.2.2.2 (by decide))⟩
theorem RaOwn.keep0 {w w' : World} {B : Nat} {x : Ra} (h : RaOwn w B x) (k : Kp [] w w') : RaOwn w' B x := h.keep k (by simp)
theorem RaOwn.mono {w : World} {B B' : Nat} {x : Ra} (h : RaOwn w B x) (hb : B' ≤ B) : RaOwn w B' x := ⟨h.1.mono hb, h.2.1.mono hb, h.2.2.1.mono hb, h.2.2.2.mono hb⟩
/-- Records that have been taken. -/
structure TakenI (B : Nat) (oa : Option Addr) (oc : Nat) (XS : List Ra) (w : World) : Prop where
  own : OwnS racells 5 w B 34 oa oc XS
  rec' : ∀ x ∈ XS, RaOwn w B x
theorem own_rows {α : Type} {f : α → List Value} {sz : Nat} {w : World} {B : Nat} {e : TypeId} {ad : Option Addr} {cap : Nat} {l : List α} (h : OwnS f sz w B e ad cap l) : ∀ b ∈ ob ad cap, ∃ cs fr, w.heap[b]? = some (.cells cs e fr) := by
  intro b hb
  rcases h with ⟨h, -⟩ | ⟨q, cur, rfl, -, h2, -⟩
  · simp [ob, h] at hb
  · unfold ob at hb
    split at hb
    · simp at hb
    · simp at hb; subst hb; exact ⟨cur, _, h2⟩
theorem TakenI.keep {B : Nat} {oa : Option Addr} {oc : Nat} {XS : List Ra} {w w' : World} (h : TakenI B oa oc XS w) {S : List Nat} (k : Kp S w w') (hS : ∀ b ∈ S, b < B) : TakenI B oa oc XS w' :=
  ⟨h.own.keep k (fun b hb hb2 => by have := (h.own.ob_ge b hb).1; have := hS b hb2; omega), fun x hx => (h.rec' x hx).keep k (fun b hb => .inl (hS b hb))⟩
theorem TakenI.snoc {B : Nat} {oa oa' : Option Addr} {oc oc' : Nat} {XS : List Ra} {x : Ra} {w w' : World} (h : TakenI B oa oc XS w) (hx : RaOwn w B x) (ho : OwnS racells 5 w' B 34 oa' oc' (XS ++ [x])) (k : Kp (ob oa oc) w w') : TakenI B oa' oc' (XS ++ [x]) w' := by
  refine ⟨ho, fun y hy => ?_⟩
  have hS : ∀ b ∈ ob oa oc, b < B ∨ ∃ cs fr, w.heap[b]? = some (.cells cs 34 fr) := fun b hb => .inr (own_rows h.own b hb)
  rcases List.mem_append.1 hy with hy | hy
  · exact (h.rec' y hy).keep k hS
  · simp at hy; subst hy; exact hx.keep k hS

theorem ownY_apart {α : Type} {f : α → List Value} {sz : Nat} {w : World} {B B' : Nat} {e e' : TypeId} {k : IntKind} {ad ad' : Option Addr} {cap cap' : Nat} {zs : List Int} {l' : List α} (h : Own w B e k ad cap zs) (h' : OwnS f sz w B' e' ad' cap' l') (hne : e ≠ e') : ∀ b, b ∈ ob ad cap → b ∉ ob ad' cap' := by
  intro b hb hb'
  obtain ⟨cs, fr, h1⟩ := own_rows h' b hb'
  exact ownI_ne h h1 hne hb

theorem Own.keepX {α : Type} {f : α → List Value} {sz : Nat} {w w' : World} {B B' : Nat} {e e' : TypeId} {k : IntKind} {ad ad' : Option Addr} {cap cap' : Nat} {zs : List Int} {l' : List α} (h : Own w B e k ad cap zs) (h' : OwnS f sz w B' e' ad' cap' l') (hne : Hid (e ≠ e')) (kp : Kp (ob ad' cap') w w') : Own w' B e k ad cap zs :=
  h.keep kp (ownY_apart h h' hne.out)

set_option maxHeartbeats 6400000 in
theorem taken20_any {T k mt leaf B : Nat} {X : Nat → Prop} {ra : Option Addr} {rc : Nat} {RL : List Rc} {na : Option Addr} {nc : Nat} {NL : List Nh} (w : World) (h : TreeH T k mt leaf B X ra rc RL na nc NL w) (hk : 1 ≤ k) (hk8 : k ≤ 8) (hmt : mt ≤ 1000)
    (ma : Option Addr) (mn mc : Nat) (MF : List Bh) (hM : mn = MF.length) (hmk : mn = k) (hm : RdM w ma mc MF) (ba : Option Addr) (bn bc : Nat) (BF : List Bool) (hB : bn = BF.length) (hbk : bn = k) (hb : RdF w ba bc BF) (hbt : Built k leaf (RL.map (pr k)) (NL.map pn) (lisF MF) BF)
    (hnd : (askN k (RL.map (pr k)) (NL.map pn) (lisF MF) BF 0).Nodup) (hlt : ∀ i ∈ askN k (RL.map (pr k)) (NL.map pn) (lisF MF) BF 0, i < RL.length) :
    Calls Try.prog 31 #[.pointer (some ⟨T, 0, none⟩), .slice ma mn mc, .slice ba bn bc] w fun e w' => ∃ oa oc XS, e = .returned (.tuple #[.slice oa (askN k (RL.map (pr k)) (NL.map pn) (lisF MF) BF 0).length oc, .bool true]) ∧
      XS.map Ra.pr = (askN k (RL.map (pr k)) (NL.map pn) (lisF MF) BF 0).map (recAt (RL.map (pr k))) ∧ TakenI w.heap.size oa oc XS w' ∧ Kp [] w w' := by
  have HAK := Lib.hid (wAsk_any w h hk hk8 hmt ma mn mc MF hM hmk hm ba bn bc BF hB hbk hb hbt)
  have hfew := hbt.few
  have hRb := hbt.rb
  obtain ⟨R, hR⟩ : ∃ R, R = RL.map (pr k) := ⟨_, rfl⟩
  rw [← hR] at HAK hnd hlt hfew hRb ⊢
  obtain ⟨L, hL⟩ : ∃ L, L = askN k R (NL.map pn) (lisF MF) BF 0 := ⟨_, rfl⟩
  rw [← hL] at HAK hnd hlt hfew ⊢
  obtain ⟨ln, hln⟩ : ∃ ln, ln = L.length := ⟨_, rfl⟩
  rw [← hln] at HAK hfew ⊢
  obtain ⟨rl, hrl⟩ : ∃ rl, rl = RL.length := ⟨_, rfl⟩
  have HRL : Hid (R.length = rl) := Lib.hid (by rw [hR, List.length_map, hrl])
  rw [HRL.out] at hRb
  have HRLE := Lib.hid hrl
  have HREQ := Lib.hid hR
  have H := Lib.hid h
  have HLN := Lib.hid hln
  have HND := Lib.hid hnd
  have HLT : Hid (∀ i ∈ L, i < rl) := Lib.hid (by rw [hrl]; exact hlt)
  clear h hR hL hln hnd hlt hrl hbt hm hb hM hB hmk hbk
  go_enter Try.func31, Try.ntmps31
  go_wp2_with fail
  refine HAK.out.mono ?_
  rintro e w2 ⟨la, lc, rfl, hlo, kp2⟩
  have HLO := Lib.hid hlo
  have K2 := Lib.hid kp2
  have HLC : Hid (ln ≤ lc ∧ lc ≤ 9223372036854775807) := Lib.hid (by
    have := hlo.rd
    exact ⟨by rw [HLN.out, ← nums_len]; exact this.1, this.2.1⟩)
  clear hlo kp2 HAK
  go_wp2_with fail
  refine (stRecords_any (H.out.keep0 K2.out) hk).mono ?_
  rintro e w3 ⟨rfl, rfl⟩
  rw [← HRLE.out]
  have hmk : ∀ wx : World, _ := fun wx => make_ints (P := Try.prog) wx 23 3 .i64 .i64 .i64 rl 8 Try.underlying23 infoInt (by omega) (by omega)
  go_upto_region 5 with (fail)
  obtain ⟨P, hP⟩ : ∃ P, P = w3.heap.size := ⟨_, rfl⟩
  obtain ⟨w4, hw4⟩ : ∃ w4, w4 = w3.alloc (Obj.cells (ints .i64 (List.replicate rl 0)) 3) := ⟨_, rfl⟩
  rw [← hw4, ← hP]
  have k4 : Kp [] w3 w4 := by rw [hw4]; exact (Kp.refl [] w3).alloc _
  have HOW : Hid (Own w4 w3.heap.size 3 .i64 (some ⟨P, 0, none⟩) rl (cntM rl (L.take 0))) := Lib.hid (by
    rw [List.take_zero, cntM_nil]
    have := Own.row (w := w4) (base := w3.heap.size) (e := 3) (k := .i64) (g := P) (zs := List.replicate rl 0) (by rw [hP]; exact Nat.le_refl _) (by rw [hw4]; exact heap_alloc_at hP) (by simp; omega)
    simpa using this)
  have HPW : Hid (w3.heap.size ≤ P ∧ P < w4.heap.size) := Lib.hid ⟨by rw [hP]; exact Nat.le_refl _, by rw [hP, hw4]; simp⟩
  have HLP : Hid (P ∉ ob la lc) := Lib.hid (fun hb => by have := (HLO.out.ob_ge P hb).2; omega)
  have K4 := Lib.hid k4
  clear hmk hw4 hP k4
  go_wp2_with fail
  go_loopw [11, 30] (fun vo vi wr => ∃ (i : Nat) (oa : Option Addr) (oc : Nat) (XS : List Ra), i ≤ ln ∧ vi = .int .i64 i ∧ vo = .slice oa i oc ∧ Hid (i = XS.length) ∧ Hid (XS.map Ra.pr = (L.take i).map (recAt R)) ∧ Hid (TakenI w4.heap.size oa oc XS wr) ∧ Hid (Own wr w3.heap.size 3 .i64 (some ⟨P, 0, none⟩) rl (cntM rl (L.take i))) ∧ Hid (Kp [P] w4 wr)) (fun _ vi _ => ln - (intOf vi).toNat)
  case atStart => exact ⟨0, none, 0, [], Nat.zero_le _, rfl, rfl, Lib.hid rfl, Lib.hid rfl, Lib.hid ⟨OwnS.nil _ _ _ _ _, by simp⟩, HOW, Lib.hid (Kp.refl _ _)⟩
  case round =>
    obtain ⟨i, oa, oc, XS, hi, rfl, rfl, HXL, HXE, HTK, HO, HK⟩ := hrel
    obtain ⟨wo, rfl⟩ : ∃ wo : World, wo = wr := ⟨_, rfl⟩
    have HK3 : Hid (Kp [] w3 wo) := Lib.hid (K4.out.trans HK.out (by simp) (fun b hb => by simp at hb; subst hb; exact .inr HPW.out.1))
    by_cases hlt : i < ln
    · have hil : i < L.length := by rw [← HLN.out]; exact hlt
      have HLOW : Hid (Own wo w.heap.size 3 .i64 la lc (nums L)) := Lib.hid ((HLO.out.keep0 K4.out).keep HK.out (fun b hb hb2 => by simp at hb2; subst hb2; exact HLP.out hb))
      obtain ⟨gl, rfl, cl, -, -, -⟩ := HLOW.out.at' (i := i) (by rw [nums_len]; exact hil)
      rw [nums_nth hil] at cl
      have hlc := HLC.out.1
      have hlc2 := HLC.out.2
      have HTS : Hid (L.take (i + 1) = L.take i ++ [L[i]]) := Lib.hid (List.take_succ_eq_append_getElem hil)
      have hcz : (L.take i).count L[i] = 0 := by
        rw [List.count_eq_zero]
        intro hm
        obtain ⟨j, hj, e⟩ := List.getElem_of_mem hm
        rw [List.length_take] at hj
        rw [List.getElem_take] at e
        have := (List.pairwise_iff_getElem.1 HND.out) j i (by omega) hil (by omega)
        exact this e
      have hnr : L[i] < rl := HLT.out _ (List.getElem_mem hil)
      obtain ⟨n, hn⟩ : ∃ n, n = L[i] := ⟨_, rfl⟩
      rw [← hn] at cl HTS hcz hnr
      obtain ⟨r, hr⟩ : ∃ r, R[n]? = some r := ⟨_, List.getElem?_eq_getElem (by rw [HRL.out]; exact hnr)⟩
      have HREC := Lib.hid (recAt_get hr)
      have HRC := Lib.hid (stRecord_at wo ((H.out.keep0 K2.out).keep0 HK3.out) hk hk8 hmt n (by rw [← HREQ.out]; exact hr))
      have HCZ := Lib.hid hcz
      clear hr hn hil hcz
      go_wp2_with fail
      refine HRC.out.mono ?_
      rintro e w11 ⟨x, rfl, hx, hox, kpw11⟩
      have HXP := Lib.hid hx
      unfold raV
      go_upto_region 10 with (refine wpList_store_row rfl 34 _ _ rfl w11.heap.size #[.slice x.ia x.ids.length x.ic, .int .i64 x.cnt, .slice x.sa x.ms.length x.sc, .slice x.la x.ms.length x.lc, .slice x.ga x.ms.length x.gc] rfl rfl 34 _ (heap_alloc_at rfl) (by kernel_rfl) rfl (by simp [Value.oneCell']) ?_)
      obtain ⟨q, hq⟩ : ∃ q, q = w11.heap.size := ⟨_, rfl⟩
      generalize hz : (w11.alloc (Obj.cells _ _)).setRow _ _ = w12
      rw [← hq] at hz ⊢
      have hrp : w12.heap[q]? = some (.cells #[.slice x.ia x.ids.length x.ic, .int .i64 x.cnt, .slice x.sa x.ms.length x.sc, .slice x.la x.ms.length x.lc, .slice x.ga x.ms.length x.gc] 34) := by rw [← hz]; exact setRow_heap _ q _ _ _ _ (heap_alloc_at hq)
      have kp : Kp [] w11 w12 := by rw [← hz]; exact ((Kp.refl [] w11).alloc _).setRowF _ _ (.inr (by omega))
      have HRP := Lib.hid hrp
      have KW := Lib.hid (kpw11.tr kp)
      have HRX := Lib.hid ((hox.keep0 kp).mono HK.out.size)
      have HO12 := Lib.hid (HO.out.keep0 KW.out)
      have HTK12 := Lib.hid (HTK.out.keep KW.out (by simp))
      have HK12 : Hid (Kp [P] w4 w12) := Lib.hid (HK.out.trans KW.out (U := [P]) (fun _ h => .inl h) (by simp))
      have HQP : Hid (q ∉ [P]) := Lib.hid (by
        have h1 := HPW.out.2
        have h2 := HK.out.size
        have h3 := kpw11.size
        simp; omega)
      clear hz hrp kp kpw11 hx hox hq HRC cl
      obtain ⟨gP, hgP, cP, fP, -, -⟩ := HO12.out.at' (i := n) (by rw [cntM_len]; exact hnr)
      cases hgP
      rw [cntM_nth _ hnr, HCZ.out] at cP
      replace cP : w12.cell? ⟨P, n, none⟩ = some (.int .i64 0) := cP
      have HO13 : Hid (Own (w12.setCell ⟨P, n, none⟩ (.int .i64 1)) w3.heap.size 3 .i64 (some ⟨P, 0, none⟩) rl (cntM rl (L.take (i + 1)))) := Lib.hid (by
        have h1 := HO12.out.set n 1
        have h2 := cntM_set (M := rl) (L.take i) hnr
        rw [HCZ.out] at h2
        rw [HTS.out, ← h2]
        exact h1)
      have k13 : Kp [P] w12 (w12.setCell ⟨P, n, none⟩ (.int .i64 1)) := (Kp.refl [P] w12).setCell _ _ (by simp)
      have HRP13 : Hid ((w12.setCell ⟨P, n, none⟩ (.int .i64 1)).heap[q]? = some (.cells #[.slice x.ia x.ids.length x.ic, .int .i64 x.cnt, .slice x.sa x.ms.length x.sc, .slice x.la x.ms.length x.lc, .slice x.ga x.ms.length x.gc] 34)) := Lib.hid (k13.get HRP.out HQP.out)
      have K13 := Lib.hid k13
      clear k13
      go_upto_region 13 with (fail)
      generalize w12.setCell ⟨P, n, none⟩ (.int .i64 1) = w13 at *
      have HTK13 := Lib.hid (HTK12.out.keep K13.out (fun b hb => by simp at hb; subst hb; exact HPW.out.2))
      have HRX13 := Lib.hid (HRX.out.keep K13.out (fun b hb => by simp at hb; subst hb; exact .inl HPW.out.2))
      have HK13 : Hid (Kp [P] w4 w13) := Lib.hid (HK12.out.trans K13.out (U := [P]) (fun _ h => .inl h) (fun _ h => .inl h))
      have HSZ : Hid (w4.heap.size ≤ w13.heap.size) := Lib.hid HK13.out.size
      have HNIR : Hid ((3 : TypeId) ≠ 34) := Lib.hid (by decide)
      clear cP fP
      go_wp2_with first
        | (refine wpList_load_row rfl 34 _ rfl q rfl 34 #[.slice x.ia x.ids.length x.ic, .int .i64 x.cnt, .slice x.sa x.ms.length x.sc, .slice x.la x.ms.length x.lc, .slice x.ga x.ms.length x.gc] (0, 0) _ HRP13.out Try.underlying34 rfl (by kernel_rfl) ?_)
        | (at_builtin; refine wpList_appS ralies rfl (.tmp 55) (.tmp 57) 50 50 rfl w4.heap.size 34 (.agg #[.slice none 0 0, .int .i64 0, .slice none 0 0, .slice none 0 0, .slice none 0 0]) 104 Try.underlying50 infoRecA rfl oa oc i XS HXL.out [x] _ 1 rfl rfl rfl (HTK13.out.own.alloc _) (src_oneS ralies Try.underlying50 (heap_alloc_at rfl)) (by omega) (by omega) (by have := HSZ.out; simp only [World.size_alloc]; omega) ?_; intro oa1 oc1 w14 ho14 kp14 _ _; have HTK14 := Lib.hid ((HTK13.out.keep ((Kp.refl [] w13).alloc _) (by simp)).snoc (HRX13.out.keep0 ((Kp.refl [] w13).alloc _)) ho14 kp14); have HO14 : Hid (Own w14 w3.heap.size 3 .i64 (some ⟨P, 0, none⟩) rl (cntM rl (L.take (i + 1)))) := Lib.hid ((HO13.out.alloc _).keepX (HTK13.out.own.alloc _) HNIR kp14); have HK14 : Hid (Kp [P] w4 w14) := Lib.hid ((HK13.out.alloc _).trans kp14 (U := [P]) (fun _ h => .inl h) (fun b hb => .inr (HTK13.out.own.ob_ge b hb).1)); clear ho14 kp14)
      go_roundw
      case rel => exact ⟨i + 1, oa1, oc1, XS ++ [x], hlt, by go_num, by go_num, Lib.hid (by rw [List.length_append, ← HXL.out]; rfl), Lib.hid (by rw [HTS.out, List.map_append, List.map_append, HXE.out]; simp [HXP.out, HREC.out]), HTK14, HO14, HK14⟩
      case measure => simp [intOf]; omega
    · obtain rfl : ln = i := by omega
      have HXF : Hid (XS.map Ra.pr = L.map (recAt R)) := Lib.hid (by
        have := HXE.out
        rwa [List.take_of_length_le (by rw [← HLN.out]; exact Nat.le_refl _)] at this)
      have hws : w.heap.size ≤ w4.heap.size := (K2.out.tr K4.out).size
      have HTF : Hid (TakenI w.heap.size oa oc XS wo) := Lib.hid ⟨HTK.out.own.mono hws, fun x hx => (HTK.out.rec' x hx).mono hws⟩
      clear hws
      go_wp2_with fail
      go_ret2
      exact ⟨oa, oc, XS, rfl, HXF.out, HTF.out, K2.out.tr HK3.out⟩
end Go.Proofs.Ythmaobmgogmaoaa
