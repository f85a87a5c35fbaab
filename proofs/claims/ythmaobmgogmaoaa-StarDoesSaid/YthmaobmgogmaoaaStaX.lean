/-
  Star-trees: what one that is not there, or was not made, tells.
  Star-trees: the document's Agree.
  Star-trees: the document's Same, of records that are alike.
-/
import Derived.Test.YthmaobmgogmaoaaStaT
import Derived.Test.YthmaobmgogmaoaaStaO
namespace Go.Proofs.Ythmaobmgogmaoaa
open Go.RowKit Go.Shelf
set_option linter.unusedSimpArgs false
set_option linter.unusedVariables false
set_option maxRecDepth 100000

theorem stNone0 {t : Option Addr} {w : World} (h : TreeK w t 0) : Calls Try.prog 38 #[.pointer t] w fun e w' => e = .returned (.bool true) ∧ w' = w := stNone_any t 0 w h
theorem TreeK.keep {w w' : World} {t : Option Addr} {k : Int} (h : TreeK w t k) (hk : Kp [] w w') : TreeK w' t k := by
  rcases h with ⟨h1, h2⟩ | ⟨T, h1, h2⟩
  · exact .inl ⟨h1, h2⟩
  · exact .inr ⟨T, h1, hk.cell h2 (by simp)⟩
theorem stRecords0 {t : Option Addr} {w : World} (h : TreeK w t 0) : Calls Try.prog 14 #[.pointer t] w fun e w' => e = .returned (.int .i64 0) ∧ w' = w := by
  have H := Lib.hid (stNone0 h)
  clear h
  go_enter Try.func14, Try.ntmps14
  go_wp2_with fail
  refine H.out.mono ?_
  rintro e w' ⟨rfl, rfl⟩
  go_wp2_with fail
  go_ret
  exact ⟨rfl, rfl⟩
theorem stNodes0 {t : Option Addr} {w : World} (h : TreeK w t 0) : Calls Try.prog 16 #[.pointer t] w fun e w' => e = .returned (.int .i64 0) ∧ w' = w := by
  have H := Lib.hid (stNone0 h)
  clear h
  go_enter Try.func16, Try.ntmps16
  go_wp2_with fail
  refine H.out.mono ?_
  rintro e w' ⟨rfl, rfl⟩
  go_wp2_with fail
  go_ret
  exact ⟨rfl, rfl⟩
theorem stDepth0 {t : Option Addr} {w : World} (h : TreeK w t 0) : Calls Try.prog 22 #[.pointer t] w fun e w' => e = .returned (.int .i64 0) ∧ w' = w := by
  have H := Lib.hid (stNone0 h)
  clear h
  go_enter Try.func22, Try.ntmps22
  go_wp2_with fail
  refine H.out.mono ?_
  rintro e w' ⟨rfl, rfl⟩
  go_wp2_with fail
  go_ret
  exact ⟨rfl, rfl⟩
theorem stMetrics0 {t : Option Addr} {w : World} (h : TreeK w t 0) : Calls Try.prog 23 #[.pointer t] w fun e w' => e = .returned (.int .i64 0) ∧ w' = w := by
  have H := Lib.hid (stNone0 h)
  clear h
  go_enter Try.func23, Try.ntmps23
  go_wp2_with fail
  refine H.out.mono ?_
  rintro e w' ⟨rfl, rfl⟩
  go_wp2_with fail
  go_ret
  exact ⟨rfl, rfl⟩
theorem stBytes0 {t : Option Addr} {w : World} (h : TreeK w t 0) : Calls Try.prog 20 #[.pointer t] w fun e w' => e = .returned (.slice none 0 0) ∧ w' = w := by
  have H := Lib.hid (stNone0 h)
  clear h
  go_enter Try.func20, Try.ntmps20
  go_wp2_with fail
  refine H.out.mono ?_
  rintro e w' ⟨rfl, rfl⟩
  go_wp2_with fail
  go_ret
  exact ⟨rfl, rfl⟩
theorem stRecord0 {t : Option Addr} {w : World} (h : TreeK w t 0) (i : Int) : Calls Try.prog 15 #[.pointer t, .int .i64 i] w fun e w' => e = .returned (.tuple #[rec0, .int .i64 1]) ∧ Kp [] w w' := by
  have HT := Lib.hid h
  clear h
  go_enter Try.func15, Try.ntmps15
  go_wp2_with fail
  obtain ⟨p, hp⟩ : ∃ p, p = w.heap.size := ⟨_, rfl⟩
  obtain ⟨w1, hw1⟩ : ∃ w1, w1 = w.alloc (Obj.cells #[Value.slice none 0 0, Value.int IntKind.i64 0, Value.slice none 0 0, Value.slice none 0 0, Value.slice none 0 0] 34) := ⟨_, rfl⟩
  have k1 : Kp [] w w1 := by rw [hw1]; exact (Kp.refl [] w).alloc _
  have hp1 : w1.heap[p]? = some (.cells #[Value.slice none 0 0, Value.int IntKind.i64 0, Value.slice none 0 0, Value.slice none 0 0, Value.slice none 0 0] 34) := by rw [hw1]; exact heap_alloc_at hp
  rw [← hw1, ← hp]
  have HP1 := Lib.hid hp1
  have HF : Hid (Kp [] w (w1.setRow p #[Value.slice none 0 0, Value.int IntKind.i64 0, Value.slice none 0 0, Value.slice none 0 0, Value.slice none 0 0])) := Lib.hid (k1.setRowF _ _ (.inr (by rw [hp]; exact Nat.le_refl _)))
  have HN := Lib.hid (stNone0 (HT.out.keep k1))
  clear hw1 k1 hp1 hp
  refine HN.out.mono ?_
  rintro e w2 ⟨rfl, rfl⟩
  go_wp2_with (refine wpList_store_row rfl 34 _ _ rfl p #[.slice none 0 0, .int .i64 0, .slice none 0 0, .slice none 0 0, .slice none 0 0] rfl rfl 34 _ HP1.out (by kernel_rfl) rfl (by simp [Value.oneCell']) ?_)
  exact bodyPost_ret (v := .tuple #[rec0, .int .i64 1]) (resCellTmp Try.results15 _ _ p 34 _ (0, 0) _ rfl (setRow_heap _ p _ _ _ _ HP1.out) Try.underlying34 rfl (by kernel_rfl)) rfl ⟨rfl, HF.out⟩
theorem stNode0 {t : Option Addr} {w : World} (h : TreeK w t 0) (i : Int) : Calls Try.prog 17 #[.pointer t, .int .i64 i] w fun e w' => e = .returned (.tuple #[node0, .int .i64 1]) ∧ Kp [] w w' := by
  have HT := Lib.hid h
  clear h
  go_enter Try.func17, Try.ntmps17
  go_wp2_with fail
  obtain ⟨p, hp⟩ : ∃ p, p = w.heap.size := ⟨_, rfl⟩
  obtain ⟨w1, hw1⟩ : ∃ w1, w1 = w.alloc (Obj.cells #[Value.int IntKind.i64 0, Value.int IntKind.i64 0, Value.int IntKind.i64 0, Value.slice none 0 0] 40) := ⟨_, rfl⟩
  have k1 : Kp [] w w1 := by rw [hw1]; exact (Kp.refl [] w).alloc _
  have hp1 : w1.heap[p]? = some (.cells #[Value.int IntKind.i64 0, Value.int IntKind.i64 0, Value.int IntKind.i64 0, Value.slice none 0 0] 40) := by rw [hw1]; exact heap_alloc_at hp
  rw [← hw1, ← hp]
  have HP1 := Lib.hid hp1
  have HF : Hid (Kp [] w (w1.setRow p #[Value.int IntKind.i64 0, Value.int IntKind.i64 0, Value.int IntKind.i64 0, Value.slice none 0 0])) := Lib.hid (k1.setRowF _ _ (.inr (by rw [hp]; exact Nat.le_refl _)))
  have HN := Lib.hid (stNone0 (HT.out.keep k1))
  clear hw1 k1 hp1 hp
  refine HN.out.mono ?_
  rintro e w2 ⟨rfl, rfl⟩
  go_wp2_with (refine wpList_store_row rfl 40 _ _ rfl p #[.int .i64 0, .int .i64 0, .int .i64 0, .slice none 0 0] rfl rfl 40 _ HP1.out (by kernel_rfl) rfl (by simp [Value.oneCell']) ?_)
  exact bodyPost_ret (v := .tuple #[node0, .int .i64 1]) (resCellTmp Try.results17 _ _ p 40 _ (0, 0) _ rfl (setRow_heap _ p _ _ _ _ HP1.out) Try.underlying40 rfl (by kernel_rfl)) rfl ⟨rfl, HF.out⟩
end Go.Proofs.Ythmaobmgogmaoaa
namespace Go.Proofs.Ythmaobmgogmaoaa
open Go.RowKit Go.Shelf
set_option linter.unusedSimpArgs false
set_option linter.unusedVariables false
set_option maxRecDepth 100000

theorem take_nth1 (l : List Int) (k : Nat) (h : k < l.length) : l.take (k + 1) = l.take k ++ [nth l k] := by
  rw [List.take_succ_eq_append_getElem h]; simp [nth, h]
set_option maxHeartbeats 800000 in
theorem r19Agree_any (aa : Option Addr) (ac n : Nat) (a : List Int) (hn : n = a.length) (ba : Option Addr) (bc m : Nat) (b : List Int) (hm : m = b.length) (hle : n ≤ m) (w : World) (ha : Rd w .i64 aa ac a) (hb : Rd w .i64 ba bc b) :
    Calls Try.prog 44 #[.slice aa n ac, .slice ba m bc] w fun e w' => e = .returned (.bool (decide (a = b))) ∧ Kp [] w w' := by
  have HN := Lib.hid hn
  have HM := Lib.hid hm
  have HA := Lib.hid ha
  have HB := Lib.hid hb
  have hcap := ha.1
  rw [← hn] at hcap
  have hcap2 := ha.2.1
  have hcapb := hb.1
  rw [← hm] at hcapb
  have hcapb2 := hb.2.1
  clear hn hm ha hb
  obtain ⟨v, hv⟩ : ∃ v, v = decide (a = b) := ⟨_, rfl⟩
  rw [← hv]
  have HV := Lib.hid hv
  clear hv
  go_enter Try.func44, Try.ntmps44
  go_wp2_with fail
  go_loopw [5] (fun vi wr => ∃ k : Nat, k ≤ n ∧ vi = .int .i64 k ∧ Hid (a.take k = b.take k) ∧ Hid (Kp [] w wr)) (fun vi _ => n - (intOf vi).toNat)
  case atStart => exact ⟨0, Nat.zero_le _, rfl, Lib.hid rfl, Lib.hid (Kp.refl _ _)⟩
  case round =>
    obtain ⟨k, hk, rfl, HX, HK⟩ := hrel
    obtain ⟨wo, rfl⟩ : ∃ wo : World, wo = wr := ⟨_, rfl⟩
    by_cases hlt : k < n
    · have hltm : k < m := by omega
      obtain ⟨b1, off1, rfl, c1⟩ := (HA.out.keep0 HK.out).2.2 k (by rw [← HN.out]; exact hlt)
      obtain ⟨b2, off2, rfl, c2⟩ := (HB.out.keep0 HK.out).2.2 k (by rw [← HM.out]; exact hltm)
      have HST : Hid (nth a k = nth b k → a.take (k + 1) = b.take (k + 1)) := Lib.hid (fun h => by
        rw [take_nth1 a k (by rw [← HN.out]; exact hlt), take_nth1 b k (by rw [← HM.out]; exact hltm), HX.out, h])
      have HBD : Hid (nth a k ≠ nth b k → v = false) := Lib.hid (fun h => by rw [HV.out]; exact decide_eq_false (fun e => h (by rw [e])))
      obtain ⟨x, hx⟩ : ∃ x, x = nth a k := ⟨_, rfl⟩
      obtain ⟨y, hy⟩ : ∃ y, y = nth b k := ⟨_, rfl⟩
      rw [← hx] at c1 HST HBD
      rw [← hy] at c2 HST HBD
      have C1 := Lib.hid c1
      have C2 := Lib.hid c2
      clear c1 c2 hx hy
      go_upto_region 4 with (fail)
      refine wp_region_K (by kernel_rfl) [.val (.slice (some ⟨b1, off1, none⟩) n ac), .val (.int .i64 (k : Int)), .val (.pointer (some ⟨b1, off1 + k, none⟩)), .val (.int .i64 x), .val (.slice (some ⟨b2, off2, none⟩) m bc), .val (.int .i64 (k : Int)), .val (.pointer (some ⟨b2, off2 + k, none⟩)), .val (.int .i64 y), .val (.bool (x != y))] [[(0, none)], [(5, none)], [(12, some 0), (13, some 1)], [(14, some 2)], [(1, none)], [(5, none)], [(16, some 4), (17, some 5)], [(18, some 6)], [(15, some 3), (19, some 7)]] rfl (by kernel_rfl) ?_ ?_
      · refine ⟨?o0, ?o1, ?o2, ?o3, ?o4, ?o5, ?o6, ?o7, ?o8, trivial⟩
        case o0 => intro aR wR hR; replace hR := hR.undrew; intro (h0 : aR.tmps[0]? = some (.slice (some ⟨b1, off1, none⟩) n ac)); exact exec_val (c := .slice (some ⟨b1, off1, none⟩) n ac) (wanted_none rfl) (by go_simp) rfl
        case o1 => intro aR wR hR; replace hR := hR.undrew; intro (h5 : aR.tmps[5]? = some (.int .i64 (k : Int))); exact exec_val (c := .int .i64 (k : Int)) (wanted_none rfl) (by go_simp) rfl
        case o2 => intro aR wR hR; replace hR := hR.undrew; intro v12 h12 e12; replace e12 : v12 = .slice (some ⟨b1, off1, none⟩) n ac := e12; subst e12; intro v13 h13 e13; replace e13 : v13 = .int .i64 (k : Int) := e13; subst e13; exact exec_val (c := .pointer (some ⟨b1, off1 + k, none⟩)) (wanted_none rfl) (by go_simp) rfl
        case o3 => intro aR wR hR; replace hR := hR.undrew; intro v14 h14 e14; replace e14 : v14 = .pointer (some ⟨b1, off1 + k, none⟩) := e14; subst e14; (have h1 := hR.cell C1.out (by simp)); exact exec_val (c := .int .i64 x) (wanted_none rfl) (by go_simp) rfl
        case o4 => intro aR wR hR; replace hR := hR.undrew; intro (h1 : aR.tmps[1]? = some (.slice (some ⟨b2, off2, none⟩) m bc)); exact exec_val (c := .slice (some ⟨b2, off2, none⟩) m bc) (wanted_none rfl) (by go_simp) rfl
        case o5 => intro aR wR hR; replace hR := hR.undrew; intro (h5 : aR.tmps[5]? = some (.int .i64 (k : Int))); exact exec_val (c := .int .i64 (k : Int)) (wanted_none rfl) (by go_simp) rfl
        case o6 => intro aR wR hR; replace hR := hR.undrew; intro v16 h16 e16; replace e16 : v16 = .slice (some ⟨b2, off2, none⟩) m bc := e16; subst e16; intro v17 h17 e17; replace e17 : v17 = .int .i64 (k : Int) := e17; subst e17; exact exec_val (c := .pointer (some ⟨b2, off2 + k, none⟩)) (wanted_none rfl) (by go_simp) rfl
        case o7 => intro aR wR hR; replace hR := hR.undrew; intro v18 h18 e18; replace e18 : v18 = .pointer (some ⟨b2, off2 + k, none⟩) := e18; subst e18; (have h1 := hR.cell C2.out (by simp)); exact exec_val (c := .int .i64 y) (wanted_none rfl) (by go_simp) rfl
        case o8 => intro aR wR hR; replace hR := hR.undrew; intro v15 h15 e15; replace e15 : v15 = .int .i64 x := e15; subst e15; intro v19 h19 e19; replace e19 : v19 = .int .i64 y := e19; subst e19; exact exec_val (c := .bool (x != y)) (wanted_none rfl) (by go_simp) rfl
      · intro vs wR hR hV
        obtain ⟨e0, e1, e2, e3, e4, e5, e6, e7, e8, -⟩ := hV
        replace e0 : vs 0 = .slice (some ⟨b1, off1, none⟩) n ac := e0
        replace e1 : vs 1 = .int .i64 (k : Int) := e1
        replace e2 : vs 2 = .pointer (some ⟨b1, off1 + k, none⟩) := e2
        replace e3 : vs 3 = .int .i64 x := e3
        replace e4 : vs 4 = .slice (some ⟨b2, off2, none⟩) m bc := e4
        replace e5 : vs 5 = .int .i64 (k : Int) := e5
        replace e6 : vs 6 = .pointer (some ⟨b2, off2 + k, none⟩) := e6
        replace e7 : vs 7 = .int .i64 y := e7
        replace e8 : vs 8 = .bool (x != y) := e8
        simp only [putAll, e0, e1, e2, e3, e4, e5, e6, e7, e8, Nat.reduceAdd, Nat.zero_add]
        clear e0 e1 e2 e3 e4 e5 e6 e7 e8
        try simp only [List.setIfInBounds_toArray, List.set_cons_succ, List.set_cons_zero]
        by_cases hxy : x = y
        · have HF := Lib.hid (HST.out hxy)
          have hb1 : (x != y) = false := by simp [hxy]
          rw [hb1]
          clear hxy
          go_wp2_with fail
          go_roundw
          case rel => exact ⟨k + 1, hlt, by go_num, HF, Lib.hid (HK.out.tr hR)⟩
          case measure => simp [intOf]; omega
        · have HF := Lib.hid (HBD.out hxy)
          have hb1 : (x != y) = true := by simp [hxy]
          rw [hb1]
          clear hxy
          go_wp2_with fail
          go_ret
          exact ⟨by rw [HF.out]; rfl, HK.out.tr hR⟩
    · obtain rfl : k = n := by omega
      have HX2 : Hid (a = b.take k) := Lib.hid (by have := HX.out; rwa [List.take_of_length_le (by rw [← HN.out]; exact Nat.le_refl _)] at this)
      by_cases hnm : k = m
      · have HF : Hid (v = true) := Lib.hid (by
          rw [HV.out]; refine decide_eq_true ?_
          rw [HX2.out, List.take_of_length_le (by rw [← HM.out, hnm]; exact Nat.le_refl _)])
        have hb1 : ((k : Int) == (m : Int)) = true := by simp [hnm]
        clear hnm
        go_wp2_with fail
        go_ret
        exact ⟨by rw [HF.out]; rfl, HK.out⟩
      · have HF : Hid (v = false) := Lib.hid (by
          rw [HV.out]; refine decide_eq_false (fun e => hnm ?_)
          rw [HN.out, HM.out, e])
        have hb1 : ((k : Int) == (m : Int)) = false := by simp; omega
        go_wp2_with fail
        go_ret
        exact ⟨by rw [HF.out]; rfl, HK.out⟩
end Go.Proofs.Ythmaobmgogmaoaa
namespace Go.Proofs.Ythmaobmgogmaoaa
open Go.RowKit Go.Shelf
set_option linter.unusedSimpArgs false
set_option linter.unusedVariables false
set_option maxRecDepth 100000

def RaRd (w : World) (x : Ra) : Prop := Rd w .i64 x.ia x.ic x.ids ∧ Rd w .i64 x.sa x.sc (x.ms.map (·.s)) ∧ Rd w .i64 x.la x.lc (x.ms.map (·.l)) ∧ Rd w .i64 x.ga x.gc (x.ms.map (·.g))
theorem RaRd.keep0 {w w' : World} {x : Ra} (h : RaRd w x) (k : Kp [] w w') : RaRd w' x := ⟨h.1.keep0 k, h.2.1.keep0 k, h.2.2.1.keep0 k, h.2.2.2.keep0 k⟩
theorem RaOwn.rd {w : World} {B : Nat} {x : Ra} (h : RaOwn w B x) : RaRd w x := ⟨h.1.rd, h.2.1.rd, h.2.2.1.rd, h.2.2.2.rd⟩
set_option maxHeartbeats 1600000 in
theorem r19Same_yes (x y : Ra) (he : x.pr = y.pr) (w : World) (hx : RaRd w x) (hy : RaRd w y) :
    Calls Try.prog 24 #[raV x, raV y] w fun e w' => e = .returned (.bool true) ∧ Kp [] w w' := by
  obtain ⟨ids, ia, ic, cnt, ms, sa, sc, la, lc, ga, gc⟩ := x
  obtain ⟨ids2, ia2, ic2, cnt2, ms2, sa2, sc2, la2, lc2, ga2, gc2⟩ := y
  simp only [Ra.pr, PR.mk.injEq] at he
  obtain ⟨rfl, rfl, rfl⟩ := he
  simp only [RaRd] at hx hy
  obtain ⟨n, hn⟩ : ∃ n, n = ids.length := ⟨_, rfl⟩
  obtain ⟨s, hs⟩ : ∃ s, s = ms.length := ⟨_, rfl⟩
  have HX := Lib.hid hx
  have HY := Lib.hid hy
  have HN := Lib.hid hn
  have HSN := Lib.hid hs
  have hc1 : s ≤ sc ∧ sc ≤ 9223372036854775807 ∧ s ≤ lc ∧ lc ≤ 9223372036854775807 ∧ s ≤ gc ∧ gc ≤ 9223372036854775807 := by
    have h1 := hx.2.1; have h2 := hx.2.2.1; have h3 := hx.2.2.2
    exact ⟨by simpa [hs] using h1.1, h1.2.1, by simpa [hs] using h2.1, h2.2.1, by simpa [hs] using h3.1, h3.2.1⟩
  have hc2 : s ≤ sc2 ∧ sc2 ≤ 9223372036854775807 ∧ s ≤ lc2 ∧ lc2 ≤ 9223372036854775807 ∧ s ≤ gc2 ∧ gc2 ≤ 9223372036854775807 := by
    have h1 := hy.2.1; have h2 := hy.2.2.1; have h3 := hy.2.2.2
    exact ⟨by simpa [hs] using h1.1, h1.2.1, by simpa [hs] using h2.1, h2.2.1, by simpa [hs] using h3.1, h3.2.1⟩
  simp only [raV]
  rw [← hn, ← hs]
  clear hx hy hn hs
  go_enter Try.func24, Try.ntmps24
  go_wp2_with fail
  obtain ⟨p, hp⟩ : ∃ p, p = w.heap.size := ⟨_, rfl⟩
  obtain ⟨w1, hw1⟩ : ∃ w1, w1 = w.alloc (Obj.cells #[.slice ia n ic, .int .i64 cnt, .slice sa s sc, .slice la s lc, .slice ga s gc] 34) := ⟨_, rfl⟩
  rw [← hw1]
  obtain ⟨w2, hw2⟩ : ∃ w2, w2 = w1.alloc (Obj.cells #[.slice ia2 n ic2, .int .i64 cnt, .slice sa2 s sc2, .slice la2 s lc2, .slice ga2 s gc2] 34) := ⟨_, rfl⟩
  rw [← hw2]
  obtain ⟨q, hq⟩ : ∃ q, q = w.heap.size + 1 := ⟨_, rfl⟩
  try rw [← hq]
  have k1 : Kp [] w w1 := by rw [hw1]; exact (Kp.refl [] w).alloc _
  have k2 : Kp [] w1 w2 := by rw [hw2]; exact (Kp.refl [] w1).alloc _
  have hp2 : w2.heap[p]? = some (.cells #[.slice ia n ic, .int .i64 cnt, .slice sa s sc, .slice la s lc, .slice ga s gc] 34) := k2.get (by rw [hw1]; exact heap_alloc_at hp) (by simp)
  have hq2 : w2.heap[q]? = some (.cells #[.slice ia2 n ic2, .int .i64 cnt, .slice sa2 s sc2, .slice la2 s lc2, .slice ga2 s gc2] 34) := by rw [hw2]; exact heap_alloc_at (by rw [hq, hw1]; simp)
  try rw [← hp]
  have HP := Lib.hid hp2
  have HQ := Lib.hid hq2
  have HK := Lib.hid (k1.tr k2)
  clear hw1 hw2 k1 k2 hp2 hq2 hp hq
  refine (r19Agree_any ia ic n ids HN.out ia2 ic2 n ids HN.out (Nat.le_refl _) w2 (HX.out.1.keep0 HK.out) (HY.out.1.keep0 HK.out)).mono ?_
  rintro e w3 ⟨rfl, kp3⟩
  rw [decide_eq_true rfl]
  have hp3 := kp3.get HP.out (by simp)
  have hq3 := kp3.get HQ.out (by simp)
  have HP3 := Lib.hid hp3
  have HQ3 := Lib.hid hq3
  have HK3 := Lib.hid (HK.out.tr kp3)
  have p0 : w3.cell? ⟨p, 0, none⟩ = some (.slice ia n ic) := by rw [cell_of_row w3 p 0 _ _ _ hp3]; rfl
  have p1 : w3.cell? ⟨p, 1, none⟩ = some (.int .i64 cnt) := by rw [cell_of_row w3 p 1 _ _ _ hp3]; rfl
  have p2 : w3.cell? ⟨p, 2, none⟩ = some (.slice sa s sc) := by rw [cell_of_row w3 p 2 _ _ _ hp3]; rfl
  have p3 : w3.cell? ⟨p, 3, none⟩ = some (.slice la s lc) := by rw [cell_of_row w3 p 3 _ _ _ hp3]; rfl
  have p4 : w3.cell? ⟨p, 4, none⟩ = some (.slice ga s gc) := by rw [cell_of_row w3 p 4 _ _ _ hp3]; rfl
  have q0 : w3.cell? ⟨q, 0, none⟩ = some (.slice ia2 n ic2) := by rw [cell_of_row w3 q 0 _ _ _ hq3]; rfl
  have q1 : w3.cell? ⟨q, 1, none⟩ = some (.int .i64 cnt) := by rw [cell_of_row w3 q 1 _ _ _ hq3]; rfl
  have q2 : w3.cell? ⟨q, 2, none⟩ = some (.slice sa2 s sc2) := by rw [cell_of_row w3 q 2 _ _ _ hq3]; rfl
  have q3 : w3.cell? ⟨q, 3, none⟩ = some (.slice la2 s lc2) := by rw [cell_of_row w3 q 3 _ _ _ hq3]; rfl
  have q4 : w3.cell? ⟨q, 4, none⟩ = some (.slice ga2 s gc2) := by rw [cell_of_row w3 q 4 _ _ _ hq3]; rfl
  have hbb : ((n : Int) != (n : Int)) = false := by simp
  have hbs : ((s : Int) != (s : Int)) = false := by simp
  have hbc : (cnt != cnt) = false := by simp
  clear kp3 hp3 hq3
  go_wp2_with fail
  go_loopw [5] (fun vi wr => ∃ t : Nat, t ≤ s ∧ vi = .int .i64 t ∧ Hid (Kp [] w3 wr)) (fun vi _ => s - (intOf vi).toNat)
  case atStart => exact ⟨0, Nat.zero_le _, rfl, Lib.hid (Kp.refl _ _)⟩
  case round =>
    obtain ⟨t, ht, rfl, HKR⟩ := hrel
    obtain ⟨wo, rfl⟩ : ∃ wo : World, wo = wr := ⟨_, rfl⟩
    clear p0 p1 p3 p4 q0 q1 q2 q3 q4
    have p2 : wo.cell? ⟨p, 2, none⟩ = some (.slice sa s sc) := by rw [cell_of_row wo p 2 _ _ _ (HKR.out.get HP3.out (by simp))]; rfl
    have HPW := Lib.hid (HKR.out.get HP3.out (by simp))
    have HQW := Lib.hid (HKR.out.get HQ3.out (by simp))
    by_cases hlt : t < s
    · have hl : t < ms.length := by rw [← HSN.out]; exact hlt
      have kw := HK3.out.tr HKR.out
      obtain ⟨b1, o1, rfl, d1⟩ := (HX.out.2.1.keep0 kw).2.2 t (by simpa using hl)
      obtain ⟨b2, o2, rfl, d2⟩ := (HX.out.2.2.1.keep0 kw).2.2 t (by simpa using hl)
      obtain ⟨b3, o3, rfl, d3⟩ := (HX.out.2.2.2.keep0 kw).2.2 t (by simpa using hl)
      obtain ⟨b4, o4, rfl, d4⟩ := (HY.out.2.1.keep0 kw).2.2 t (by simpa using hl)
      obtain ⟨b5, o5, rfl, d5⟩ := (HY.out.2.2.1.keep0 kw).2.2 t (by simpa using hl)
      obtain ⟨b6, o6, rfl, d6⟩ := (HY.out.2.2.2.keep0 kw).2.2 t (by simpa using hl)
      generalize nth (ms.map (·.s)) t = xs at *
      generalize nth (ms.map (·.l)) t = xl at *
      generalize nth (ms.map (·.g)) t = xg at *
      have D1 := Lib.hid d1
      have D2 := Lib.hid d2
      have D3 := Lib.hid d3
      have D4 := Lib.hid d4
      have D5 := Lib.hid d5
      have D6 := Lib.hid d6
      clear d1 d2 d3 d4 d5 d6 kw hl
      go_upto_region 6 with (fail)
      refine wp_region_K (by kernel_rfl) [.val (.pointer (some ⟨p, 2, none⟩)), .val (.slice (some ⟨b1, o1, none⟩) s sc), .val (.int .i64 (t : Int)), .val (.pointer (some ⟨b1, o1 + t, none⟩)), .val (.int .i64 xs), .val (.pointer (some ⟨q, 2, none⟩)), .val (.slice (some ⟨b4, o4, none⟩) s sc2), .val (.int .i64 (t : Int)), .val (.pointer (some ⟨b4, o4 + t, none⟩)), .val (.int .i64 xs), .val (.bool false), .val (.bool false), .val (.pointer (some ⟨p, 3, none⟩)), .val (.slice (some ⟨b2, o2, none⟩) s lc), .val (.int .i64 (t : Int)), .val (.pointer (some ⟨b2, o2 + t, none⟩)), .val (.int .i64 xl), .val (.pointer (some ⟨q, 3, none⟩)), .val (.slice (some ⟨b5, o5, none⟩) s lc2), .val (.int .i64 (t : Int)), .val (.pointer (some ⟨b5, o5 + t, none⟩)), .val (.int .i64 xl), .val (.bool false), .val (.bool false), .val (.bool false), .val (.pointer (some ⟨p, 4, none⟩)), .val (.slice (some ⟨b3, o3, none⟩) s gc), .val (.int .i64 (t : Int)), .val (.pointer (some ⟨b3, o3 + t, none⟩)), .val (.int .i64 xg), .val (.pointer (some ⟨q, 4, none⟩)), .val (.slice (some ⟨b6, o6, none⟩) s gc2), .val (.int .i64 (t : Int)), .val (.pointer (some ⟨b6, o6 + t, none⟩)), .val (.int .i64 xg), .val (.bool false), .val (.bool false)] [[(2, none)], [(62, some 0)], [(5, none)], [(63, some 1), (64, some 2)], [(65, some 3)], [(3, none)], [(67, some 5)], [(5, none)], [(68, some 6), (69, some 7)], [(70, some 8)], [(66, some 4), (71, some 9)], [(72, some 10)], [(73, some 11), (2, none)], [(73, some 11), (74, some 12)], [(73, some 11), (5, none)], [(73, some 11), (75, some 13), (76, some 14)], [(73, some 11), (77, some 15)], [(73, some 11), (3, none)], [(73, some 11), (79, some 17)], [(73, some 11), (5, none)], [(73, some 11), (80, some 18), (81, some 19)], [(73, some 11), (82, some 20)], [(73, some 11), (78, some 16), (83, some 21)], [(73, some 11), (84, some 22)], [(85, some 23)], [(86, some 24), (2, none)], [(86, some 24), (87, some 25)], [(86, some 24), (5, none)], [(86, some 24), (88, some 26), (89, some 27)], [(86, some 24), (90, some 28)], [(86, some 24), (3, none)], [(86, some 24), (92, some 30)], [(86, some 24), (5, none)], [(86, some 24), (93, some 31), (94, some 32)], [(86, some 24), (95, some 33)], [(86, some 24), (91, some 29), (96, some 34)], [(86, some 24), (97, some 35)]] rfl (by kernel_rfl) ?_ ?_
      · refine ⟨?o0, ?o1, ?o2, ?o3, ?o4, ?o5, ?o6, ?o7, ?o8, ?o9, ?o10, ?o11, ?o12, ?o13, ?o14, ?o15, ?o16, ?o17, ?o18, ?o19, ?o20, ?o21, ?o22, ?o23, ?o24, ?o25, ?o26, ?o27, ?o28, ?o29, ?o30, ?o31, ?o32, ?o33, ?o34, ?o35, ?o36, trivial⟩
        case o0 => intro aR wR hR; replace hR := hR.undrew; intro (h2 : aR.tmps[2]? = some (.pointer (some ⟨p, 0, none⟩))); exact exec_val (c := .pointer (some ⟨p, 2, none⟩)) (wanted_none rfl) (by go_simp) rfl
        case o1 => intro aR wR hR; replace hR := hR.undrew; intro v62 h62 e62; replace e62 : v62 = .pointer (some ⟨p, 2, none⟩) := e62; subst e62; (have h1 : wR.cell? ⟨p, 2, none⟩ = some (.slice (some ⟨b1, o1, none⟩) s sc) := (by rw [cell_of_row wR p 2 _ _ _ (hR.get HPW.out (by simp))]; rfl)); exact exec_val (c := .slice (some ⟨b1, o1, none⟩) s sc) (wanted_none rfl) (by go_simp) rfl
        case o2 => intro aR wR hR; replace hR := hR.undrew; intro (h5 : aR.tmps[5]? = some (.int .i64 (t : Int))); exact exec_val (c := .int .i64 (t : Int)) (wanted_none rfl) (by go_simp) rfl
        case o3 => intro aR wR hR; replace hR := hR.undrew; intro v63 h63 e63; replace e63 : v63 = .slice (some ⟨b1, o1, none⟩) s sc := e63; subst e63; intro v64 h64 e64; replace e64 : v64 = .int .i64 (t : Int) := e64; subst e64; exact exec_val (c := .pointer (some ⟨b1, o1 + t, none⟩)) (wanted_none rfl) (by go_simp) rfl
        case o4 => intro aR wR hR; replace hR := hR.undrew; intro v65 h65 e65; replace e65 : v65 = .pointer (some ⟨b1, o1 + t, none⟩) := e65; subst e65; (have h1 := hR.cell D1.out (by simp)); exact exec_val (c := .int .i64 xs) (wanted_none rfl) (by go_simp) rfl
        case o5 => intro aR wR hR; replace hR := hR.undrew; intro (h3 : aR.tmps[3]? = some (.pointer (some ⟨q, 0, none⟩))); exact exec_val (c := .pointer (some ⟨q, 2, none⟩)) (wanted_none rfl) (by go_simp) rfl
        case o6 => intro aR wR hR; replace hR := hR.undrew; intro v67 h67 e67; replace e67 : v67 = .pointer (some ⟨q, 2, none⟩) := e67; subst e67; (have h1 : wR.cell? ⟨q, 2, none⟩ = some (.slice (some ⟨b4, o4, none⟩) s sc2) := (by rw [cell_of_row wR q 2 _ _ _ (hR.get HQW.out (by simp))]; rfl)); exact exec_val (c := .slice (some ⟨b4, o4, none⟩) s sc2) (wanted_none rfl) (by go_simp) rfl
        case o7 => intro aR wR hR; replace hR := hR.undrew; intro (h5 : aR.tmps[5]? = some (.int .i64 (t : Int))); exact exec_val (c := .int .i64 (t : Int)) (wanted_none rfl) (by go_simp) rfl
        case o8 => intro aR wR hR; replace hR := hR.undrew; intro v68 h68 e68; replace e68 : v68 = .slice (some ⟨b4, o4, none⟩) s sc2 := e68; subst e68; intro v69 h69 e69; replace e69 : v69 = .int .i64 (t : Int) := e69; subst e69; exact exec_val (c := .pointer (some ⟨b4, o4 + t, none⟩)) (wanted_none rfl) (by go_simp) rfl
        case o9 => intro aR wR hR; replace hR := hR.undrew; intro v70 h70 e70; replace e70 : v70 = .pointer (some ⟨b4, o4 + t, none⟩) := e70; subst e70; (have h1 := hR.cell D4.out (by simp)); exact exec_val (c := .int .i64 xs) (wanted_none rfl) (by go_simp) rfl
        case o10 => intro aR wR hR; replace hR := hR.undrew; intro v66 h66 e66; replace e66 : v66 = .int .i64 xs := e66; subst e66; intro v71 h71 e71; replace e71 : v71 = .int .i64 xs := e71; subst e71; exact exec_val (c := .bool false) (wanted_none rfl) (by go_simp) rfl
        case o11 => intro aR wR hR; replace hR := hR.undrew; intro v72 h72 e72; replace e72 : v72 = .bool false := e72; subst e72; exact exec_val (c := .bool false) (wanted_none rfl) (by go_simp) rfl
        case o12 => intro aR wR hR; replace hR := hR.undrew; intro v73 h73 e73; replace e73 : v73 = .bool false := e73; subst e73; intro (h2 : aR.tmps[2]? = some (.pointer (some ⟨p, 0, none⟩))); exact exec_val (c := .pointer (some ⟨p, 3, none⟩)) (wanted_yes (b := false) (t := 73) rfl rfl h73) (by go_simp) rfl
        case o13 => intro aR wR hR; replace hR := hR.undrew; intro v73 h73 e73; replace e73 : v73 = .bool false := e73; subst e73; intro v74 h74 e74; replace e74 : v74 = .pointer (some ⟨p, 3, none⟩) := e74; subst e74; (have h1 : wR.cell? ⟨p, 3, none⟩ = some (.slice (some ⟨b2, o2, none⟩) s lc) := (by rw [cell_of_row wR p 3 _ _ _ (hR.get HPW.out (by simp))]; rfl)); exact exec_val (c := .slice (some ⟨b2, o2, none⟩) s lc) (wanted_yes (b := false) (t := 73) rfl rfl h73) (by go_simp) rfl
        case o14 => intro aR wR hR; replace hR := hR.undrew; intro v73 h73 e73; replace e73 : v73 = .bool false := e73; subst e73; intro (h5 : aR.tmps[5]? = some (.int .i64 (t : Int))); exact exec_val (c := .int .i64 (t : Int)) (wanted_yes (b := false) (t := 73) rfl rfl h73) (by go_simp) rfl
        case o15 => intro aR wR hR; replace hR := hR.undrew; intro v73 h73 e73; replace e73 : v73 = .bool false := e73; subst e73; intro v75 h75 e75; replace e75 : v75 = .slice (some ⟨b2, o2, none⟩) s lc := e75; subst e75; intro v76 h76 e76; replace e76 : v76 = .int .i64 (t : Int) := e76; subst e76; exact exec_val (c := .pointer (some ⟨b2, o2 + t, none⟩)) (wanted_yes (b := false) (t := 73) rfl rfl h73) (by go_simp) rfl
        case o16 => intro aR wR hR; replace hR := hR.undrew; intro v73 h73 e73; replace e73 : v73 = .bool false := e73; subst e73; intro v77 h77 e77; replace e77 : v77 = .pointer (some ⟨b2, o2 + t, none⟩) := e77; subst e77; (have h1 := hR.cell D2.out (by simp)); exact exec_val (c := .int .i64 xl) (wanted_yes (b := false) (t := 73) rfl rfl h73) (by go_simp) rfl
        case o17 => intro aR wR hR; replace hR := hR.undrew; intro v73 h73 e73; replace e73 : v73 = .bool false := e73; subst e73; intro (h3 : aR.tmps[3]? = some (.pointer (some ⟨q, 0, none⟩))); exact exec_val (c := .pointer (some ⟨q, 3, none⟩)) (wanted_yes (b := false) (t := 73) rfl rfl h73) (by go_simp) rfl
        case o18 => intro aR wR hR; replace hR := hR.undrew; intro v73 h73 e73; replace e73 : v73 = .bool false := e73; subst e73; intro v79 h79 e79; replace e79 : v79 = .pointer (some ⟨q, 3, none⟩) := e79; subst e79; (have h1 : wR.cell? ⟨q, 3, none⟩ = some (.slice (some ⟨b5, o5, none⟩) s lc2) := (by rw [cell_of_row wR q 3 _ _ _ (hR.get HQW.out (by simp))]; rfl)); exact exec_val (c := .slice (some ⟨b5, o5, none⟩) s lc2) (wanted_yes (b := false) (t := 73) rfl rfl h73) (by go_simp) rfl
        case o19 => intro aR wR hR; replace hR := hR.undrew; intro v73 h73 e73; replace e73 : v73 = .bool false := e73; subst e73; intro (h5 : aR.tmps[5]? = some (.int .i64 (t : Int))); exact exec_val (c := .int .i64 (t : Int)) (wanted_yes (b := false) (t := 73) rfl rfl h73) (by go_simp) rfl
        case o20 => intro aR wR hR; replace hR := hR.undrew; intro v73 h73 e73; replace e73 : v73 = .bool false := e73; subst e73; intro v80 h80 e80; replace e80 : v80 = .slice (some ⟨b5, o5, none⟩) s lc2 := e80; subst e80; intro v81 h81 e81; replace e81 : v81 = .int .i64 (t : Int) := e81; subst e81; exact exec_val (c := .pointer (some ⟨b5, o5 + t, none⟩)) (wanted_yes (b := false) (t := 73) rfl rfl h73) (by go_simp) rfl
        case o21 => intro aR wR hR; replace hR := hR.undrew; intro v73 h73 e73; replace e73 : v73 = .bool false := e73; subst e73; intro v82 h82 e82; replace e82 : v82 = .pointer (some ⟨b5, o5 + t, none⟩) := e82; subst e82; (have h1 := hR.cell D5.out (by simp)); exact exec_val (c := .int .i64 xl) (wanted_yes (b := false) (t := 73) rfl rfl h73) (by go_simp) rfl
        case o22 => intro aR wR hR; replace hR := hR.undrew; intro v73 h73 e73; replace e73 : v73 = .bool false := e73; subst e73; intro v78 h78 e78; replace e78 : v78 = .int .i64 xl := e78; subst e78; intro v83 h83 e83; replace e83 : v83 = .int .i64 xl := e83; subst e83; exact exec_val (c := .bool false) (wanted_yes (b := false) (t := 73) rfl rfl h73) (by go_simp) rfl
        case o23 => intro aR wR hR; replace hR := hR.undrew; intro v73 h73 e73; replace e73 : v73 = .bool false := e73; subst e73; intro v84 h84 e84; replace e84 : v84 = .bool false := e84; subst e84; exact exec_val (c := .bool false) (wanted_none rfl) (by go_simp) rfl
        case o24 => intro aR wR hR; replace hR := hR.undrew; intro v85 h85 e85; replace e85 : v85 = .bool false := e85; subst e85; exact exec_val (c := .bool false) (wanted_none rfl) (by go_simp) rfl
        case o25 => intro aR wR hR; replace hR := hR.undrew; intro v86 h86 e86; replace e86 : v86 = .bool false := e86; subst e86; intro (h2 : aR.tmps[2]? = some (.pointer (some ⟨p, 0, none⟩))); exact exec_val (c := .pointer (some ⟨p, 4, none⟩)) (wanted_yes (b := false) (t := 86) rfl rfl h86) (by go_simp) rfl
        case o26 => intro aR wR hR; replace hR := hR.undrew; intro v86 h86 e86; replace e86 : v86 = .bool false := e86; subst e86; intro v87 h87 e87; replace e87 : v87 = .pointer (some ⟨p, 4, none⟩) := e87; subst e87; (have h1 : wR.cell? ⟨p, 4, none⟩ = some (.slice (some ⟨b3, o3, none⟩) s gc) := (by rw [cell_of_row wR p 4 _ _ _ (hR.get HPW.out (by simp))]; rfl)); exact exec_val (c := .slice (some ⟨b3, o3, none⟩) s gc) (wanted_yes (b := false) (t := 86) rfl rfl h86) (by go_simp) rfl
        case o27 => intro aR wR hR; replace hR := hR.undrew; intro v86 h86 e86; replace e86 : v86 = .bool false := e86; subst e86; intro (h5 : aR.tmps[5]? = some (.int .i64 (t : Int))); exact exec_val (c := .int .i64 (t : Int)) (wanted_yes (b := false) (t := 86) rfl rfl h86) (by go_simp) rfl
        case o28 => intro aR wR hR; replace hR := hR.undrew; intro v86 h86 e86; replace e86 : v86 = .bool false := e86; subst e86; intro v88 h88 e88; replace e88 : v88 = .slice (some ⟨b3, o3, none⟩) s gc := e88; subst e88; intro v89 h89 e89; replace e89 : v89 = .int .i64 (t : Int) := e89; subst e89; exact exec_val (c := .pointer (some ⟨b3, o3 + t, none⟩)) (wanted_yes (b := false) (t := 86) rfl rfl h86) (by go_simp) rfl
        case o29 => intro aR wR hR; replace hR := hR.undrew; intro v86 h86 e86; replace e86 : v86 = .bool false := e86; subst e86; intro v90 h90 e90; replace e90 : v90 = .pointer (some ⟨b3, o3 + t, none⟩) := e90; subst e90; (have h1 := hR.cell D3.out (by simp)); exact exec_val (c := .int .i64 xg) (wanted_yes (b := false) (t := 86) rfl rfl h86) (by go_simp) rfl
        case o30 => intro aR wR hR; replace hR := hR.undrew; intro v86 h86 e86; replace e86 : v86 = .bool false := e86; subst e86; intro (h3 : aR.tmps[3]? = some (.pointer (some ⟨q, 0, none⟩))); exact exec_val (c := .pointer (some ⟨q, 4, none⟩)) (wanted_yes (b := false) (t := 86) rfl rfl h86) (by go_simp) rfl
        case o31 => intro aR wR hR; replace hR := hR.undrew; intro v86 h86 e86; replace e86 : v86 = .bool false := e86; subst e86; intro v92 h92 e92; replace e92 : v92 = .pointer (some ⟨q, 4, none⟩) := e92; subst e92; (have h1 : wR.cell? ⟨q, 4, none⟩ = some (.slice (some ⟨b6, o6, none⟩) s gc2) := (by rw [cell_of_row wR q 4 _ _ _ (hR.get HQW.out (by simp))]; rfl)); exact exec_val (c := .slice (some ⟨b6, o6, none⟩) s gc2) (wanted_yes (b := false) (t := 86) rfl rfl h86) (by go_simp) rfl
        case o32 => intro aR wR hR; replace hR := hR.undrew; intro v86 h86 e86; replace e86 : v86 = .bool false := e86; subst e86; intro (h5 : aR.tmps[5]? = some (.int .i64 (t : Int))); exact exec_val (c := .int .i64 (t : Int)) (wanted_yes (b := false) (t := 86) rfl rfl h86) (by go_simp) rfl
        case o33 => intro aR wR hR; replace hR := hR.undrew; intro v86 h86 e86; replace e86 : v86 = .bool false := e86; subst e86; intro v93 h93 e93; replace e93 : v93 = .slice (some ⟨b6, o6, none⟩) s gc2 := e93; subst e93; intro v94 h94 e94; replace e94 : v94 = .int .i64 (t : Int) := e94; subst e94; exact exec_val (c := .pointer (some ⟨b6, o6 + t, none⟩)) (wanted_yes (b := false) (t := 86) rfl rfl h86) (by go_simp) rfl
        case o34 => intro aR wR hR; replace hR := hR.undrew; intro v86 h86 e86; replace e86 : v86 = .bool false := e86; subst e86; intro v95 h95 e95; replace e95 : v95 = .pointer (some ⟨b6, o6 + t, none⟩) := e95; subst e95; (have h1 := hR.cell D6.out (by simp)); exact exec_val (c := .int .i64 xg) (wanted_yes (b := false) (t := 86) rfl rfl h86) (by go_simp) rfl
        case o35 => intro aR wR hR; replace hR := hR.undrew; intro v86 h86 e86; replace e86 : v86 = .bool false := e86; subst e86; intro v91 h91 e91; replace e91 : v91 = .int .i64 xg := e91; subst e91; intro v96 h96 e96; replace e96 : v96 = .int .i64 xg := e96; subst e96; exact exec_val (c := .bool false) (wanted_yes (b := false) (t := 86) rfl rfl h86) (by go_simp) rfl
        case o36 => intro aR wR hR; replace hR := hR.undrew; intro v86 h86 e86; replace e86 : v86 = .bool false := e86; subst e86; intro v97 h97 e97; replace e97 : v97 = .bool false := e97; subst e97; exact exec_val (c := .bool false) (wanted_none rfl) (by go_simp) rfl
      · intro vs wR hR hV
        obtain ⟨e0, e1, e2, e3, e4, e5, e6, e7, e8, e9, e10, e11, e12, e13, e14, e15, e16, e17, e18, e19, e20, e21, e22, e23, e24, e25, e26, e27, e28, e29, e30, e31, e32, e33, e34, e35, e36, -⟩ := hV
        replace e0 : vs 0 = .pointer (some ⟨p, 2, none⟩) := e0
        replace e1 : vs 1 = .slice (some ⟨b1, o1, none⟩) s sc := e1
        replace e2 : vs 2 = .int .i64 (t : Int) := e2
        replace e3 : vs 3 = .pointer (some ⟨b1, o1 + t, none⟩) := e3
        replace e4 : vs 4 = .int .i64 xs := e4
        replace e5 : vs 5 = .pointer (some ⟨q, 2, none⟩) := e5
        replace e6 : vs 6 = .slice (some ⟨b4, o4, none⟩) s sc2 := e6
        replace e7 : vs 7 = .int .i64 (t : Int) := e7
        replace e8 : vs 8 = .pointer (some ⟨b4, o4 + t, none⟩) := e8
        replace e9 : vs 9 = .int .i64 xs := e9
        replace e10 : vs 10 = .bool false := e10
        replace e11 : vs 11 = .bool false := e11
        replace e12 : vs 12 = .pointer (some ⟨p, 3, none⟩) := e12
        replace e13 : vs 13 = .slice (some ⟨b2, o2, none⟩) s lc := e13
        replace e14 : vs 14 = .int .i64 (t : Int) := e14
        replace e15 : vs 15 = .pointer (some ⟨b2, o2 + t, none⟩) := e15
        replace e16 : vs 16 = .int .i64 xl := e16
        replace e17 : vs 17 = .pointer (some ⟨q, 3, none⟩) := e17
        replace e18 : vs 18 = .slice (some ⟨b5, o5, none⟩) s lc2 := e18
        replace e19 : vs 19 = .int .i64 (t : Int) := e19
        replace e20 : vs 20 = .pointer (some ⟨b5, o5 + t, none⟩) := e20
        replace e21 : vs 21 = .int .i64 xl := e21
        replace e22 : vs 22 = .bool false := e22
        replace e23 : vs 23 = .bool false := e23
        replace e24 : vs 24 = .bool false := e24
        replace e25 : vs 25 = .pointer (some ⟨p, 4, none⟩) := e25
        replace e26 : vs 26 = .slice (some ⟨b3, o3, none⟩) s gc := e26
        replace e27 : vs 27 = .int .i64 (t : Int) := e27
        replace e28 : vs 28 = .pointer (some ⟨b3, o3 + t, none⟩) := e28
        replace e29 : vs 29 = .int .i64 xg := e29
        replace e30 : vs 30 = .pointer (some ⟨q, 4, none⟩) := e30
        replace e31 : vs 31 = .slice (some ⟨b6, o6, none⟩) s gc2 := e31
        replace e32 : vs 32 = .int .i64 (t : Int) := e32
        replace e33 : vs 33 = .pointer (some ⟨b6, o6 + t, none⟩) := e33
        replace e34 : vs 34 = .int .i64 xg := e34
        replace e35 : vs 35 = .bool false := e35
        replace e36 : vs 36 = .bool false := e36
        simp only [putAll, e0, e1, e2, e3, e4, e5, e6, e7, e8, e9, e10, e11, e12, e13, e14, e15, e16, e17, e18, e19, e20, e21, e22, e23, e24, e25, e26, e27, e28, e29, e30, e31, e32, e33, e34, e35, e36, Nat.reduceAdd, Nat.zero_add]
        clear e0 e1 e2 e3 e4 e5 e6 e7 e8 e9 e10 e11 e12 e13 e14 e15 e16 e17 e18 e19 e20 e21 e22 e23 e24 e25 e26 e27 e28 e29 e30 e31 e32 e33 e34 e35 e36
        try simp only [List.setIfInBounds_toArray, List.set_cons_succ, List.set_cons_zero]
        have HKN := Lib.hid (HKR.out.tr hR)
        clear p2
        go_wp2_with fail
        go_roundw
        case rel => exact ⟨t + 1, hlt, by go_num, HKN⟩
        case measure => simp [intOf]; omega
    · go_wp2_with fail
      go_ret
      exact ⟨rfl, HK3.out.tr HKR.out⟩
end Go.Proofs.Ythmaobmgogmaoaa
