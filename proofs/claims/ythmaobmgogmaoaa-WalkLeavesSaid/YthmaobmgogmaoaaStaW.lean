/-
  Star-trees: the document's Agree.
-/
import Derived.Test.YthmaobmgogmaoaaStaV
namespace Go.Proofs.Ythmaobmgogmaoaa
open Go.RowKit Go.Shelf
set_option linter.unusedSimpArgs false
set_option linter.unusedVariables false
set_option maxRecDepth 100000

theorem take_nth1 (l : List Int) (k : Nat) (h : k < l.length) : l.take (k + 1) = l.take k ++ [nth l k] := by
  rw [List.take_succ_eq_append_getElem h]; simp [nth, h]
set_option maxHeartbeats 800000 in
theorem r19Agree_any (aa : Option Addr) (ac n : Nat) (a : List Int) (hn : n = a.length) (ba : Option Addr) (bc m : Nat) (b : List Int) (hm : m = b.length) (hle : n ≤ m) (w : World) (ha : Rd w .i64 aa ac a) (hb : Rd w .i64 ba bc b) :
    Calls Try.prog 44 #[.slice aa n ac, .slice ba m bc] w fun e w' => e = .returned (.bool (decide (a = b))) ∧ Kp [] w w' := by
  have HN := Lib.hid hn
  have HM := Lib.hid hm
  have HA := Lib.hid ha
  have HB := Lib.hid hb
  have hcap := ha.1
  rw [← hn] at hcap
  have hcap2 := ha.2.1
  have hcapb := hb.1
  rw [← hm] at hcapb
  have hcapb2 := hb.2.1
  clear hn hm ha hb
  obtain ⟨v, hv⟩ : ∃ v, v = decide (a = b) := ⟨_, rfl⟩
  rw [← hv]
  have HV := Lib.hid hv
  clear hv
  go_enter Try.func44, Try.ntmps44
  go_wp2_with fail
  go_loopw [5] (fun vi wr => ∃ k : Nat, k ≤ n ∧ vi = .int .i64 k ∧ Hid (a.take k = b.take k) ∧ Hid (Kp [] w wr)) (fun vi _ => n - (intOf vi).toNat)
  case atStart => exact ⟨0, Nat.zero_le _, rfl, Lib.hid rfl, Lib.hid (Kp.refl _ _)⟩
  case round =>
    obtain ⟨k, hk, rfl, HX, HK⟩ := hrel
    obtain ⟨wo, rfl⟩ : ∃ wo : World, wo = wr := ⟨_, rfl⟩
    by_cases hlt : k < n
    · have hltm : k < m := by omega
      obtain ⟨b1, off1, rfl, c1⟩ := (HA.out.keep0 HK.out).2.2 k (by rw [← HN.out]; exact hlt)
      obtain ⟨b2, off2, rfl, c2⟩ := (HB.out.keep0 HK.out).2.2 k (by rw [← HM.out]; exact hltm)
      have HST : Hid (nth a k = nth b k → a.take (k + 1) = b.take (k + 1)) := Lib.hid (fun h => by
        rw [take_nth1 a k (by rw [← HN.out]; exact hlt), take_nth1 b k (by rw [← HM.out]; exact hltm), HX.out, h])
      have HBD : Hid (nth a k ≠ nth b k → v = false) := Lib.hid (fun h => by rw [HV.out]; exact decide_eq_false (fun e => h (by rw [e])))
      obtain ⟨x, hx⟩ : ∃ x, x = nth a k := ⟨_, rfl⟩
      obtain ⟨y, hy⟩ : ∃ y, y = nth b k := ⟨_, rfl⟩
      rw [← hx] at c1 HST HBD
      rw [← hy] at c2 HST HBD
      have C1 := Lib.hid c1
      have C2 := Lib.hid c2
      clear c1 c2 hx hy
      go_upto_region 4 with (fail)
      refine wp_region_K (by kernel_rfl) [.val (.slice (some ⟨b1, off1, none⟩) n ac), .val (.int .i64 (k : Int)), .val (.pointer (some ⟨b1, off1 + k, none⟩)), .val (.int .i64 x), .val (.slice (some ⟨b2, off2, none⟩) m bc), .val (.int .i64 (k : Int)), .val (.pointer (some ⟨b2, off2 + k, none⟩)), .val (.int .i64 y), .val (.bool (x != y))] [[(0, none)], [(5, none)], [(12, some 0), (13, some 1)], [(14, some 2)], [(1, none)], [(5, none)], [(16, some 4), (17, some 5)], [(18, some 6)], [(15, some 3), (19, some 7)]] rfl (by kernel_rfl) ?_ ?_
      · refine ⟨?o0, ?o1, ?o2, ?o3, ?o4, ?o5, ?o6, ?o7, ?o8, trivial⟩
        case o0 => intro aR wR hR; replace hR := hR.undrew; intro (h0 : aR.tmps[0]? = some (.slice (some ⟨b1, off1, none⟩) n ac)); exact exec_val (c := .slice (some ⟨b1, off1, none⟩) n ac) (wanted_none rfl) (by go_simp) rfl
        case o1 => intro aR wR hR; replace hR := hR.undrew; intro (h5 : aR.tmps[5]? = some (.int .i64 (k : Int))); exact exec_val (c := .int .i64 (k : Int)) (wanted_none rfl) (by go_simp) rfl
        case o2 => intro aR wR hR; replace hR := hR.undrew; intro v12 h12 e12; replace e12 : v12 = .slice (some ⟨b1, off1, none⟩) n ac := e12; subst e12; intro v13 h13 e13; replace e13 : v13 = .int .i64 (k : Int) := e13; subst e13; exact exec_val (c := .pointer (some ⟨b1, off1 + k, none⟩)) (wanted_none rfl) (by go_simp) rfl
        case o3 => intro aR wR hR; replace hR := hR.undrew; intro v14 h14 e14; replace e14 : v14 = .pointer (some ⟨b1, off1 + k, none⟩) := e14; subst e14; (have h1 := hR.cell C1.out (by simp)); exact exec_val (c := .int .i64 x) (wanted_none rfl) (by go_simp) rfl
        case o4 => intro aR wR hR; replace hR := hR.undrew; intro (h1 : aR.tmps[1]? = some (.slice (some ⟨b2, off2, none⟩) m bc)); exact exec_val (c := .slice (some ⟨b2, off2, none⟩) m bc) (wanted_none rfl) (by go_simp) rfl
        case o5 => intro aR wR hR; replace hR := hR.undrew; intro (h5 : aR.tmps[5]? = some (.int .i64 (k : Int))); exact exec_val (c := .int .i64 (k : Int)) (wanted_none rfl) (by go_simp) rfl
        case o6 => intro aR wR hR; replace hR := hR.undrew; intro v16 h16 e16; replace e16 : v16 = .slice (some ⟨b2, off2, none⟩) m bc := e16; subst e16; intro v17 h17 e17; replace e17 : v17 = .int .i64 (k : Int) := e17; subst e17; exact exec_val (c := .pointer (some ⟨b2, off2 + k, none⟩)) (wanted_none rfl) (by go_simp) rfl
        case o7 => intro aR wR hR; replace hR := hR.undrew; intro v18 h18 e18; replace e18 : v18 = .pointer (some ⟨b2, off2 + k, none⟩) := e18; subst e18; (have h1 := hR.cell C2.out (by simp)); exact exec_val (c := .int .i64 y) (wanted_none rfl) (by go_simp) rfl
        case o8 => intro aR wR hR; replace hR := hR.undrew; intro v15 h15 e15; replace e15 : v15 = .int .i64 x := e15; subst e15; intro v19 h19 e19; replace e19 : v19 = .int .i64 y := e19; subst e19; exact exec_val (c := .bool (x != y)) (wanted_none rfl) (by go_simp) rfl
      · intro vs wR hR hV
        obtain ⟨e0, e1, e2, e3, e4, e5, e6, e7, e8, -⟩ := hV
        replace e0 : vs 0 = .slice (some ⟨b1, off1, none⟩) n ac := e0
        replace e1 : vs 1 = .int .i64 (k : Int) := e1
        replace e2 : vs 2 = .pointer (some ⟨b1, off1 + k, none⟩) := e2
        replace e3 : vs 3 = .int .i64 x := e3
        replace e4 : vs 4 = .slice (some ⟨b2, off2, none⟩) m bc := e4
        replace e5 : vs 5 = .int .i64 (k : Int) := e5
        replace e6 : vs 6 = .pointer (some ⟨b2, off2 + k, none⟩) := e6
        replace e7 : vs 7 = .int .i64 y := e7
        replace e8 : vs 8 = .bool (x != y) := e8
        simp only [putAll, e0, e1, e2, e3, e4, e5, e6, e7, e8, Nat.reduceAdd, Nat.zero_add]
        clear e0 e1 e2 e3 e4 e5 e6 e7 e8
        try simp only [List.setIfInBounds_toArray, List.set_cons_succ, List.set_cons_zero]
        by_cases hxy : x = y
        · have HF := Lib.hid (HST.out hxy)
          have hb1 : (x != y) = false := by simp [hxy]
          rw [hb1]
          clear hxy
          go_wp2_with fail
          go_roundw
          case rel => exact ⟨k + 1, hlt, by go_num, HF, Lib.hid (HK.out.tr hR)⟩
          case measure => simp [intOf]; omega
        · have HF := Lib.hid (HBD.out hxy)
          have hb1 : (x != y) = true := by simp [hxy]
          rw [hb1]
          clear hxy
          go_wp2_with fail
          go_ret
          exact ⟨by rw [HF.out]; rfl, HK.out.tr hR⟩
    · obtain rfl : k = n := by omega
      have HX2 : Hid (a = b.take k) := Lib.hid (by have := HX.out; rwa [List.take_of_length_le (by rw [← HN.out]; exact Nat.le_refl _)] at this)
      by_cases hnm : k = m
      · have HF : Hid (v = true) := Lib.hid (by
          rw [HV.out]; refine decide_eq_true ?_
          rw [HX2.out, List.take_of_length_le (by rw [← HM.out, hnm]; exact Nat.le_refl _)])
        have hb1 : ((k : Int) == (m : Int)) = true := by simp [hnm]
        clear hnm
        go_wp2_with fail
        go_ret
        exact ⟨by rw [HF.out]; rfl, HK.out⟩
      · have HF : Hid (v = false) := Lib.hid (by
          rw [HV.out]; refine decide_eq_false (fun e => hnm ?_)
          rw [HN.out, HM.out, e])
        have hb1 : ((k : Int) == (m : Int)) = false := by simp; omega
        go_wp2_with fail
        go_ret
        exact ⟨by rw [HF.out]; rfl, HK.out⟩
end Go.Proofs.Ythmaobmgogmaoaa
