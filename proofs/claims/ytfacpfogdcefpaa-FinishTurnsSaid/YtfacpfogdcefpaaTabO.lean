/-
  Tables: the law of sorting.
-/
import Derived.Test.YtfacpfogdcefpaaTabN
namespace Go.Proofs.Ytfacpfogdcefpaa
open Go.RowKit Go.Shelf
set_option linter.unusedSimpArgs false
set_option linter.unusedVariables false
set_option maxRecDepth 100000

/-- What both sorts tell: the same error, rows that read the same. -/
theorem two_sorts {w w1 : World} {l : List Col} {c : Cfg} {a b : List Hd} {e : Ending} {base : Nat} (hb : base ≤ w.heap.size) (hl : b.length ≤ 1000000) (h : SortPost w l c a e w1) (hab : a.map (·.row) = b.map (·.row)) :
    ∃ oa oc R, e = .returned (.tuple #[.slice oa R.length oc, .int .i64 (sortE l c b)]) ∧ OutP w1 base oa oc R ∧ RdR w1 oa oc R ∧ Kp [] w w1 ∧ R.length ≤ 1000000 ∧ (sortE l c b = 0 → R.length = b.length ∧ SortedL c.srt (b.map (·.row)) (R.map (·.row))) ∧ (sortE l c b ≠ 0 → R = []) := by
  obtain ⟨k, h⟩ := h
  rw [sortE_congr hab] at h
  have hlen := (rowA_congr hab).1
  rcases h with ⟨h1, rfl⟩ | ⟨h1, g, R, rfl, h2, h3, h4, h5, h6⟩
  · exact ⟨none, 0, [], rfl, OutP.nil _ _, ⟨RdS.nil _ _ _, by simp⟩, k, by simp, fun h => (h1 h).elim, fun _ => rfl⟩
  · refine ⟨some ⟨g, 0, none⟩, R.length, R, by rw [h1, h4], outP_own h3 h6 (by omega) (by omega), rdR_own h3 h6 (by omega), k, by omega, fun _ => ⟨by omega, by rw [← hab]; exact h5⟩, fun h => (h h1).elim⟩
theorem rwant {w w1 : World} {l : List Col} {c : Cfg} {b : List Hd} {e : Ending} (h : RSortPost w l c b e w1) :
    ∃ oa oc R, e = .returned (.tuple #[.slice oa R.length oc, .int .i64 (sortE l c b)]) ∧ RdR w1 oa oc R ∧ Kp [] w w1 ∧ (sortE l c b = 0 → SortedL c.srt (b.map (·.row)) (R.map (·.row))) ∧ (sortE l c b ≠ 0 → R = []) := by
  obtain ⟨k, h⟩ := h
  rcases h with ⟨h1, rfl⟩ | ⟨h1, oa, oc, R, rfl, h2, h3, h4⟩
  · exact ⟨none, 0, [], rfl, ⟨RdS.nil _ _ _, by simp⟩, k, fun h => (h1 h).elim, fun _ => rfl⟩
  · exact ⟨oa, oc, R, by rw [h1, h2], h3, k, fun _ => h4, fun h => (h h1).elim⟩

set_option maxHeartbeats 1600000 in
theorem tableSorts_any (ad : Option Addr) (cap n : Nat) (l : List Col) (hn : n = l.length) (c : Cfg) (ra : Option Addr) (rc m : Nat) (hs : List Hd) (hm : m = hs.length) (w : World) (h : RdC w ad cap l) (ho : COk l) (hc : RdCfg w c) (hr : RdR w ra rc hs) :
    Calls Try.prog 3 #[.slice ad n cap, cfgV c, .slice ra m rc] w fun e w' => e = .returned (.bool true) ∧ Kp [] w w' := by
  have H := Lib.hid h
  have HO := Lib.hid ho
  have HC := Lib.hid hc
  have HR := Lib.hid hr
  have HN := Lib.hid hn
  have HM := Lib.hid hm
  have GT : Hid (∀ W, Kp [] w W → Calls Try.prog 9 #[.slice ad n cap, cfgV c, .slice ra m rc, .int .i64 ((200 : Nat) : Int)] W (BoolPost fun b w' => Kp [] W w' ∧ GreatB l c hs 200 b)) := Lib.hid (fun W k => r18Great_any ad cap n l HN.out c ra rc m hs HM.out 200 W (H.out.keep0 k) HO.out (HR.out.keep0 k) (by omega))
  have ST : Hid (GreatB l c hs 200 false → ∀ W ia ic cs, Kp [] w W → RdR W ia ic cs → cs.map (·.row) = hs.map (·.row) → Calls Try.prog 12 #[.slice ad n cap, cfgV c, .slice ia m ic] W (SortPost W l c cs)) := Lib.hid (fun hg W ia ic cs k hcs he => by
    obtain ⟨g1, g2, g3⟩ := hg rfl
    have hnn : n ≤ 300 := by
      unfold greatC at g1
      rw [Bool.or_eq_false_iff, decide_eq_false_iff_not] at g1
      rw [HN.out]; omega
    have hl := (rowA_congr he).1
    refine tSorted_any ad cap n l HN.out c ia ic m cs (by rw [HM.out, hl]) W (H.out.keep0 k) HO.out (HC.out.keep0 k) hcs (by omega) (by rw [HM.out]; omega) (fun x hx => ?_)
    have h1 : x.row ∈ hs.map (·.row) := by rw [← he]; exact List.mem_map_of_mem hx
    obtain ⟨y, hy, h2⟩ := List.mem_map.1 h1
    rw [← h2]; have := g3 y hy; omega)
  have RT : Hid (GreatB l c hs 200 false → ∀ W, Kp [] w W → Calls Try.prog 13 #[.slice ad n cap, cfgV c, .slice ra m rc] W (RSortPost W l c hs)) := Lib.hid (fun hg W k => by
    obtain ⟨g1, g2, g3⟩ := hg rfl
    have hnn : n ≤ 300 := by
      unfold greatC at g1
      rw [Bool.or_eq_false_iff, decide_eq_false_iff_not] at g1
      rw [HN.out]; omega
    exact r18Sorted_any ad cap n l HN.out c ra rc m hs HM.out W (H.out.keep0 k) HO.out (HC.out.keep0 k) (HR.out.keep0 k) (by omega) (by rw [HM.out]; omega))
  clear h hn ho hr hm hc
  obtain ⟨sv, hsv⟩ : ∃ sv, sv = c.srt := ⟨_, rfl⟩
  obtain ⟨v1, hv1⟩ : ∃ v, v = Value.slice c.ia c.inv.length c.ic := ⟨_, rfl⟩
  obtain ⟨v2, hv2⟩ : ∃ v, v = Value.slice c.ra c.rng.length c.rc := ⟨_, rfl⟩
  obtain ⟨v3, hv3⟩ : ∃ v, v = Value.slice c.sa c.spl.length c.sc := ⟨_, rfl⟩
  obtain ⟨v4, hv4⟩ : ∃ v, v = c.leaf := ⟨_, rfl⟩
  have hcv : cfgV c = .agg #[.int .i64 sv, v1, v2, v3, .int .i64 v4] := by rw [hsv, hv1, hv2, hv3, hv4]; rfl
  rw [hcv] at GT ST RT ⊢
  clear hsv hcv
  go_enter Try.func3, Try.ntmps3
  simp only [hv1, hv2, hv3]
  go_wp2_with fail
  simp only [hv1, hv2, hv3, hv4] at GT ST RT
  refine (GT.out _ ((Kp.refl [] w).alloc _)).mono ?_
  rintro e w2 ⟨gb, rfl, kp2, hgb⟩
  have K2 : Hid (Kp [] w w2) := Lib.hid (((Kp.refl [] w).alloc _).trans kp2 (by simp) (by simp))
  have hp := kp2.get (heap_alloc_at (w := w) (o := Obj.cells #[Value.int IntKind.i64 sv, Value.slice c.ia c.inv.length c.ic, Value.slice c.ra c.rng.length c.rc, Value.slice c.sa c.spl.length c.sc, Value.int IntKind.i64 c.leaf] 26) rfl) (by simp)
  obtain ⟨p, hp0⟩ : ∃ p, p = w.heap.size := ⟨_, rfl⟩
  rw [← hp0] at hp ⊢
  have HP : Hid (∀ W, Kp [] w2 W → W.heap[p]? = some (.cells #[Value.int IntKind.i64 sv, Value.slice c.ia c.inv.length c.ic, Value.slice c.ra c.rng.length c.rc, Value.slice c.sa c.spl.length c.sc, Value.int IntKind.i64 c.leaf] 26)) := Lib.hid (fun W k => k.get hp (by simp))
  clear kp2 hp hp0 GT
  cases gb
  · have HG := Lib.hid hgb
    have hmm : m ≤ 200 := by rw [HM.out]; exact (hgb rfl).2.1
    clear hgb
    go_wp2_with fail
    refine (r18Copy_any ra rc m hs HM.out w2 (HR.out.keep0 K2.out) (by omega) (fun x hx => by have := (HG.out rfl).2.2 x hx; omega)).mono ?_
    rintro e w3 ⟨ia, ic, cs, rfl, hoc, hcs, kp3⟩
    rw [← HM.out]
    have HCS := Lib.hid hcs
    have HOC := Lib.hid hoc
    have K3 := Lib.hid (K2.out.tr kp3)
    have K23 := Lib.hid kp3
    clear hcs hoc kp3
    go_wp2_with (refine wpList_load_row rfl 26 _ rfl p rfl 26 #[Value.int IntKind.i64 sv, Value.slice c.ia c.inv.length c.ic, Value.slice c.ra c.rng.length c.rc, Value.slice c.sa c.spl.length c.sc, Value.int IntKind.i64 c.leaf] (0, 0) _ (HP.out _ K23.out) Try.underlying26 rfl (by kernel_rfl) ?_)
    refine (ST.out HG.out w3 ia ic cs K3.out HOC.out.rd HCS.out).mono ?_
    rintro e w4 h4
    obtain ⟨oa, oc, R, rfl, hout, hrd, kp4, hRl, hok, hbad⟩ := two_sorts (Nat.le_refl _) (by rw [← HM.out]; omega) h4 HCS.out
    have HOUT := Lib.hid hout
    have HRD := Lib.hid hrd
    have HOK := Lib.hid hok
    have HBAD := Lib.hid hbad
    have K4 := Lib.hid (K3.out.tr kp4)
    have K24 := Lib.hid (K23.out.tr kp4)
    have K34 := Lib.hid kp4
    clear h4 hout hrd hok hbad kp4
    go_wp2_with (refine wpList_load_row rfl 26 _ rfl p rfl 26 #[Value.int IntKind.i64 sv, Value.slice c.ia c.inv.length c.ic, Value.slice c.ra c.rng.length c.rc, Value.slice c.sa c.spl.length c.sc, Value.int IntKind.i64 c.leaf] (0, 0) _ (HP.out _ K24.out) Try.underlying26 rfl (by kernel_rfl) ?_)
    refine (RT.out HG.out w4 K4.out).mono ?_
    rintro e w5 h5
    obtain ⟨qa, qc, Q, rfl, hqd, kp5, hqok, hqbad⟩ := rwant h5
    have HQD := Lib.hid hqd
    have HSM : Hid (sameR R Q = true) := Lib.hid (sameR_iff.2 (by
      by_cases he : sortE l c hs = 0
      · exact (HOK.out he).2.uniq (hqok he)
      · rw [HBAD.out he, hqbad he]))
    have K5 := Lib.hid (K4.out.tr kp5)
    have K35 := Lib.hid (K34.out.tr kp5)
    have K45 := Lib.hid kp5
    clear h5 hqd hqok hqbad kp5 HOK HBAD
    generalize sortE l c hs = ev at *
    go_wp2_with fail
    refine (tMay_any ad cap n l HN.out ia ic m cs (by rw [HM.out]; exact (rowA_congr HCS.out).1.symm) w5 (H.out.keep0 K5.out) HO.out (HOC.out.rd.keep0 K35.out) (by omega)).mono ?_
    rintro e w6 ⟨rfl, kp6⟩
    rw [mayT_congr HCS.out]
    have K6 := Lib.hid (K5.out.tr kp6)
    have K36 := Lib.hid (K35.out.tr kp6)
    have K46 := Lib.hid (K45.out.tr kp6)
    have K56 := Lib.hid kp6
    clear kp6
    go_wp2_with fail
    refine (r18May_any ad cap n l HN.out ra rc m hs HM.out w6 (H.out.keep0 K6.out) HO.out (HR.out.keep0 K6.out) (by omega)).mono ?_
    rintro e w7 ⟨rfl, kp7⟩
    generalize mayT l hs = mt at *
    have hn1 : (mt != mt) = false := by simp
    have hn2 : (ev != ev) = false := by simp
    have K7 := Lib.hid (K6.out.tr kp7)
    have K37 := Lib.hid (K36.out.tr kp7)
    have K47 := Lib.hid (K46.out.tr kp7)
    have K57 := Lib.hid (K56.out.tr kp7)
    clear kp7
    go_wp2_with fail
    refine (r18Same_any oa oc R.length R rfl qa qc Q.length Q rfl w7 (HRD.out.keep0 K47.out) (HQD.out.keep0 K57.out)).mono ?_
    rintro e w8 ⟨rfl, kp8⟩
    rw [HSM.out]
    have K8 := Lib.hid (K7.out.tr kp8)
    have K38 := Lib.hid (K37.out.tr kp8)
    have K48 := Lib.hid (K47.out.tr kp8)
    clear kp8
    have HS2 : Hid (sameR cs hs = true) := Lib.hid (sameR_iff.2 HCS.out)
    go_wp2_with fail
    refine (r18Same_any ia ic m cs (by rw [HM.out]; exact (rowA_congr HCS.out).1.symm) ra rc m hs HM.out w8 (HOC.out.rd.keep0 K38.out) (HR.out.keep0 K8.out)).mono ?_
    rintro e w9 ⟨rfl, kp9⟩
    rw [HS2.out]
    have K39 : Hid (Kp [] w3 w9) := Lib.hid (K38.out.tr kp9)
    have HO9 : Hid (OutP w9 w3.heap.size oa oc R) := Lib.hid (HOUT.out.keep0 (K48.out.tr kp9))
    have HRL := Lib.hid hRl
    obtain ⟨on, hon⟩ : ∃ on, on = R.length := ⟨_, rfl⟩
    rw [← hon] at hRl ⊢
    have HON := Lib.hid hon
    clear kp9 hon HSM HRD HQD HOUT K4 K24 K34 K5 K35 K45 K6 K36 K46 K56 K7 K37 K47 K57 K8 K38 K48
    go_wp2_with fail
    go_loopw [61] (fun vi wr => ∃ i : Nat, i ≤ on ∧ vi = .int .i64 i ∧ Hid (OutP wr w3.heap.size oa oc R) ∧ Hid (Kp [] w3 wr)) (fun vi _ => on - (intOf vi).toNat)
    case atStart => exact ⟨0, Nat.zero_le _, rfl, HO9, K39⟩
    case round =>
      obtain ⟨i, hi, rfl, HOP, HK⟩ := hrel
      obtain ⟨wo, rfl⟩ : ∃ wo : World, wo = wr := ⟨_, rfl⟩
      by_cases hlt : i < on
      · have hir : i < R.length := by rw [← HON.out]; exact hlt
        obtain ⟨x, hx⟩ : ∃ x, x = R[i] := ⟨_, rfl⟩
        have hxm : x ∈ R := by rw [hx]; exact List.getElem_mem _
        have CX : Hid (∀ W, OutP W w3.heap.size oa oc R → ∃ b off, oa = some ⟨b, off, none⟩ ∧ W.cell? ⟨b, off + i, none⟩ = some (.slice x.ad x.n x.cap)) := Lib.hid (fun W hW => by rw [hx]; exact hW.rd.at1 i hir)
        obtain ⟨q, hq1, hq2, -, -, hq4, hq5, hq6⟩ := HOP.out.row x hxm
        obtain ⟨b, off, hoa, c0⟩ := CX.out wo HOP.out
        subst hoa
        have HXM := Lib.hid hxm
        have HQA := Lib.hid hq1
        obtain ⟨xa, xn, xc, xr⟩ := x
        dsimp only at hq1 hq4 hq5 hq6 c0
        subst hq1
        clear hx hxm hir
        go_wp2_with fail
        go_loopw [69] (fun vk wr => ∃ k : Nat, k ≤ xn ∧ vk = .int .i64 k ∧ Hid (OutP wr w3.heap.size (some ⟨b, off, none⟩) oc R) ∧ Hid (Kp [] w3 wr)) (fun vk _ => xn - (intOf vk).toNat)
        case atStart => exact ⟨0, Nat.zero_le _, rfl, HOP, HK⟩
        case round =>
          obtain ⟨k, hk, rfl, HOP, HK⟩ := hrel
          obtain ⟨wi, rfl⟩ : ∃ wi : World, wi = wr := ⟨_, rfl⟩
          by_cases hlk : k < xn
          · obtain ⟨b', off', hba, c1⟩ := CX.out wi HOP.out
            cases hba
            obtain ⟨q', g1, -, g3, -⟩ := HOP.out.row _ HXM.out
            cases g1
            obtain ⟨⟨z, d1⟩, d2⟩ := g3.at' hlk
            try dsimp only at c1
            have HSET : Hid (∀ z, OutP (wi.setCell ⟨q, k * 3 + 1, none⟩ (.int .i64 z)) w3.heap.size (some ⟨b, off, none⟩) oc R) := Lib.hid (fun z => HOP.out.set HXM.out rfl hlk z)
            clear g3 c0
            go_wp2_with fail
            go_roundw
            case rel => exact ⟨k + 1, hlk, by go_num, Lib.hid (HSET.out _), Lib.hid (HK.out.setCell _ _ (.inr hq2))⟩
            case measure => simp [intOf]; omega
          · obtain rfl : k = xn := by omega
            go_wp2_with fail
            go_roundw
            case rel => exact ⟨i + 1, hlt, by go_num, HOP, HK⟩
            case measure => simp [intOf]; omega
      · obtain rfl : i = on := by omega
        go_wp2_with fail
        refine (r18Same_any ia ic m cs (by rw [HM.out]; exact (rowA_congr HCS.out).1.symm) ra rc m hs HM.out wo (HOC.out.rd.keep0 HK.out) (HR.out.keep0 (K3.out.tr HK.out))).mono ?_
        rintro e w10 ⟨rfl, kp10⟩
        rw [HS2.out]
        go_wp2_with fail
        refine (known18_any w10).mono ?_
        rintro e w11 ⟨rfl, kp11⟩
        go_wp2_with fail
        go_ret
        exact ⟨rfl, ((K3.out.tr HK.out).tr kp10).tr kp11⟩
  · go_wp2_with fail
    refine (known18_any w2).mono ?_
    rintro e w3 ⟨rfl, kp3⟩
    go_wp2_with fail
    go_ret
    exact ⟨rfl, K2.out.tr kp3⟩
end Go.Proofs.Ytfacpfogdcefpaa
