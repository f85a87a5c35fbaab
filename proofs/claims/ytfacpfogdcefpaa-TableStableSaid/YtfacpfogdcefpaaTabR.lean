/-
  Tables: the law of what stays in order.
-/
import Derived.Test.YtfacpfogdcefpaaTabS
namespace Go.Proofs.Ytfacpfogdcefpaa
open Go.RowKit Go.Shelf
set_option linter.unusedSimpArgs false
set_option linter.unusedVariables false
set_option maxRecDepth 100000

/-- A value of a column, in memory. -/
theorem row_val {w : World} {ra : Option Addr} {rc : Nat} {hs : List Hd} (h : RdR w ra rc hs) {s i : Nat} (hi : i < hs.length) (hsr : s < (rowA hs i).length) :
    ∃ b off b3 off3 xn xc, ra = some ⟨b, off, none⟩ ∧ s < xn ∧ ∀ W, Kp [] w W → W.cell? ⟨b, off + i, none⟩ = some (.slice (some ⟨b3, off3, none⟩) xn xc) ∧ W.cell? ⟨b3, off3 + s * 3, none⟩ = some (.int .u8 (atV (rowA hs i) s).k) ∧ W.cell? ⟨b3, off3 + s * 3 + 1, none⟩ = some (.int .i64 (atV (rowA hs i) s).n) ∧ W.cell? ⟨b3, off3 + s * 3 + 2, none⟩ = some (.string (atV (rowA hs i) s).s) := by
  obtain ⟨b, off, xa, xn, xc, rfl, c0, hxn, hxr⟩ := h.at' i hi
  obtain ⟨b3, off3, rfl, d0, d1, d2⟩ := hxr.atV s hsr
  exact ⟨b, off, b3, off3, xn, xc, rfl, by omega, fun W hW => ⟨hW.cell c0 (by simp), hW.cell d0 (by simp), hW.cell d1 (by simp), hW.cell d2 (by simp)⟩⟩
theorem ints_at {w : World} {tb k : Nat} {D : List Int} {t : TypeId} (h : w.heap[tb]? = some (.cells (ints .i64 D) t (0, 0))) (hk : k < D.length) :
    w.cell? ⟨tb, k, none⟩ = some (.int .i64 (nth D k)) ∧ w.frozen? ⟨tb, k, none⟩ = false := by
  refine ⟨?_, frozen_of_row w tb _ _ _ h⟩
  rw [cell_of_row w tb _ _ _ _ h]
  simp [ints, nth, hk]
theorem ints_set {w : World} {tb k : Nat} {D : List Int} {t : TypeId} (h : w.heap[tb]? = some (.cells (ints .i64 D) t (0, 0))) (z : Int) :
    (w.setCell ⟨tb, k, none⟩ (.int .i64 z)).heap[tb]? = some (.cells (ints .i64 (D.set k z)) t (0, 0)) := by
  rw [heap_setCell_same w tb _ _ _ _ h]
  simp [ints]
theorem nth_set (D : List Int) (k j : Nat) (z : Int) (hk : k < D.length) : nth (D.set k z) j = if j = k then z else nth D j := by
  unfold nth
  rw [List.getD_eq_getElem?_getD, List.getElem?_set, List.getD_eq_getElem?_getD]
  by_cases h : k = j
  · subst h; simp [hk]
  · rw [if_neg h, if_neg (fun e => h e.symm)]
/-- What Sorted tells where it sorts. -/
theorem sorted_ok {w w1 : World} {l : List Col} {c : Cfg} {hs : List Hd} {e : Ending} {m : Nat} (hm : m = hs.length) (hl : m ≤ 1000000) (h : SortPost w l c hs e w1) :
    Kp [] w w1 ∧ ((sortE l c hs ≠ 0 ∧ e = .returned (.tuple #[.slice none 0 0, .int .i64 (sortE l c hs)])) ∨
    (sortE l c hs = 0 ∧ ∃ oa R, e = .returned (.tuple #[.slice oa m m, .int .i64 0]) ∧ RdR w1 oa m R ∧ m = R.length ∧ SortedL c.srt (hs.map (·.row)) (R.map (·.row)))) := by
  obtain ⟨k, h⟩ := h
  refine ⟨k, ?_⟩
  rcases h with h | ⟨h1, g, R, rfl, h2, h3, h4, h5, h6⟩
  · exact .inl h
  · subst hm
    have := rdR_own h3 h6 (by omega)
    rw [h4] at this
    exact .inr ⟨h1, some ⟨g, 0, none⟩, R, rfl, this, h4.symm, h5⟩
theorem sortE_ok {l : List Col} {c : Cfg} {hs : List Hd} (h : sortE l c hs = 0) : fitsC l c = true ∧ mayT l hs = 0 := by
  unfold sortE at h
  cases hf : fitsC l c with
  | false => rw [hf] at h; simp at h
  | true => rw [hf] at h; exact ⟨rfl, by simpa using h⟩

set_option maxHeartbeats 3200000 in
theorem tableStable_any (ad : Option Addr) (cap n : Nat) (l : List Col) (hn : n = l.length) (c : Cfg) (ra : Option Addr) (rc m : Nat) (hs : List Hd) (hm : m = hs.length) (w : World) (h : RdC w ad cap l) (ho : COk l) (hc : RdCfg w c) (hr : RdR w ra rc hs) :
    Calls Try.prog 5 #[.slice ad n cap, cfgV c, .slice ra m rc] w fun e w' => e = .returned (.bool true) ∧ Kp [] w w' := by
  have H := Lib.hid h
  have HO := Lib.hid ho
  have HC := Lib.hid hc
  have HR := Lib.hid hr
  have HN := Lib.hid hn
  have HM := Lib.hid hm
  have GT : Hid (∀ W, Kp [] w W → Calls Try.prog 9 #[.slice ad n cap, cfgV c, .slice ra m rc, .int .i64 ((200 : Nat) : Int)] W (BoolPost fun b w' => Kp [] W w' ∧ GreatB l c hs 200 b)) := Lib.hid (fun W k => r18Great_any ad cap n l HN.out c ra rc m hs HM.out 200 W (H.out.keep0 k) HO.out (HR.out.keep0 k) (by omega))
  have ST : Hid (GreatB l c hs 200 false → ∀ W ia ic cs, Kp [] w W → RdR W ia ic cs → m = cs.length → (∀ x ∈ cs, x.row.length ≤ 1000000) → Calls Try.prog 12 #[.slice ad n cap, cfgV c, .slice ia m ic] W (SortPost W l c cs)) := Lib.hid (fun hg W ia ic cs k hcs hl hx => by
    obtain ⟨g1, g2, g3⟩ := hg rfl
    have hnn : n ≤ 300 := by
      unfold greatC at g1
      rw [Bool.or_eq_false_iff, decide_eq_false_iff_not] at g1
      rw [HN.out]; omega
    exact tSorted_any ad cap n l HN.out c ia ic m cs hl W (H.out.keep0 k) HO.out (HC.out.keep0 k) hcs (by omega) (by rw [HM.out]; omega) hx)
  clear h hn ho hr hm hc
  obtain ⟨sv, hsv⟩ : ∃ sv, sv = c.srt := ⟨_, rfl⟩
  obtain ⟨v1, hv1⟩ : ∃ v, v = Value.slice c.ia c.inv.length c.ic := ⟨_, rfl⟩
  obtain ⟨v2, hv2⟩ : ∃ v, v = Value.slice c.ra c.rng.length c.rc := ⟨_, rfl⟩
  obtain ⟨v3, hv3⟩ : ∃ v, v = Value.slice c.sa c.spl.length c.sc := ⟨_, rfl⟩
  obtain ⟨v4, hv4⟩ : ∃ v, v = c.leaf := ⟨_, rfl⟩
  have hcv : cfgV c = .agg #[.int .i64 sv, v1, v2, v3, .int .i64 v4] := by rw [hsv, hv1, hv2, hv3, hv4]; rfl
  have HSV : Hid (c.srt = sv) := Lib.hid hsv.symm
  rw [hcv] at GT ST ⊢
  clear hsv hcv
  go_enter Try.func5, Try.ntmps5
  simp only [hv1, hv2, hv3]
  go_wp2_with fail
  simp only [hv1, hv2, hv3, hv4] at GT ST
  refine (GT.out _ ((Kp.refl [] w).alloc _)).mono ?_
  rintro e w2 ⟨gb, rfl, kp2, hgb⟩
  have K2 : Hid (Kp [] w w2) := Lib.hid (((Kp.refl [] w).alloc _).trans kp2 (by simp) (by simp))
  have hp := kp2.get (heap_alloc_at (w := w) (o := Obj.cells #[Value.int IntKind.i64 sv, Value.slice c.ia c.inv.length c.ic, Value.slice c.ra c.rng.length c.rc, Value.slice c.sa c.spl.length c.sc, Value.int IntKind.i64 c.leaf] 26) rfl) (by simp)
  obtain ⟨p, hp0⟩ : ∃ p, p = w.heap.size := ⟨_, rfl⟩
  rw [← hp0] at hp ⊢
  have HP : Hid (∀ W, Kp [] w2 W → W.heap[p]? = some (.cells #[Value.int IntKind.i64 sv, Value.slice c.ia c.inv.length c.ic, Value.slice c.ra c.rng.length c.rc, Value.slice c.sa c.spl.length c.sc, Value.int IntKind.i64 c.leaf] 26)) := Lib.hid (fun W k => k.get hp (by simp))
  have HPC : Hid (∀ W, Kp [] w2 W → W.cell? ⟨p, 0, none⟩ = some (.int .i64 sv)) := Lib.hid (fun W k => by rw [cell_of_row W p 0 _ _ _ (HP.out W k)]; rfl)
  clear kp2 hp hp0 GT
  cases gb
  · have HG := Lib.hid hgb
    have hmm : m ≤ 200 := by rw [HM.out]; exact (hgb rfl).2.1
    have HRB : Hid (∀ x ∈ hs, x.row.length ≤ 1000000) := Lib.hid (fun x hx => by have := (hgb rfl).2.2 x hx; omega)
    clear hgb
    go_wp2_with (refine wpList_load_row rfl 26 _ rfl p rfl 26 #[Value.int IntKind.i64 sv, Value.slice c.ia c.inv.length c.ic, Value.slice c.ra c.rng.length c.rc, Value.slice c.sa c.spl.length c.sc, Value.int IntKind.i64 c.leaf] (0, 0) _ (HP.out _ (Kp.refl _ _)) Try.underlying26 rfl (by kernel_rfl) ?_)
    refine (ST.out HG.out w2 ra rc hs K2.out (HR.out.keep0 K2.out) HM.out HRB.out).mono ?_
    rintro e w3 h3
    obtain ⟨kp3, h3⟩ := sorted_ok HM.out (by omega) h3
    have K3 := Lib.hid (K2.out.tr kp3)
    have K23 := Lib.hid kp3
    clear kp3
    rcases h3 with ⟨hne, rfl⟩ | ⟨hz, oa, R, rfl, hrd, hRl, hsl⟩
    · generalize sortE l c hs = ev at *
      have hvz : ((ev : Int) != 0) = true := by simpa using hne
      clear hne
      go_wp2_with fail
      refine (known18_any w3).mono ?_
      rintro e w4 ⟨rfl, kp4⟩
      go_wp2_with fail
      go_ret
      exact ⟨rfl, K3.out.tr kp4⟩
    · have HZ := Lib.hid hz
      have HRD := Lib.hid hrd
      have HRL := Lib.hid hRl
      have HSL := Lib.hid hsl
      clear hz hrd hRl hsl
      have HRRB : Hid (∀ x ∈ R, ∃ y ∈ hs, y.row = x.row) := Lib.hid (fun x hx => by
        have := HSL.out.perm.mem_iff.1 (List.mem_map_of_mem (f := (·.row)) hx)
        obtain ⟨y, hy, e⟩ := List.mem_map.1 this
        exact ⟨y, hy, e⟩)
      go_wp2_with (refine wpList_load_row rfl 26 _ rfl p rfl 26 #[Value.int IntKind.i64 sv, Value.slice c.ia c.inv.length c.ic, Value.slice c.ra c.rng.length c.rc, Value.slice c.sa c.spl.length c.sc, Value.int IntKind.i64 c.leaf] (0, 0) _ (HP.out _ K23.out) Try.underlying26 rfl (by kernel_rfl) ?_)
      refine (ST.out HG.out w3 oa m R K3.out HRD.out HRL.out (fun x hx => by obtain ⟨y, hy, e⟩ := HRRB.out x hx; rw [← e]; exact HRB.out y hy)).mono ?_
      rintro e w4 h4
      obtain ⟨kp4, h4⟩ := sorted_ok HRL.out (by omega) h4
      have hz2 : sortE l c R = 0 := by
        obtain ⟨z1, z2⟩ := sortE_ok HZ.out
        unfold sortE
        rw [z1, mayT_perm HSL.out.perm, z2]; rfl
      rcases h4 with ⟨hne, -⟩ | ⟨-, oa2, R2, rfl, hrd2, hRl2, hsl2⟩
      · exact (hne hz2).elim
      · have HSAME : Hid (sameR R2 R = true) := Lib.hid (sameR_iff.2 (HSL.out.again hsl2))
        have HRD2 := Lib.hid hrd2
        have HRL2 := Lib.hid hRl2
        have K4 := Lib.hid (K3.out.tr kp4)
        have K24 := Lib.hid (K23.out.tr kp4)
        have K34 := Lib.hid kp4
        clear hz2 hrd2 hRl2 hsl2 kp4
        go_wp2_with fail
        refine (tSame_any oa2 m m R2 HRL2.out oa m m R HRL.out w4 HRD2.out (HRD.out.keep0 K34.out)).mono ?_
        rintro e w5 ⟨rfl, kp5⟩
        rw [HSAME.out]
        have K5 := Lib.hid (K4.out.tr kp5)
        have K25 := Lib.hid (K24.out.tr kp5)
        have HRD5 := Lib.hid (HRD.out.keep0 (K34.out.tr kp5))
        have HR5 := Lib.hid (HR.out.keep0 K5.out)
        have HPC5 : Hid (∀ W, Kp [] w5 W → W.cell? ⟨p, 0, none⟩ = some (.int .i64 sv)) := Lib.hid (fun W k => HPC.out W (K25.out.tr k))
        have hps := HPC.out w5 K25.out
        have hmn : ((m : Int) != (m : Int)) = false := by simp
        clear kp5 K3 K4 K23 K24 K34 HRD HRD2 HRL2 HSAME ST HP HPC K25 HC
        by_cases hneg : sv < 0
        · have HSM : Hid (sameR R hs = true) := Lib.hid (sameR_iff.2 (HSL.out.1 (by rw [HSV.out]; exact hneg)))
          go_wp2_with fail
          refine (tSame_any oa m m R HRL.out ra rc m hs HM.out w5 HRD5.out HR5.out).mono ?_
          rintro e w6 ⟨rfl, kp6⟩
          rw [HSM.out]
          go_wp2_with fail
          refine (known18_any w6).mono ?_
          rintro e w7 ⟨rfl, kp7⟩
          go_wp2_with fail
          go_ret
          exact ⟨rfl, (K5.out.tr kp6).tr kp7⟩
        · obtain ⟨s, rfl⟩ : ∃ s : Nat, sv = s := ⟨sv.toNat, by omega⟩
          have HST : Hid (Stab (ltr s) (hs.map (·.row)) (R.map (·.row))) := Lib.hid (by
            have := HSL.out.2 (by rw [HSV.out]; omega)
            rwa [HSV.out, Int.toNat_natCast] at this)
          have HSH : Hid (∀ x ∈ hs, s < x.row.length) := Lib.hid (fun x hx => by
            obtain ⟨z1, z2⟩ := sortE_ok HZ.out
            rw [((mayT_ok z2).2 x hx).1]
            have := fits_srt z1
            rw [HSV.out] at this
            omega)
          have HSI : Hid (∀ i, i < m → s < (rowA hs i).length) := Lib.hid (fun i hi => by
            rw [rowA_eq hs i (by rw [← HM.out]; exact hi)]; exact HSH.out _ (List.getElem_mem _))
          have HSR : Hid (∀ i, i < m → s < (rowA R i).length) := Lib.hid (fun i hi => by
            rw [rowA_eq R i (by rw [← HRL.out]; exact hi)]
            obtain ⟨y, hy, e⟩ := HRRB.out _ (List.getElem_mem (by rw [← HRL.out]; exact hi))
            rw [← e]; exact HSH.out y hy)
          have HSB : Hid (∀ i, i < m → s ≤ 1000000) := Lib.hid (fun i hi => by
            have h1 := HSI.out i hi
            rw [rowA_eq hs i (by rw [← HM.out]; exact hi)] at h1
            have h2 := HRB.out _ (List.getElem_mem (by rw [← HM.out]; exact hi : i < hs.length))
            omega)
          clear HSL HSH HZ HRRB HRB HG hneg
          have hneg : decide ((s : Int) < 0) = false := by simp
          have hmk : ∀ wx : World, _ := fun wx => make_ints (P := Try.prog) wx 24 3 .i64 .i64 .i64 m 8 Try.underlying24 infoIntT (by omega) (by omega)
          go_wp2_with fail
          go_loopw [64] (fun vi wr => ∃ i : Nat, i ≤ m ∧ vi = .int .i64 i ∧ Hid (Kp [] w5 wr)) (fun vi _ => m - (intOf vi).toNat)
          case atStart => exact ⟨0, Nat.zero_le _, rfl, Lib.hid (Kp.refl _ _)⟩
          case round =>
            obtain ⟨i, hi, rfl, HK⟩ := hrel
            obtain ⟨wo, rfl⟩ : ∃ wo : World, wo = wr := ⟨_, rfl⟩
            by_cases hlt : i < m
            · go_upto_region 14 with (fail)
              go_cut [89] (fun v89 wx => v89 = .bool false ∧ Hid (Kp [] wo wx))
              case first =>
                by_cases hi0 : i = 0
                · subst hi0
                  refine wp_region_K (by kernel_rfl) [.val (.int .i64 (((0 : Nat)) : Int)), .val (.bool false), .val (.bool false), .val (undef), .val (undef), .val (undef), .val (undef), .val (undef), .val (undef), .val (undef), .val (undef), .val (undef), .val (undef), .val (undef), .val (undef), .val (undef), .val (undef), .val (undef), .val (undef), .val (undef), .val (undef), .val (undef), .val ((.bool false))] [[(11, none)], [(67, some 0)], [(68, some 1)], [(69, some 2)], [(69, some 2)], [(69, some 2)], [(69, some 2)], [(69, some 2)], [(69, some 2)], [(69, some 2)], [(69, some 2)], [(69, some 2)], [(69, some 2)], [(69, some 2)], [(69, some 2)], [(69, some 2)], [(69, some 2)], [(69, some 2)], [(69, some 2)], [(69, some 2)], [(69, some 2)], [(69, some 2)], [(69, some 2), (88, some 21)]] rfl (by kernel_rfl) ?_ ?_
                  · refine ⟨?o0, ?o1, ?o2, ?o3, ?o4, ?o5, ?o6, ?o7, ?o8, ?o9, ?o10, ?o11, ?o12, ?o13, ?o14, ?o15, ?o16, ?o17, ?o18, ?o19, ?o20, ?o21, ?o22, trivial⟩
                    case o0 => intro aR wR hR; replace hR := hR.undrew; intro (h11 : aR.tmps[11]? = some (.int .i64 (((0 : Nat)) : Int))); exact exec_val (c := .int .i64 (((0 : Nat)) : Int)) (wanted_none rfl) (by go_simp) rfl
                    case o1 => intro aR wR hR; replace hR := hR.undrew; intro v67 h67 e67; replace e67 : v67 = .int .i64 (((0 : Nat)) : Int) := e67; subst e67; exact exec_val (c := .bool false) (wanted_none rfl) (by go_simp) rfl
                    case o2 => intro aR wR hR; replace hR := hR.undrew; intro v68 h68 e68; replace e68 : v68 = .bool false := e68; subst e68; exact exec_val (c := .bool false) (wanted_none rfl) (by go_simp) rfl
                    case o3 => intro aR wR hR; replace hR := hR.undrew; intro v69 h69 e69; replace e69 : v69 = .bool false := e69; subst e69; exact exec_pass (wanted_not (b := true) (t := 69) rfl rfl h69) rfl
                    case o4 => intro aR wR hR; replace hR := hR.undrew; intro v69 h69 e69; replace e69 : v69 = .bool false := e69; subst e69; exact exec_pass (wanted_not (b := true) (t := 69) rfl rfl h69) rfl
                    case o5 => intro aR wR hR; replace hR := hR.undrew; intro v69 h69 e69; replace e69 : v69 = .bool false := e69; subst e69; exact exec_pass (wanted_not (b := true) (t := 69) rfl rfl h69) rfl
                    case o6 => intro aR wR hR; replace hR := hR.undrew; intro v69 h69 e69; replace e69 : v69 = .bool false := e69; subst e69; exact exec_pass (wanted_not (b := true) (t := 69) rfl rfl h69) rfl
                    case o7 => intro aR wR hR; replace hR := hR.undrew; intro v69 h69 e69; replace e69 : v69 = .bool false := e69; subst e69; exact exec_pass (wanted_not (b := true) (t := 69) rfl rfl h69) rfl
                    case o8 => intro aR wR hR; replace hR := hR.undrew; intro v69 h69 e69; replace e69 : v69 = .bool false := e69; subst e69; exact exec_pass (wanted_not (b := true) (t := 69) rfl rfl h69) rfl
                    case o9 => intro aR wR hR; replace hR := hR.undrew; intro v69 h69 e69; replace e69 : v69 = .bool false := e69; subst e69; exact exec_pass (wanted_not (b := true) (t := 69) rfl rfl h69) rfl
                    case o10 => intro aR wR hR; replace hR := hR.undrew; intro v69 h69 e69; replace e69 : v69 = .bool false := e69; subst e69; exact exec_pass (wanted_not (b := true) (t := 69) rfl rfl h69) rfl
                    case o11 => intro aR wR hR; replace hR := hR.undrew; intro v69 h69 e69; replace e69 : v69 = .bool false := e69; subst e69; exact exec_pass (wanted_not (b := true) (t := 69) rfl rfl h69) rfl
                    case o12 => intro aR wR hR; replace hR := hR.undrew; intro v69 h69 e69; replace e69 : v69 = .bool false := e69; subst e69; exact exec_pass (wanted_not (b := true) (t := 69) rfl rfl h69) rfl
                    case o13 => intro aR wR hR; replace hR := hR.undrew; intro v69 h69 e69; replace e69 : v69 = .bool false := e69; subst e69; exact exec_pass (wanted_not (b := true) (t := 69) rfl rfl h69) rfl
                    case o14 => intro aR wR hR; replace hR := hR.undrew; intro v69 h69 e69; replace e69 : v69 = .bool false := e69; subst e69; exact exec_pass (wanted_not (b := true) (t := 69) rfl rfl h69) rfl
                    case o15 => intro aR wR hR; replace hR := hR.undrew; intro v69 h69 e69; replace e69 : v69 = .bool false := e69; subst e69; exact exec_pass (wanted_not (b := true) (t := 69) rfl rfl h69) rfl
                    case o16 => intro aR wR hR; replace hR := hR.undrew; intro v69 h69 e69; replace e69 : v69 = .bool false := e69; subst e69; exact exec_pass (wanted_not (b := true) (t := 69) rfl rfl h69) rfl
                    case o17 => intro aR wR hR; replace hR := hR.undrew; intro v69 h69 e69; replace e69 : v69 = .bool false := e69; subst e69; exact exec_pass (wanted_not (b := true) (t := 69) rfl rfl h69) rfl
                    case o18 => intro aR wR hR; replace hR := hR.undrew; intro v69 h69 e69; replace e69 : v69 = .bool false := e69; subst e69; exact exec_pass (wanted_not (b := true) (t := 69) rfl rfl h69) rfl
                    case o19 => intro aR wR hR; replace hR := hR.undrew; intro v69 h69 e69; replace e69 : v69 = .bool false := e69; subst e69; exact exec_pass (wanted_not (b := true) (t := 69) rfl rfl h69) rfl
                    case o20 => intro aR wR hR; replace hR := hR.undrew; intro v69 h69 e69; replace e69 : v69 = .bool false := e69; subst e69; exact exec_pass (wanted_not (b := true) (t := 69) rfl rfl h69) rfl
                    case o21 => intro aR wR hR; replace hR := hR.undrew; intro v69 h69 e69; replace e69 : v69 = .bool false := e69; subst e69; exact exec_pass (wanted_not (b := true) (t := 69) rfl rfl h69) rfl
                    case o22 => intro aR wR hR; replace hR := hR.undrew; intro v69 h69 e69; replace e69 : v69 = .bool false := e69; subst e69; intro v88 h88 e88; replace e88 : v88 = undef := e88; subst e88; exact exec_val (c := (.bool false)) (wanted_none rfl) (by go_simp) rfl
                  · intro vs wR hR hV
                    obtain ⟨e0, e1, e2, e3, e4, e5, e6, e7, e8, e9, e10, e11, e12, e13, e14, e15, e16, e17, e18, e19, e20, e21, e22, -⟩ := hV
                    replace e0 : vs 0 = .int .i64 (((0 : Nat)) : Int) := e0
                    replace e1 : vs 1 = .bool false := e1
                    replace e2 : vs 2 = .bool false := e2
                    replace e3 : vs 3 = undef := e3
                    replace e4 : vs 4 = undef := e4
                    replace e5 : vs 5 = undef := e5
                    replace e6 : vs 6 = undef := e6
                    replace e7 : vs 7 = undef := e7
                    replace e8 : vs 8 = undef := e8
                    replace e9 : vs 9 = undef := e9
                    replace e10 : vs 10 = undef := e10
                    replace e11 : vs 11 = undef := e11
                    replace e12 : vs 12 = undef := e12
                    replace e13 : vs 13 = undef := e13
                    replace e14 : vs 14 = undef := e14
                    replace e15 : vs 15 = undef := e15
                    replace e16 : vs 16 = undef := e16
                    replace e17 : vs 17 = undef := e17
                    replace e18 : vs 18 = undef := e18
                    replace e19 : vs 19 = undef := e19
                    replace e20 : vs 20 = undef := e20
                    replace e21 : vs 21 = undef := e21
                    replace e22 : vs 22 = (.bool false) := e22
                    simp only [putAll, e0, e1, e2, e3, e4, e5, e6, e7, e8, e9, e10, e11, e12, e13, e14, e15, e16, e17, e18, e19, e20, e21, e22, Nat.reduceAdd, Nat.zero_add]
                    clear e0 e1 e2 e3 e4 e5 e6 e7 e8 e9 e10 e11 e12 e13 e14 e15 e16 e17 e18 e19 e20 e21 e22
                    try simp only [List.setIfInBounds_toArray, List.set_cons_succ, List.set_cons_zero]
                    go_wp2_with fail
                    go_meet
                    exact ⟨rfl, Lib.hid hR⟩
                · obtain ⟨ii, rfl⟩ : ∃ ii, i = ii + 1 := ⟨i - 1, by omega⟩
                  have hsb := HSB.out ii (by omega)
                  obtain ⟨b, off, b3, off3, xn, xc, rfl, hsx, hx⟩ := row_val (HRD5.out.keep0 HK.out) (s := s) (i := ii) (by rw [← HRL.out]; omega) (HSR.out ii (by omega))
                  obtain ⟨b', off', b4, off4, yn, yc, he, hsy, hy⟩ := row_val (HRD5.out.keep0 HK.out) (s := s) (i := ii + 1) (by rw [← HRL.out]; omega) (HSR.out (ii + 1) hlt)
                  cases he
                  have HX := Lib.hid hx
                  have HY := Lib.hid hy
                  clear hx hy
                  have HCV : Hid (cV (atV (rowA R ii) s) (atV (rowA R (ii + 1)) s) ≤ 0 ∧ -1 ≤ cV (atV (rowA R ii) s) (atV (rowA R (ii + 1)) s)) := Lib.hid (by
                    have := stab_le HST.out (i := ii) (by simp; rw [← HRL.out]; exact hlt)
                    rw [← rowA_get, ← rowA_get] at this
                    exact ⟨this, (cV_rng _ _).1⟩)
                  have HC7 : Hid (∀ W, Calls Try.prog 18 #[.agg #[.int .u8 (atV (rowA R ii) s).k, .int .i64 (atV (rowA R ii) s).n, .string (atV (rowA R ii) s).s], .agg #[.int .u8 (atV (rowA R (ii + 1)) s).k, .int .i64 (atV (rowA R (ii + 1)) s).n, .string (atV (rowA R (ii + 1)) s).s]] W fun e w' => e = .returned (.int .i64 (cV (atV (rowA R ii) s) (atV (rowA R (ii + 1)) s))) ∧ Kp [] W w') := Lib.hid (fun W => vCompare_any _ _ _ _ _ _ W)
                  generalize cV (atV (rowA R ii) s) (atV (rowA R (ii + 1)) s) = cv at *
                  generalize atV (rowA R ii) s = x at *
                  generalize atV (rowA R (ii + 1)) s = y at *
                  have hcv : decide ((0 : Int) < cv) = false := by have := HCV.out.1; simp; omega
                  have hgj : decide ((0 : Int) < ((ii + 1 : Nat) : Int)) = true := by simp
                  have hjs : ((ii + 1 : Nat) : Int) - 1 = (ii : Int) := by omega
                  have hi1 : ii < m := by omega
                  have hi2 : ¬ ((m : Int) ≤ (ii : Int) + 1) := by omega
                  have hi3 : (0 : Int) ≤ (ii : Int) + 1 := by omega
                  refine wp_region_K (by kernel_rfl) [.val (.int .i64 ((ii + 1 : Nat) : Int)), .val (.bool true), .val (.bool true), .val (.slice (some ⟨b, off, none⟩) m m), .val (.int .i64 ((ii + 1 : Nat) : Int)), .val (.int .i64 (ii : Int)), .val (.pointer (some ⟨b, off + ii, none⟩)), .val (.slice (some ⟨b3, off3, none⟩) xn xc), .val (.pointer (some ⟨p, 0, none⟩)), .val (.int .i64 (s : Int)), .val (.pointer (some ⟨b3, off3 + s * 3, none⟩)), .val (.agg #[.int .u8 x.k, .int .i64 x.n, .string x.s]), .val (.slice (some ⟨b, off, none⟩) m m), .val (.int .i64 ((ii + 1 : Nat) : Int)), .val (.pointer (some ⟨b, off + (ii + 1), none⟩)), .val (.slice (some ⟨b4, off4, none⟩) yn yc), .val (.pointer (some ⟨p, 0, none⟩)), .val (.int .i64 (s : Int)), .val (.pointer (some ⟨b4, off4 + s * 3, none⟩)), .val (.agg #[.int .u8 y.k, .int .i64 y.n, .string y.s]), .val (.int .i64 cv), .val (.bool false), .val (.bool false)] [[(11, none)], [(67, some 0)], [(68, some 1)], [(69, some 2), (7, none)], [(69, some 2), (11, none)], [(69, some 2), (71, some 4)], [(69, some 2), (70, some 3), (72, some 5)], [(69, some 2), (73, some 6)], [(69, some 2), (4, none)], [(69, some 2), (75, some 8)], [(69, some 2), (74, some 7), (76, some 9)], [(69, some 2), (77, some 10)], [(69, some 2), (7, none)], [(69, some 2), (11, none)], [(69, some 2), (79, some 12), (80, some 13)], [(69, some 2), (81, some 14)], [(69, some 2), (4, none)], [(69, some 2), (83, some 16)], [(69, some 2), (82, some 15), (84, some 17)], [(69, some 2), (85, some 18)], [(69, some 2), (78, some 11), (86, some 19)], [(69, some 2), (87, some 20)], [(69, some 2), (88, some 21)]] rfl (by kernel_rfl) ?_ ?_
                  · refine ⟨?o0, ?o1, ?o2, ?o3, ?o4, ?o5, ?o6, ?o7, ?o8, ?o9, ?o10, ?o11, ?o12, ?o13, ?o14, ?o15, ?o16, ?o17, ?o18, ?o19, ?o20, ?o21, ?o22, trivial⟩
                    case o0 => intro aR wR hR; replace hR := hR.undrew; intro (h11 : aR.tmps[11]? = some (.int .i64 ((ii + 1 : Nat) : Int))); exact exec_val (c := .int .i64 ((ii + 1 : Nat) : Int)) (wanted_none rfl) (by go_simp) rfl
                    case o1 => intro aR wR hR; replace hR := hR.undrew; intro v67 h67 e67; replace e67 : v67 = .int .i64 ((ii + 1 : Nat) : Int) := e67; subst e67; exact exec_val (c := .bool true) (wanted_none rfl) (by go_simp) rfl
                    case o2 => intro aR wR hR; replace hR := hR.undrew; intro v68 h68 e68; replace e68 : v68 = .bool true := e68; subst e68; exact exec_val (c := .bool true) (wanted_none rfl) (by go_simp) rfl
                    case o3 => intro aR wR hR; replace hR := hR.undrew; intro v69 h69 e69; replace e69 : v69 = .bool true := e69; subst e69; intro (h7 : aR.tmps[7]? = some (.slice (some ⟨b, off, none⟩) m m)); exact exec_val (c := .slice (some ⟨b, off, none⟩) m m) (wanted_yes (b := true) (t := 69) rfl rfl h69) (by go_simp) rfl
                    case o4 => intro aR wR hR; replace hR := hR.undrew; intro v69 h69 e69; replace e69 : v69 = .bool true := e69; subst e69; intro (h11 : aR.tmps[11]? = some (.int .i64 ((ii + 1 : Nat) : Int))); exact exec_val (c := .int .i64 ((ii + 1 : Nat) : Int)) (wanted_yes (b := true) (t := 69) rfl rfl h69) (by go_simp) rfl
                    case o5 => intro aR wR hR; replace hR := hR.undrew; intro v69 h69 e69; replace e69 : v69 = .bool true := e69; subst e69; intro v71 h71 e71; replace e71 : v71 = .int .i64 ((ii + 1 : Nat) : Int) := e71; subst e71; (have hwj : IntKind.i64.wrap (ii : Int) = (ii : Int) := IntWalk.i64_in _ (by omega)); exact exec_val (c := .int .i64 (ii : Int)) (wanted_yes (b := true) (t := 69) rfl rfl h69) (by go_simp) rfl
                    case o6 => intro aR wR hR; replace hR := hR.undrew; intro v69 h69 e69; replace e69 : v69 = .bool true := e69; subst e69; intro v70 h70 e70; replace e70 : v70 = .slice (some ⟨b, off, none⟩) m m := e70; subst e70; intro v72 h72 e72; replace e72 : v72 = .int .i64 (ii : Int) := e72; subst e72; exact exec_val (c := .pointer (some ⟨b, off + ii, none⟩)) (wanted_yes (b := true) (t := 69) rfl rfl h69) (by go_simp) rfl
                    case o7 => intro aR wR hR; replace hR := hR.undrew; intro v69 h69 e69; replace e69 : v69 = .bool true := e69; subst e69; intro v73 h73 e73; replace e73 : v73 = .pointer (some ⟨b, off + ii, none⟩) := e73; subst e73; (have h1 := (HX.out wR hR).1); exact exec_val (c := .slice (some ⟨b3, off3, none⟩) xn xc) (wanted_yes (b := true) (t := 69) rfl rfl h69) (by go_simp) rfl
                    case o8 => intro aR wR hR; replace hR := hR.undrew; intro v69 h69 e69; replace e69 : v69 = .bool true := e69; subst e69; intro (h4 : aR.tmps[4]? = some (.pointer (some ⟨p, 0, none⟩))); exact exec_val (c := .pointer (some ⟨p, 0, none⟩)) (wanted_yes (b := true) (t := 69) rfl rfl h69) (by go_simp) rfl
                    case o9 => intro aR wR hR; replace hR := hR.undrew; intro v69 h69 e69; replace e69 : v69 = .bool true := e69; subst e69; intro v75 h75 e75; replace e75 : v75 = .pointer (some ⟨p, 0, none⟩) := e75; subst e75; (have h1 := HPC5.out wR (HK.out.tr hR)); exact exec_val (c := .int .i64 (s : Int)) (wanted_yes (b := true) (t := 69) rfl rfl h69) (by go_simp) rfl
                    case o10 => intro aR wR hR; replace hR := hR.undrew; intro v69 h69 e69; replace e69 : v69 = .bool true := e69; subst e69; intro v74 h74 e74; replace e74 : v74 = .slice (some ⟨b3, off3, none⟩) xn xc := e74; subst e74; intro v76 h76 e76; replace e76 : v76 = .int .i64 (s : Int) := e76; subst e76; exact exec_val (c := .pointer (some ⟨b3, off3 + s * 3, none⟩)) (wanted_yes (b := true) (t := 69) rfl rfl h69) (by go_simp) rfl
                    case o11 => intro aR wR hR; replace hR := hR.undrew; intro v69 h69 e69; replace e69 : v69 = .bool true := e69; subst e69; intro v77 h77 e77; replace e77 : v77 = .pointer (some ⟨b3, off3 + s * 3, none⟩) := e77; subst e77; (obtain ⟨h0, h1, h2, h3⟩ := HX.out wR hR); exact exec_val (c := .agg #[.int .u8 x.k, .int .i64 x.n, .string x.s]) (wanted_yes (b := true) (t := 69) rfl rfl h69) (by go_simp) rfl
                    case o12 => intro aR wR hR; replace hR := hR.undrew; intro v69 h69 e69; replace e69 : v69 = .bool true := e69; subst e69; intro (h7 : aR.tmps[7]? = some (.slice (some ⟨b, off, none⟩) m m)); exact exec_val (c := .slice (some ⟨b, off, none⟩) m m) (wanted_yes (b := true) (t := 69) rfl rfl h69) (by go_simp) rfl
                    case o13 => intro aR wR hR; replace hR := hR.undrew; intro v69 h69 e69; replace e69 : v69 = .bool true := e69; subst e69; intro (h11 : aR.tmps[11]? = some (.int .i64 ((ii + 1 : Nat) : Int))); exact exec_val (c := .int .i64 ((ii + 1 : Nat) : Int)) (wanted_yes (b := true) (t := 69) rfl rfl h69) (by go_simp) rfl
                    case o14 => intro aR wR hR; replace hR := hR.undrew; intro v69 h69 e69; replace e69 : v69 = .bool true := e69; subst e69; intro v79 h79 e79; replace e79 : v79 = .slice (some ⟨b, off, none⟩) m m := e79; subst e79; intro v80 h80 e80; replace e80 : v80 = .int .i64 ((ii + 1 : Nat) : Int) := e80; subst e80; exact exec_val (c := .pointer (some ⟨b, off + (ii + 1), none⟩)) (wanted_yes (b := true) (t := 69) rfl rfl h69) (by go_simp) rfl
                    case o15 => intro aR wR hR; replace hR := hR.undrew; intro v69 h69 e69; replace e69 : v69 = .bool true := e69; subst e69; intro v81 h81 e81; replace e81 : v81 = .pointer (some ⟨b, off + (ii + 1), none⟩) := e81; subst e81; (have h1 := (HY.out wR hR).1); exact exec_val (c := .slice (some ⟨b4, off4, none⟩) yn yc) (wanted_yes (b := true) (t := 69) rfl rfl h69) (by go_simp) rfl
                    case o16 => intro aR wR hR; replace hR := hR.undrew; intro v69 h69 e69; replace e69 : v69 = .bool true := e69; subst e69; intro (h4 : aR.tmps[4]? = some (.pointer (some ⟨p, 0, none⟩))); exact exec_val (c := .pointer (some ⟨p, 0, none⟩)) (wanted_yes (b := true) (t := 69) rfl rfl h69) (by go_simp) rfl
                    case o17 => intro aR wR hR; replace hR := hR.undrew; intro v69 h69 e69; replace e69 : v69 = .bool true := e69; subst e69; intro v83 h83 e83; replace e83 : v83 = .pointer (some ⟨p, 0, none⟩) := e83; subst e83; (have h1 := HPC5.out wR (HK.out.tr hR)); exact exec_val (c := .int .i64 (s : Int)) (wanted_yes (b := true) (t := 69) rfl rfl h69) (by go_simp) rfl
                    case o18 => intro aR wR hR; replace hR := hR.undrew; intro v69 h69 e69; replace e69 : v69 = .bool true := e69; subst e69; intro v82 h82 e82; replace e82 : v82 = .slice (some ⟨b4, off4, none⟩) yn yc := e82; subst e82; intro v84 h84 e84; replace e84 : v84 = .int .i64 (s : Int) := e84; subst e84; exact exec_val (c := .pointer (some ⟨b4, off4 + s * 3, none⟩)) (wanted_yes (b := true) (t := 69) rfl rfl h69) (by go_simp) rfl
                    case o19 => intro aR wR hR; replace hR := hR.undrew; intro v69 h69 e69; replace e69 : v69 = .bool true := e69; subst e69; intro v85 h85 e85; replace e85 : v85 = .pointer (some ⟨b4, off4 + s * 3, none⟩) := e85; subst e85; (obtain ⟨h0, h1, h2, h3⟩ := HY.out wR hR); exact exec_val (c := .agg #[.int .u8 y.k, .int .i64 y.n, .string y.s]) (wanted_yes (b := true) (t := 69) rfl rfl h69) (by go_simp) rfl
                    case o20 => intro aR wR hR; replace hR := hR.undrew; intro v69 h69 e69; replace e69 : v69 = .bool true := e69; subst e69; intro v78 h78 e78; replace e78 : v78 = .agg #[.int .u8 x.k, .int .i64 x.n, .string x.s] := e78; subst e78; intro v86 h86 e86; replace e86 : v86 = .agg #[.int .u8 y.k, .int .i64 y.n, .string y.s] := e86; subst e86; refine exec_call (wanted_yes (b := true) (t := 69) rfl rfl h69) (by go_simp; exact ⟨rfl, rfl⟩) ?_; refine (HC7.out wR).mono ?_; rintro e7 w8 ⟨rfl, kp8⟩; exact ⟨_, rfl, rfl, kp8⟩
                    case o21 => intro aR wR hR; replace hR := hR.undrew; intro v69 h69 e69; replace e69 : v69 = .bool true := e69; subst e69; intro v87 h87 e87; replace e87 : v87 = .int .i64 cv := e87; subst e87; exact exec_val (c := .bool false) (wanted_yes (b := true) (t := 69) rfl rfl h69) (by go_simp) rfl
                    case o22 => intro aR wR hR; replace hR := hR.undrew; intro v69 h69 e69; replace e69 : v69 = .bool true := e69; subst e69; intro v88 h88 e88; replace e88 : v88 = .bool false := e88; subst e88; exact exec_val (c := .bool false) (wanted_none rfl) (by go_simp) rfl
                  · intro vs wR hR hV
                    obtain ⟨e0, e1, e2, e3, e4, e5, e6, e7, e8, e9, e10, e11, e12, e13, e14, e15, e16, e17, e18, e19, e20, e21, e22, -⟩ := hV
                    replace e0 : vs 0 = .int .i64 ((ii + 1 : Nat) : Int) := e0
                    replace e1 : vs 1 = .bool true := e1
                    replace e2 : vs 2 = .bool true := e2
                    replace e3 : vs 3 = .slice (some ⟨b, off, none⟩) m m := e3
                    replace e4 : vs 4 = .int .i64 ((ii + 1 : Nat) : Int) := e4
                    replace e5 : vs 5 = .int .i64 (ii : Int) := e5
                    replace e6 : vs 6 = .pointer (some ⟨b, off + ii, none⟩) := e6
                    replace e7 : vs 7 = .slice (some ⟨b3, off3, none⟩) xn xc := e7
                    replace e8 : vs 8 = .pointer (some ⟨p, 0, none⟩) := e8
                    replace e9 : vs 9 = .int .i64 (s : Int) := e9
                    replace e10 : vs 10 = .pointer (some ⟨b3, off3 + s * 3, none⟩) := e10
                    replace e11 : vs 11 = .agg #[.int .u8 x.k, .int .i64 x.n, .string x.s] := e11
                    replace e12 : vs 12 = .slice (some ⟨b, off, none⟩) m m := e12
                    replace e13 : vs 13 = .int .i64 ((ii + 1 : Nat) : Int) := e13
                    replace e14 : vs 14 = .pointer (some ⟨b, off + (ii + 1), none⟩) := e14
                    replace e15 : vs 15 = .slice (some ⟨b4, off4, none⟩) yn yc := e15
                    replace e16 : vs 16 = .pointer (some ⟨p, 0, none⟩) := e16
                    replace e17 : vs 17 = .int .i64 (s : Int) := e17
                    replace e18 : vs 18 = .pointer (some ⟨b4, off4 + s * 3, none⟩) := e18
                    replace e19 : vs 19 = .agg #[.int .u8 y.k, .int .i64 y.n, .string y.s] := e19
                    replace e20 : vs 20 = .int .i64 cv := e20
                    replace e21 : vs 21 = .bool false := e21
                    replace e22 : vs 22 = .bool false := e22
                    simp only [putAll, e0, e1, e2, e3, e4, e5, e6, e7, e8, e9, e10, e11, e12, e13, e14, e15, e16, e17, e18, e19, e20, e21, e22, Nat.reduceAdd, Nat.zero_add]
                    clear e0 e1 e2 e3 e4 e5 e6 e7 e8 e9 e10 e11 e12 e13 e14 e15 e16 e17 e18 e19 e20 e21 e22
                    try simp only [List.setIfInBounds_toArray, List.set_cons_succ, List.set_cons_zero]
                    go_wp2_with fail
                    go_meet
                    exact ⟨rfl, Lib.hid hR⟩
              obtain ⟨rfl, HKQ⟩ := hcut
              go_wp2_with fail
              go_roundw
              case rel => exact ⟨i + 1, hlt, by go_num, Lib.hid (HK.out.tr HKQ.out)⟩
              case measure => simp [intOf]; omega
            · obtain rfl : i = m := by omega
              go_wp2_with fail
              obtain ⟨tb, htb⟩ : ∃ tb, tb = wo.heap.size := ⟨_, rfl⟩
              have hT0 := heap_alloc_at (w := wo) (o := Obj.cells (ints IntKind.i64 (List.replicate i 0)) 3) rfl
              have hK6 := HK.out.alloc (Obj.cells (ints IntKind.i64 (List.replicate i 0)) 3)
              rw [← htb] at hT0 ⊢
              generalize wo.alloc (Obj.cells (ints IntKind.i64 (List.replicate i 0)) 3) = w6 at *
              have HT0 := Lib.hid hT0
              have HK6 := Lib.hid hK6
              have HTB : Hid (w5.heap.size ≤ tb) := Lib.hid (by rw [htb]; exact HK.out.size)
              clear hT0 hK6 htb hmk HK
              obtain ⟨Ar, hAr⟩ : ∃ Ar, Ar = hs.map (·.row) := ⟨_, rfl⟩
              obtain ⟨Rr, hRr⟩ : ∃ Rr, Rr = R.map (·.row) := ⟨_, rfl⟩
              have HA : Hid (Ar = hs.map (·.row)) := Lib.hid hAr
              have HRr : Hid (Rr = R.map (·.row)) := Lib.hid hRr
              have HAL : Hid (Ar.length = i) := Lib.hid (by rw [hAr, HM.out]; simp)
              have HRLr : Hid (Rr.length = i) := Lib.hid (by rw [hRr, HRL.out]; simp)
              have HST2 : Hid (Stab (ltr s) Ar Rr) := Lib.hid (by rw [hAr, hRr]; exact HST.out)
              clear hAr hRr HST
              go_loopw [96] (fun vi wr => ∃ (t : Nat) (D : List Int), t ≤ i ∧ vi = .int .i64 t ∧ Hid (D.length = i) ∧ Hid (wr.heap[tb]? = some (.cells (ints .i64 D) 3 (0, 0))) ∧ Hid (∀ k, k < i → nth D k = if tk s Ar Rr t k then 1 else 0) ∧ Hid (Kp [] w5 wr)) (fun vi _ => i - (intOf vi).toNat)
              case atStart => exact ⟨0, List.replicate i 0, Nat.zero_le _, rfl, Lib.hid (by simp), HT0, Lib.hid (fun k hk => by rw [tk_zero]; simp [nth, hk]), HK6⟩
              case round =>
                obtain ⟨t, D, ht, rfl, HDL, HD, HDT, HK⟩ := hrel
                obtain ⟨wo, rfl⟩ : ∃ wo : World, wo = wr := ⟨_, rfl⟩
                by_cases hlt2 : t < i
                · have hsb := HSB.out t hlt2
                  obtain ⟨b, off, b3, off3, xn, xc, rfl, hsx, hx⟩ := row_val (HR5.out.keep0 HK.out) (s := s) (i := t) (by rw [← HM.out]; exact hlt2) (HSI.out t hlt2)
                  have HX := Lib.hid hx
                  clear hx
                  go_wp2_with fail
                  go_loopw [101] (fun vk wr => ∃ k : Nat, k ≤ i ∧ vk = .int .i64 k ∧ Hid (∀ j, j < k → fr s Ar Rr t j = false) ∧ Hid (Kp [] wo wr)) (fun vk _ => i - (intOf vk).toNat)
                  case atStart => exact ⟨0, Nat.zero_le _, rfl, Lib.hid (by simp), Lib.hid (Kp.refl _ _)⟩
                  case round =>
                    obtain ⟨k, hk, rfl, HF, HKI⟩ := hrel
                    obtain ⟨wi, rfl⟩ : ∃ wi : World, wi = wr := ⟨_, rfl⟩
                    by_cases hlk : k < i
                    · obtain ⟨d0, -⟩ := ints_at (HKI.out.get HD.out (by simp)) (k := k) (by rw [HDL.out]; exact hlk)
                      obtain ⟨bo, offo, b4, off4, yn, yc, rfl, hsy, hy⟩ := row_val (HRD5.out.keep0 HK.out) (s := s) (i := k) (by rw [← HRL.out]; exact hlk) (HSR.out k hlk)
                      have HY := Lib.hid hy
                      have D0 : Hid (∀ W, Kp [] wi W → W.cell? ⟨tb, k, none⟩ = some (.int .i64 (nth D k))) := Lib.hid (fun W hW => hW.cell d0 (by simp))
                      have hDk := HDT.out k hlk
                      have HFR : Hid (fr s Ar Rr t k = (!tk s Ar Rr t k && eqV (atV (rowA R k) s) (atV (rowA hs t) s))) := Lib.hid (by rw [rowA_get, rowA_get, ← HA.out, ← HRr.out]; rfl)
                      generalize nth D k = z at *
                      go_upto_region 25 with (fail)
                      go_cut [127] (fun v127 wx => v127 = .bool (fr s Ar Rr t k) ∧ Hid (Kp [] wi wx))
                      case first =>
                        cases htk : tk s Ar Rr t k with
                        | true =>
                          rw [htk] at hDk HFR
                          obtain rfl : z = 1 := hDk
                          refine wp_region_K (by kernel_rfl) [.val (.slice (some ⟨tb, 0, none⟩) i i), .val (.int .i64 (k : Int)), .val (.pointer (some ⟨tb, k, none⟩)), .val (.int .i64 1), .val (.bool false), .val (.bool false), .val (undef), .val (undef), .val (undef), .val (undef), .val (undef), .val (undef), .val (undef), .val (undef), .val (undef), .val (undef), .val (undef), .val (undef), .val (undef), .val (undef), .val (undef), .val (undef), .val (undef), .val ((.bool false))] [[(12, none)], [(15, none)], [(104, some 0), (105, some 1)], [(106, some 2)], [(107, some 3)], [(108, some 4)], [(109, some 5)], [(109, some 5)], [(109, some 5)], [(109, some 5)], [(109, some 5)], [(109, some 5)], [(109, some 5)], [(109, some 5)], [(109, some 5)], [(109, some 5)], [(109, some 5)], [(109, some 5)], [(109, some 5)], [(109, some 5)], [(109, some 5)], [(109, some 5)], [(109, some 5)], [(109, some 5), (126, some 22)]] rfl (by kernel_rfl) ?_ ?_
                          · refine ⟨?o0, ?o1, ?o2, ?o3, ?o4, ?o5, ?o6, ?o7, ?o8, ?o9, ?o10, ?o11, ?o12, ?o13, ?o14, ?o15, ?o16, ?o17, ?o18, ?o19, ?o20, ?o21, ?o22, ?o23, trivial⟩
                            case o0 => intro aR wR hR; replace hR := hR.undrew; intro (h12 : aR.tmps[12]? = some (.slice (some ⟨tb, 0, none⟩) i i)); exact exec_val (c := .slice (some ⟨tb, 0, none⟩) i i) (wanted_none rfl) (by go_simp) rfl
                            case o1 => intro aR wR hR; replace hR := hR.undrew; intro (h15 : aR.tmps[15]? = some (.int .i64 (k : Int))); exact exec_val (c := .int .i64 (k : Int)) (wanted_none rfl) (by go_simp) rfl
                            case o2 => intro aR wR hR; replace hR := hR.undrew; intro v104 h104 e104; replace e104 : v104 = .slice (some ⟨tb, 0, none⟩) i i := e104; subst e104; intro v105 h105 e105; replace e105 : v105 = .int .i64 (k : Int) := e105; subst e105; exact exec_val (c := .pointer (some ⟨tb, k, none⟩)) (wanted_none rfl) (by go_simp) rfl
                            case o3 => intro aR wR hR; replace hR := hR.undrew; intro v106 h106 e106; replace e106 : v106 = .pointer (some ⟨tb, k, none⟩) := e106; subst e106; (have h1 := D0.out wR hR); exact exec_val (c := .int .i64 1) (wanted_none rfl) (by go_simp) rfl
                            case o4 => intro aR wR hR; replace hR := hR.undrew; intro v107 h107 e107; replace e107 : v107 = .int .i64 1 := e107; subst e107; exact exec_val (c := .bool false) (wanted_none rfl) (by go_simp) rfl
                            case o5 => intro aR wR hR; replace hR := hR.undrew; intro v108 h108 e108; replace e108 : v108 = .bool false := e108; subst e108; exact exec_val (c := .bool false) (wanted_none rfl) (by go_simp) rfl
                            case o6 => intro aR wR hR; replace hR := hR.undrew; intro v109 h109 e109; replace e109 : v109 = .bool false := e109; subst e109; exact exec_pass (wanted_not (b := true) (t := 109) rfl rfl h109) rfl
                            case o7 => intro aR wR hR; replace hR := hR.undrew; intro v109 h109 e109; replace e109 : v109 = .bool false := e109; subst e109; exact exec_pass (wanted_not (b := true) (t := 109) rfl rfl h109) rfl
                            case o8 => intro aR wR hR; replace hR := hR.undrew; intro v109 h109 e109; replace e109 : v109 = .bool false := e109; subst e109; exact exec_pass (wanted_not (b := true) (t := 109) rfl rfl h109) rfl
                            case o9 => intro aR wR hR; replace hR := hR.undrew; intro v109 h109 e109; replace e109 : v109 = .bool false := e109; subst e109; exact exec_pass (wanted_not (b := true) (t := 109) rfl rfl h109) rfl
                            case o10 => intro aR wR hR; replace hR := hR.undrew; intro v109 h109 e109; replace e109 : v109 = .bool false := e109; subst e109; exact exec_pass (wanted_not (b := true) (t := 109) rfl rfl h109) rfl
                            case o11 => intro aR wR hR; replace hR := hR.undrew; intro v109 h109 e109; replace e109 : v109 = .bool false := e109; subst e109; exact exec_pass (wanted_not (b := true) (t := 109) rfl rfl h109) rfl
                            case o12 => intro aR wR hR; replace hR := hR.undrew; intro v109 h109 e109; replace e109 : v109 = .bool false := e109; subst e109; exact exec_pass (wanted_not (b := true) (t := 109) rfl rfl h109) rfl
                            case o13 => intro aR wR hR; replace hR := hR.undrew; intro v109 h109 e109; replace e109 : v109 = .bool false := e109; subst e109; exact exec_pass (wanted_not (b := true) (t := 109) rfl rfl h109) rfl
                            case o14 => intro aR wR hR; replace hR := hR.undrew; intro v109 h109 e109; replace e109 : v109 = .bool false := e109; subst e109; exact exec_pass (wanted_not (b := true) (t := 109) rfl rfl h109) rfl
                            case o15 => intro aR wR hR; replace hR := hR.undrew; intro v109 h109 e109; replace e109 : v109 = .bool false := e109; subst e109; exact exec_pass (wanted_not (b := true) (t := 109) rfl rfl h109) rfl
                            case o16 => intro aR wR hR; replace hR := hR.undrew; intro v109 h109 e109; replace e109 : v109 = .bool false := e109; subst e109; exact exec_pass (wanted_not (b := true) (t := 109) rfl rfl h109) rfl
                            case o17 => intro aR wR hR; replace hR := hR.undrew; intro v109 h109 e109; replace e109 : v109 = .bool false := e109; subst e109; exact exec_pass (wanted_not (b := true) (t := 109) rfl rfl h109) rfl
                            case o18 => intro aR wR hR; replace hR := hR.undrew; intro v109 h109 e109; replace e109 : v109 = .bool false := e109; subst e109; exact exec_pass (wanted_not (b := true) (t := 109) rfl rfl h109) rfl
                            case o19 => intro aR wR hR; replace hR := hR.undrew; intro v109 h109 e109; replace e109 : v109 = .bool false := e109; subst e109; exact exec_pass (wanted_not (b := true) (t := 109) rfl rfl h109) rfl
                            case o20 => intro aR wR hR; replace hR := hR.undrew; intro v109 h109 e109; replace e109 : v109 = .bool false := e109; subst e109; exact exec_pass (wanted_not (b := true) (t := 109) rfl rfl h109) rfl
                            case o21 => intro aR wR hR; replace hR := hR.undrew; intro v109 h109 e109; replace e109 : v109 = .bool false := e109; subst e109; exact exec_pass (wanted_not (b := true) (t := 109) rfl rfl h109) rfl
                            case o22 => intro aR wR hR; replace hR := hR.undrew; intro v109 h109 e109; replace e109 : v109 = .bool false := e109; subst e109; exact exec_pass (wanted_not (b := true) (t := 109) rfl rfl h109) rfl
                            case o23 => intro aR wR hR; replace hR := hR.undrew; intro v109 h109 e109; replace e109 : v109 = .bool false := e109; subst e109; intro v126 h126 e126; replace e126 : v126 = undef := e126; subst e126; exact exec_val (c := (.bool false)) (wanted_none rfl) (by go_simp) rfl
                          · intro vs wR hR hV
                            obtain ⟨e0, e1, e2, e3, e4, e5, e6, e7, e8, e9, e10, e11, e12, e13, e14, e15, e16, e17, e18, e19, e20, e21, e22, e23, -⟩ := hV
                            replace e0 : vs 0 = .slice (some ⟨tb, 0, none⟩) i i := e0
                            replace e1 : vs 1 = .int .i64 (k : Int) := e1
                            replace e2 : vs 2 = .pointer (some ⟨tb, k, none⟩) := e2
                            replace e3 : vs 3 = .int .i64 1 := e3
                            replace e4 : vs 4 = .bool false := e4
                            replace e5 : vs 5 = .bool false := e5
                            replace e6 : vs 6 = undef := e6
                            replace e7 : vs 7 = undef := e7
                            replace e8 : vs 8 = undef := e8
                            replace e9 : vs 9 = undef := e9
                            replace e10 : vs 10 = undef := e10
                            replace e11 : vs 11 = undef := e11
                            replace e12 : vs 12 = undef := e12
                            replace e13 : vs 13 = undef := e13
                            replace e14 : vs 14 = undef := e14
                            replace e15 : vs 15 = undef := e15
                            replace e16 : vs 16 = undef := e16
                            replace e17 : vs 17 = undef := e17
                            replace e18 : vs 18 = undef := e18
                            replace e19 : vs 19 = undef := e19
                            replace e20 : vs 20 = undef := e20
                            replace e21 : vs 21 = undef := e21
                            replace e22 : vs 22 = undef := e22
                            replace e23 : vs 23 = (.bool false) := e23
                            simp only [putAll, e0, e1, e2, e3, e4, e5, e6, e7, e8, e9, e10, e11, e12, e13, e14, e15, e16, e17, e18, e19, e20, e21, e22, e23, Nat.reduceAdd, Nat.zero_add]
                            clear e0 e1 e2 e3 e4 e5 e6 e7 e8 e9 e10 e11 e12 e13 e14 e15 e16 e17 e18 e19 e20 e21 e22 e23
                            try simp only [List.setIfInBounds_toArray, List.set_cons_succ, List.set_cons_zero]
                            go_wp2_with fail
                            go_meet
                            exact ⟨by rw [HFR.out]; rfl, Lib.hid hR⟩
                        | false =>
                          rw [htk] at hDk HFR
                          obtain rfl : z = 0 := hDk
                          have hel := eql_V (atV (rowA R k) s) (atV (rowA hs t) s)
                          unfold vagg at hel
                          clear hy htk
                          generalize eqV (atV (rowA R k) s) (atV (rowA hs t) s) = q at *
                          generalize atV (rowA R k) s = y at *
                          generalize atV (rowA hs t) s = x at *
                          refine wp_region_K (by kernel_rfl) [.val (.slice (some ⟨tb, 0, none⟩) i i), .val (.int .i64 (k : Int)), .val (.pointer (some ⟨tb, k, none⟩)), .val (.int .i64 0), .val (.bool true), .val (.bool true), .val (.slice (some ⟨bo, offo, none⟩) i i), .val (.int .i64 (k : Int)), .val (.pointer (some ⟨bo, offo + k, none⟩)), .val (.slice (some ⟨b4, off4, none⟩) yn yc), .val (.pointer (some ⟨p, 0, none⟩)), .val (.int .i64 (s : Int)), .val (.pointer (some ⟨b4, off4 + s * 3, none⟩)), .val (.agg #[.int .u8 y.k, .int .i64 y.n, .string y.s]), .val (.slice (some ⟨b, off, none⟩) i rc), .val (.int .i64 (t : Int)), .val (.pointer (some ⟨b, off + t, none⟩)), .val (.slice (some ⟨b3, off3, none⟩) xn xc), .val (.pointer (some ⟨p, 0, none⟩)), .val (.int .i64 (s : Int)), .val (.pointer (some ⟨b3, off3 + s * 3, none⟩)), .val (.agg #[.int .u8 x.k, .int .i64 x.n, .string x.s]), .val (.bool q), .val (.bool q)] [[(12, none)], [(15, none)], [(104, some 0), (105, some 1)], [(106, some 2)], [(107, some 3)], [(108, some 4)], [(109, some 5), (7, none)], [(109, some 5), (15, none)], [(109, some 5), (110, some 6), (111, some 7)], [(109, some 5), (112, some 8)], [(109, some 5), (4, none)], [(109, some 5), (114, some 10)], [(109, some 5), (113, some 9), (115, some 11)], [(109, some 5), (116, some 12)], [(109, some 5), (2, none)], [(109, some 5), (13, none)], [(109, some 5), (118, some 14), (119, some 15)], [(109, some 5), (120, some 16)], [(109, some 5), (4, none)], [(109, some 5), (122, some 18)], [(109, some 5), (121, some 17), (123, some 19)], [(109, some 5), (124, some 20)], [(109, some 5), (117, some 13), (125, some 21)], [(109, some 5), (126, some 22)]] rfl (by kernel_rfl) ?_ ?_
                          · refine ⟨?o0, ?o1, ?o2, ?o3, ?o4, ?o5, ?o6, ?o7, ?o8, ?o9, ?o10, ?o11, ?o12, ?o13, ?o14, ?o15, ?o16, ?o17, ?o18, ?o19, ?o20, ?o21, ?o22, ?o23, trivial⟩
                            case o0 => intro aR wR hR; replace hR := hR.undrew; intro (h12 : aR.tmps[12]? = some (.slice (some ⟨tb, 0, none⟩) i i)); exact exec_val (c := .slice (some ⟨tb, 0, none⟩) i i) (wanted_none rfl) (by go_simp) rfl
                            case o1 => intro aR wR hR; replace hR := hR.undrew; intro (h15 : aR.tmps[15]? = some (.int .i64 (k : Int))); exact exec_val (c := .int .i64 (k : Int)) (wanted_none rfl) (by go_simp) rfl
                            case o2 => intro aR wR hR; replace hR := hR.undrew; intro v104 h104 e104; replace e104 : v104 = .slice (some ⟨tb, 0, none⟩) i i := e104; subst e104; intro v105 h105 e105; replace e105 : v105 = .int .i64 (k : Int) := e105; subst e105; exact exec_val (c := .pointer (some ⟨tb, k, none⟩)) (wanted_none rfl) (by go_simp) rfl
                            case o3 => intro aR wR hR; replace hR := hR.undrew; intro v106 h106 e106; replace e106 : v106 = .pointer (some ⟨tb, k, none⟩) := e106; subst e106; (have h1 := D0.out wR hR); exact exec_val (c := .int .i64 0) (wanted_none rfl) (by go_simp) rfl
                            case o4 => intro aR wR hR; replace hR := hR.undrew; intro v107 h107 e107; replace e107 : v107 = .int .i64 0 := e107; subst e107; exact exec_val (c := .bool true) (wanted_none rfl) (by go_simp) rfl
                            case o5 => intro aR wR hR; replace hR := hR.undrew; intro v108 h108 e108; replace e108 : v108 = .bool true := e108; subst e108; exact exec_val (c := .bool true) (wanted_none rfl) (by go_simp) rfl
                            case o6 => intro aR wR hR; replace hR := hR.undrew; intro v109 h109 e109; replace e109 : v109 = .bool true := e109; subst e109; intro (h7 : aR.tmps[7]? = some (.slice (some ⟨bo, offo, none⟩) i i)); exact exec_val (c := .slice (some ⟨bo, offo, none⟩) i i) (wanted_yes (b := true) (t := 109) rfl rfl h109) (by go_simp) rfl
                            case o7 => intro aR wR hR; replace hR := hR.undrew; intro v109 h109 e109; replace e109 : v109 = .bool true := e109; subst e109; intro (h15 : aR.tmps[15]? = some (.int .i64 (k : Int))); exact exec_val (c := .int .i64 (k : Int)) (wanted_yes (b := true) (t := 109) rfl rfl h109) (by go_simp) rfl
                            case o8 => intro aR wR hR; replace hR := hR.undrew; intro v109 h109 e109; replace e109 : v109 = .bool true := e109; subst e109; intro v110 h110 e110; replace e110 : v110 = .slice (some ⟨bo, offo, none⟩) i i := e110; subst e110; intro v111 h111 e111; replace e111 : v111 = .int .i64 (k : Int) := e111; subst e111; exact exec_val (c := .pointer (some ⟨bo, offo + k, none⟩)) (wanted_yes (b := true) (t := 109) rfl rfl h109) (by go_simp) rfl
                            case o9 => intro aR wR hR; replace hR := hR.undrew; intro v109 h109 e109; replace e109 : v109 = .bool true := e109; subst e109; intro v112 h112 e112; replace e112 : v112 = .pointer (some ⟨bo, offo + k, none⟩) := e112; subst e112; (have h1 := (HY.out wR (HKI.out.tr hR)).1); exact exec_val (c := .slice (some ⟨b4, off4, none⟩) yn yc) (wanted_yes (b := true) (t := 109) rfl rfl h109) (by go_simp) rfl
                            case o10 => intro aR wR hR; replace hR := hR.undrew; intro v109 h109 e109; replace e109 : v109 = .bool true := e109; subst e109; intro (h4 : aR.tmps[4]? = some (.pointer (some ⟨p, 0, none⟩))); exact exec_val (c := .pointer (some ⟨p, 0, none⟩)) (wanted_yes (b := true) (t := 109) rfl rfl h109) (by go_simp) rfl
                            case o11 => intro aR wR hR; replace hR := hR.undrew; intro v109 h109 e109; replace e109 : v109 = .bool true := e109; subst e109; intro v114 h114 e114; replace e114 : v114 = .pointer (some ⟨p, 0, none⟩) := e114; subst e114; (have h1 := HPC5.out wR ((HK.out.tr HKI.out).tr hR)); exact exec_val (c := .int .i64 (s : Int)) (wanted_yes (b := true) (t := 109) rfl rfl h109) (by go_simp) rfl
                            case o12 => intro aR wR hR; replace hR := hR.undrew; intro v109 h109 e109; replace e109 : v109 = .bool true := e109; subst e109; intro v113 h113 e113; replace e113 : v113 = .slice (some ⟨b4, off4, none⟩) yn yc := e113; subst e113; intro v115 h115 e115; replace e115 : v115 = .int .i64 (s : Int) := e115; subst e115; exact exec_val (c := .pointer (some ⟨b4, off4 + s * 3, none⟩)) (wanted_yes (b := true) (t := 109) rfl rfl h109) (by go_simp) rfl
                            case o13 => intro aR wR hR; replace hR := hR.undrew; intro v109 h109 e109; replace e109 : v109 = .bool true := e109; subst e109; intro v116 h116 e116; replace e116 : v116 = .pointer (some ⟨b4, off4 + s * 3, none⟩) := e116; subst e116; (obtain ⟨h0, h1, h2, h3⟩ := HY.out wR (HKI.out.tr hR)); exact exec_val (c := .agg #[.int .u8 y.k, .int .i64 y.n, .string y.s]) (wanted_yes (b := true) (t := 109) rfl rfl h109) (by go_simp) rfl
                            case o14 => intro aR wR hR; replace hR := hR.undrew; intro v109 h109 e109; replace e109 : v109 = .bool true := e109; subst e109; intro (h2 : aR.tmps[2]? = some (.slice (some ⟨b, off, none⟩) i rc)); exact exec_val (c := .slice (some ⟨b, off, none⟩) i rc) (wanted_yes (b := true) (t := 109) rfl rfl h109) (by go_simp) rfl
                            case o15 => intro aR wR hR; replace hR := hR.undrew; intro v109 h109 e109; replace e109 : v109 = .bool true := e109; subst e109; intro (h13 : aR.tmps[13]? = some (.int .i64 (t : Int))); exact exec_val (c := .int .i64 (t : Int)) (wanted_yes (b := true) (t := 109) rfl rfl h109) (by go_simp) rfl
                            case o16 => intro aR wR hR; replace hR := hR.undrew; intro v109 h109 e109; replace e109 : v109 = .bool true := e109; subst e109; intro v118 h118 e118; replace e118 : v118 = .slice (some ⟨b, off, none⟩) i rc := e118; subst e118; intro v119 h119 e119; replace e119 : v119 = .int .i64 (t : Int) := e119; subst e119; exact exec_val (c := .pointer (some ⟨b, off + t, none⟩)) (wanted_yes (b := true) (t := 109) rfl rfl h109) (by go_simp) rfl
                            case o17 => intro aR wR hR; replace hR := hR.undrew; intro v109 h109 e109; replace e109 : v109 = .bool true := e109; subst e109; intro v120 h120 e120; replace e120 : v120 = .pointer (some ⟨b, off + t, none⟩) := e120; subst e120; (have h1 := (HX.out wR (HKI.out.tr hR)).1); exact exec_val (c := .slice (some ⟨b3, off3, none⟩) xn xc) (wanted_yes (b := true) (t := 109) rfl rfl h109) (by go_simp) rfl
                            case o18 => intro aR wR hR; replace hR := hR.undrew; intro v109 h109 e109; replace e109 : v109 = .bool true := e109; subst e109; intro (h4 : aR.tmps[4]? = some (.pointer (some ⟨p, 0, none⟩))); exact exec_val (c := .pointer (some ⟨p, 0, none⟩)) (wanted_yes (b := true) (t := 109) rfl rfl h109) (by go_simp) rfl
                            case o19 => intro aR wR hR; replace hR := hR.undrew; intro v109 h109 e109; replace e109 : v109 = .bool true := e109; subst e109; intro v122 h122 e122; replace e122 : v122 = .pointer (some ⟨p, 0, none⟩) := e122; subst e122; (have h1 := HPC5.out wR ((HK.out.tr HKI.out).tr hR)); exact exec_val (c := .int .i64 (s : Int)) (wanted_yes (b := true) (t := 109) rfl rfl h109) (by go_simp) rfl
                            case o20 => intro aR wR hR; replace hR := hR.undrew; intro v109 h109 e109; replace e109 : v109 = .bool true := e109; subst e109; intro v121 h121 e121; replace e121 : v121 = .slice (some ⟨b3, off3, none⟩) xn xc := e121; subst e121; intro v123 h123 e123; replace e123 : v123 = .int .i64 (s : Int) := e123; subst e123; exact exec_val (c := .pointer (some ⟨b3, off3 + s * 3, none⟩)) (wanted_yes (b := true) (t := 109) rfl rfl h109) (by go_simp) rfl
                            case o21 => intro aR wR hR; replace hR := hR.undrew; intro v109 h109 e109; replace e109 : v109 = .bool true := e109; subst e109; intro v124 h124 e124; replace e124 : v124 = .pointer (some ⟨b3, off3 + s * 3, none⟩) := e124; subst e124; (obtain ⟨h0, h1, h2, h3⟩ := HX.out wR (HKI.out.tr hR)); exact exec_val (c := .agg #[.int .u8 x.k, .int .i64 x.n, .string x.s]) (wanted_yes (b := true) (t := 109) rfl rfl h109) (by go_simp) rfl
                            case o22 => intro aR wR hR; replace hR := hR.undrew; intro v109 h109 e109; replace e109 : v109 = .bool true := e109; subst e109; intro v117 h117 e117; replace e117 : v117 = .agg #[.int .u8 y.k, .int .i64 y.n, .string y.s] := e117; subst e117; intro v125 h125 e125; replace e125 : v125 = .agg #[.int .u8 x.k, .int .i64 x.n, .string x.s] := e125; subst e125; exact exec_val (c := .bool q) (wanted_yes (b := true) (t := 109) rfl rfl h109) (by go_simp) rfl
                            case o23 => intro aR wR hR; replace hR := hR.undrew; intro v109 h109 e109; replace e109 : v109 = .bool true := e109; subst e109; intro v126 h126 e126; replace e126 : v126 = .bool q := e126; subst e126; exact exec_val (c := .bool q) (wanted_none rfl) (by go_simp) rfl
                          · intro vs wR hR hV
                            obtain ⟨e0, e1, e2, e3, e4, e5, e6, e7, e8, e9, e10, e11, e12, e13, e14, e15, e16, e17, e18, e19, e20, e21, e22, e23, -⟩ := hV
                            replace e0 : vs 0 = .slice (some ⟨tb, 0, none⟩) i i := e0
                            replace e1 : vs 1 = .int .i64 (k : Int) := e1
                            replace e2 : vs 2 = .pointer (some ⟨tb, k, none⟩) := e2
                            replace e3 : vs 3 = .int .i64 0 := e3
                            replace e4 : vs 4 = .bool true := e4
                            replace e5 : vs 5 = .bool true := e5
                            replace e6 : vs 6 = .slice (some ⟨bo, offo, none⟩) i i := e6
                            replace e7 : vs 7 = .int .i64 (k : Int) := e7
                            replace e8 : vs 8 = .pointer (some ⟨bo, offo + k, none⟩) := e8
                            replace e9 : vs 9 = .slice (some ⟨b4, off4, none⟩) yn yc := e9
                            replace e10 : vs 10 = .pointer (some ⟨p, 0, none⟩) := e10
                            replace e11 : vs 11 = .int .i64 (s : Int) := e11
                            replace e12 : vs 12 = .pointer (some ⟨b4, off4 + s * 3, none⟩) := e12
                            replace e13 : vs 13 = .agg #[.int .u8 y.k, .int .i64 y.n, .string y.s] := e13
                            replace e14 : vs 14 = .slice (some ⟨b, off, none⟩) i rc := e14
                            replace e15 : vs 15 = .int .i64 (t : Int) := e15
                            replace e16 : vs 16 = .pointer (some ⟨b, off + t, none⟩) := e16
                            replace e17 : vs 17 = .slice (some ⟨b3, off3, none⟩) xn xc := e17
                            replace e18 : vs 18 = .pointer (some ⟨p, 0, none⟩) := e18
                            replace e19 : vs 19 = .int .i64 (s : Int) := e19
                            replace e20 : vs 20 = .pointer (some ⟨b3, off3 + s * 3, none⟩) := e20
                            replace e21 : vs 21 = .agg #[.int .u8 x.k, .int .i64 x.n, .string x.s] := e21
                            replace e22 : vs 22 = .bool q := e22
                            replace e23 : vs 23 = .bool q := e23
                            simp only [putAll, e0, e1, e2, e3, e4, e5, e6, e7, e8, e9, e10, e11, e12, e13, e14, e15, e16, e17, e18, e19, e20, e21, e22, e23, Nat.reduceAdd, Nat.zero_add]
                            clear e0 e1 e2 e3 e4 e5 e6 e7 e8 e9 e10 e11 e12 e13 e14 e15 e16 e17 e18 e19 e20 e21 e22 e23
                            try simp only [List.setIfInBounds_toArray, List.set_cons_succ, List.set_cons_zero]
                            go_wp2_with fail
                            go_meet
                            exact ⟨by rw [HFR.out]; rfl, Lib.hid hR⟩
                      obtain ⟨rfl, HKQ⟩ := hcut
                      obtain ⟨wq, rfl⟩ : ∃ wq : World, wq = wc := ⟨_, rfl⟩
                      cases hfr : fr s Ar Rr t k with
                      | false =>
                        go_wp2_with fail
                        go_roundw
                        case rel => exact ⟨k + 1, hlk, by go_num, Lib.hid (fun j hj => by
                          by_cases hjk : j = k
                          · rw [hjk]; exact hfr
                          · exact HF.out j (by omega)), Lib.hid (HKI.out.tr HKQ.out)⟩
                        case measure => simp [intOf]; omega
                      | true =>
                        obtain ⟨heq, htn⟩ := fr_row HST2.out (by rw [HAL.out]; exact hlt2) (by rw [HRLr.out]; exact hlk) HF.out hfr
                        have HTN := Lib.hid htn
                        have KWC := Lib.hid (HK.out.tr (HKI.out.tr HKQ.out))
                        have HK2 := Lib.hid (HKI.out.tr HKQ.out)
                        obtain ⟨a1, c1, x1, hs1, hr1, hx1⟩ := mid_rows wq (some ⟨b, off, none⟩) rc i t hs HM.out hlt2 (HR5.out.keep0 KWC.out)
                        obtain ⟨a2, c2, x2, hs2, hr2, hx2⟩ := mid_rows wq (some ⟨bo, offo, none⟩) i i k R HRL.out hlk (HRD5.out.keep0 KWC.out)
                        have HSA : Hid (sameR [x1] [x2] = true) := Lib.hid (sameR_iff.2 (by
                          have e : x1.row = x2.row := by rw [hx1, hx2, rowA_get, rowA_get, ← HA.out, ← HRr.out]; exact heq.symm
                          simp [e]))
                        have HTS : Hid (∀ W, Kp [] wq W → Calls Try.prog 17 #[.slice a1 1 c1, .slice a2 1 c2] W fun e w' => e = .returned (.bool true) ∧ Kp [] W w') := Lib.hid (fun W hW => by
                          have := tSame_any a1 c1 1 [x1] rfl a2 c2 1 [x2] rfl W (hr1.keep0 hW) (hr2.keep0 hW)
                          rwa [HSA.out] at this)
                        have HS1 := Lib.hid hs1
                        have HS2 := Lib.hid hs2
                        have HFZ : Hid (nth D k = 0) := Lib.hid (by
                          have h1 := hfr
                          unfold fr at h1
                          rw [Bool.and_eq_true] at h1
                          have h2 : tk s Ar Rr t k = false := by simpa using h1.1
                          rw [HDT.out k hlk, h2]; rfl)
                        clear heq htn hs1 hs2 hr1 hr2 hx1 hx2 hy
                        go_upto_region 28 with (fail)
                        go_cut [145] (fun v145 wx => v145 = .bool false ∧ Hid (Kp [] wq wx))
                        case first =>
                          have hk0 : decide ((k : Int) < 0) = false := by simp
                          refine wp_region_K (by kernel_rfl) [.val (.int .i64 (k : Int)), .val (.bool false), .val (.bool false), .val (.slice (some ⟨b, off, none⟩) i rc), .val (.int .i64 (t : Int)), .val (.int .i64 (t : Int)), .val (.int .i64 ((t : Int) + 1)), .val (.slice a1 1 c1), .val (.slice (some ⟨bo, offo, none⟩) i i), .val (.int .i64 (k : Int)), .val (.int .i64 (k : Int)), .val (.int .i64 ((k : Int) + 1)), .val (.slice a2 1 c2), .val (.bool true), .val (.bool false), .val (.bool false)] [[(14, none)], [(130, some 0)], [(131, some 1)], [(132, some 2), (2, none)], [(132, some 2), (13, none)], [(132, some 2), (13, none)], [(132, some 2), (135, some 5)], [(132, some 2), (133, some 3), (134, some 4), (136, some 6)], [(132, some 2), (7, none)], [(132, some 2), (14, none)], [(132, some 2), (14, none)], [(132, some 2), (140, some 10)], [(132, some 2), (138, some 8), (139, some 9), (141, some 11)], [(132, some 2), (137, some 7), (142, some 12)], [(132, some 2), (143, some 13)], [(132, some 2), (144, some 14)]] rfl (by kernel_rfl) ?_ ?_
                          · refine ⟨?o0, ?o1, ?o2, ?o3, ?o4, ?o5, ?o6, ?o7, ?o8, ?o9, ?o10, ?o11, ?o12, ?o13, ?o14, ?o15, trivial⟩
                            case o0 => intro aR wR hR; replace hR := hR.undrew; intro (h14 : aR.tmps[14]? = some (.int .i64 (k : Int))); exact exec_val (c := .int .i64 (k : Int)) (wanted_none rfl) (by go_simp) rfl
                            case o1 => intro aR wR hR; replace hR := hR.undrew; intro v130 h130 e130; replace e130 : v130 = .int .i64 (k : Int) := e130; subst e130; exact exec_val (c := .bool false) (wanted_none rfl) (by go_simp) rfl
                            case o2 => intro aR wR hR; replace hR := hR.undrew; intro v131 h131 e131; replace e131 : v131 = .bool false := e131; subst e131; exact exec_val (c := .bool false) (wanted_none rfl) (by go_simp) rfl
                            case o3 => intro aR wR hR; replace hR := hR.undrew; intro v132 h132 e132; replace e132 : v132 = .bool false := e132; subst e132; intro (h2 : aR.tmps[2]? = some (.slice (some ⟨b, off, none⟩) i rc)); exact exec_val (c := .slice (some ⟨b, off, none⟩) i rc) (wanted_yes (b := false) (t := 132) rfl rfl h132) (by go_simp) rfl
                            case o4 => intro aR wR hR; replace hR := hR.undrew; intro v132 h132 e132; replace e132 : v132 = .bool false := e132; subst e132; intro (h13 : aR.tmps[13]? = some (.int .i64 (t : Int))); exact exec_val (c := .int .i64 (t : Int)) (wanted_yes (b := false) (t := 132) rfl rfl h132) (by go_simp) rfl
                            case o5 => intro aR wR hR; replace hR := hR.undrew; intro v132 h132 e132; replace e132 : v132 = .bool false := e132; subst e132; intro (h13 : aR.tmps[13]? = some (.int .i64 (t : Int))); exact exec_val (c := .int .i64 (t : Int)) (wanted_yes (b := false) (t := 132) rfl rfl h132) (by go_simp) rfl
                            case o6 => intro aR wR hR; replace hR := hR.undrew; intro v132 h132 e132; replace e132 : v132 = .bool false := e132; subst e132; intro v135 h135 e135; replace e135 : v135 = .int .i64 (t : Int) := e135; subst e135; (have hwj : IntKind.i64.wrap ((t : Int) + 1) = (t : Int) + 1 := IntWalk.i64_in _ (by omega)); exact exec_val (c := .int .i64 ((t : Int) + 1)) (wanted_yes (b := false) (t := 132) rfl rfl h132) (by go_simp) rfl
                            case o7 => intro aR wR hR; replace hR := hR.undrew; intro v132 h132 e132; replace e132 : v132 = .bool false := e132; subst e132; intro v133 h133 e133; replace e133 : v133 = .slice (some ⟨b, off, none⟩) i rc := e133; subst e133; intro v134 h134 e134; replace e134 : v134 = .int .i64 (t : Int) := e134; subst e134; intro v136 h136 e136; replace e136 : v136 = .int .i64 ((t : Int) + 1) := e136; subst e136; (have h1 := HS1.out wR); exact exec_val (c := .slice a1 1 c1) (wanted_yes (b := false) (t := 132) rfl rfl h132) (by go_simp) rfl
                            case o8 => intro aR wR hR; replace hR := hR.undrew; intro v132 h132 e132; replace e132 : v132 = .bool false := e132; subst e132; intro (h7 : aR.tmps[7]? = some (.slice (some ⟨bo, offo, none⟩) i i)); exact exec_val (c := .slice (some ⟨bo, offo, none⟩) i i) (wanted_yes (b := false) (t := 132) rfl rfl h132) (by go_simp) rfl
                            case o9 => intro aR wR hR; replace hR := hR.undrew; intro v132 h132 e132; replace e132 : v132 = .bool false := e132; subst e132; intro (h14 : aR.tmps[14]? = some (.int .i64 (k : Int))); exact exec_val (c := .int .i64 (k : Int)) (wanted_yes (b := false) (t := 132) rfl rfl h132) (by go_simp) rfl
                            case o10 => intro aR wR hR; replace hR := hR.undrew; intro v132 h132 e132; replace e132 : v132 = .bool false := e132; subst e132; intro (h14 : aR.tmps[14]? = some (.int .i64 (k : Int))); exact exec_val (c := .int .i64 (k : Int)) (wanted_yes (b := false) (t := 132) rfl rfl h132) (by go_simp) rfl
                            case o11 => intro aR wR hR; replace hR := hR.undrew; intro v132 h132 e132; replace e132 : v132 = .bool false := e132; subst e132; intro v140 h140 e140; replace e140 : v140 = .int .i64 (k : Int) := e140; subst e140; (have hwj : IntKind.i64.wrap ((k : Int) + 1) = (k : Int) + 1 := IntWalk.i64_in _ (by omega)); exact exec_val (c := .int .i64 ((k : Int) + 1)) (wanted_yes (b := false) (t := 132) rfl rfl h132) (by go_simp) rfl
                            case o12 => intro aR wR hR; replace hR := hR.undrew; intro v132 h132 e132; replace e132 : v132 = .bool false := e132; subst e132; intro v138 h138 e138; replace e138 : v138 = .slice (some ⟨bo, offo, none⟩) i i := e138; subst e138; intro v139 h139 e139; replace e139 : v139 = .int .i64 (k : Int) := e139; subst e139; intro v141 h141 e141; replace e141 : v141 = .int .i64 ((k : Int) + 1) := e141; subst e141; (have h1 := HS2.out wR); exact exec_val (c := .slice a2 1 c2) (wanted_yes (b := false) (t := 132) rfl rfl h132) (by go_simp) rfl
                            case o13 => intro aR wR hR; replace hR := hR.undrew; intro v132 h132 e132; replace e132 : v132 = .bool false := e132; subst e132; intro v137 h137 e137; replace e137 : v137 = .slice a1 1 c1 := e137; subst e137; intro v142 h142 e142; replace e142 : v142 = .slice a2 1 c2 := e142; subst e142; refine exec_call (wanted_yes (b := false) (t := 132) rfl rfl h132) (by go_simp; exact ⟨rfl, rfl⟩) ?_; refine (HTS.out wR hR).mono ?_; rintro e7 w8 ⟨rfl, kp8⟩; exact ⟨_, rfl, rfl, kp8⟩
                            case o14 => intro aR wR hR; replace hR := hR.undrew; intro v132 h132 e132; replace e132 : v132 = .bool false := e132; subst e132; intro v143 h143 e143; replace e143 : v143 = .bool true := e143; subst e143; exact exec_val (c := .bool false) (wanted_yes (b := false) (t := 132) rfl rfl h132) (by go_simp) rfl
                            case o15 => intro aR wR hR; replace hR := hR.undrew; intro v132 h132 e132; replace e132 : v132 = .bool false := e132; subst e132; intro v144 h144 e144; replace e144 : v144 = .bool false := e144; subst e144; exact exec_val (c := .bool false) (wanted_none rfl) (by go_simp) rfl
                          · intro vs wR hR hV
                            obtain ⟨e0, e1, e2, e3, e4, e5, e6, e7, e8, e9, e10, e11, e12, e13, e14, e15, -⟩ := hV
                            replace e0 : vs 0 = .int .i64 (k : Int) := e0
                            replace e1 : vs 1 = .bool false := e1
                            replace e2 : vs 2 = .bool false := e2
                            replace e3 : vs 3 = .slice (some ⟨b, off, none⟩) i rc := e3
                            replace e4 : vs 4 = .int .i64 (t : Int) := e4
                            replace e5 : vs 5 = .int .i64 (t : Int) := e5
                            replace e6 : vs 6 = .int .i64 ((t : Int) + 1) := e6
                            replace e7 : vs 7 = .slice a1 1 c1 := e7
                            replace e8 : vs 8 = .slice (some ⟨bo, offo, none⟩) i i := e8
                            replace e9 : vs 9 = .int .i64 (k : Int) := e9
                            replace e10 : vs 10 = .int .i64 (k : Int) := e10
                            replace e11 : vs 11 = .int .i64 ((k : Int) + 1) := e11
                            replace e12 : vs 12 = .slice a2 1 c2 := e12
                            replace e13 : vs 13 = .bool true := e13
                            replace e14 : vs 14 = .bool false := e14
                            replace e15 : vs 15 = .bool false := e15
                            simp only [putAll, e0, e1, e2, e3, e4, e5, e6, e7, e8, e9, e10, e11, e12, e13, e14, e15, Nat.reduceAdd, Nat.zero_add]
                            clear e0 e1 e2 e3 e4 e5 e6 e7 e8 e9 e10 e11 e12 e13 e14 e15
                            try simp only [List.setIfInBounds_toArray, List.set_cons_succ, List.set_cons_zero]
                            go_wp2_with fail
                            go_meet
                            exact ⟨rfl, Lib.hid hR⟩
                        obtain ⟨rfl, HKS⟩ := hcut
                        have hD2 := (HK2.out.tr HKS.out).get HD.out (by simp)
                        have HSET := Lib.hid (ints_set (k := k) hD2 1)
                        obtain ⟨d1, f1⟩ := ints_at hD2 (k := k) (by rw [HDL.out]; exact hlk)
                        rw [HFZ.out] at d1
                        clear hD2 d0 hDk
                        go_wp2_with fail
                        go_roundw
                        case rel =>
                          refine ⟨t + 1, D.set k 1, hlt2, by go_num, Lib.hid (by rw [List.length_set]; exact HDL.out), Lib.hid HSET.out, Lib.hid (fun j hj => ?_), Lib.hid (((KWC.out.tr HKS.out)).setCell _ _ (.inr HTB.out))⟩
                          rw [nth_set D k j 1 (by rw [HDL.out]; exact hlk), HTN.out j (by rw [HRLr.out]; exact hj), HDT.out j hj]
                          by_cases hjk : j = k
                          · simp [hjk]
                          · simp [hjk]
                        case measure => simp [intOf]; omega
                    · obtain rfl : k = i := by omega
                      exact (fr_none HST2.out (i := t) (by rw [HAL.out]; exact hlt2) (fun j hj => HF.out j (by rw [HRLr.out] at hj; exact hj))).elim
                · obtain rfl : t = i := by omega
                  go_wp2_with fail
                  refine (known18_any wo).mono ?_
                  rintro e w7 ⟨rfl, kp7⟩
                  go_wp2_with fail
                  go_ret
                  exact ⟨rfl, (K5.out.tr HK.out).tr kp7⟩
  · go_wp2_with fail
    refine (known18_any w2).mono ?_
    rintro e w3 ⟨rfl, kp3⟩
    go_wp2_with fail
    go_ret
    exact ⟨rfl, K2.out.tr kp3⟩
end Go.Proofs.Ytfacpfogdcefpaa
