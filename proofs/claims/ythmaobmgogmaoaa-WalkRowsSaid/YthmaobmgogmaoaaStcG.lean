/-
  Questions: WalkRows.
-/
import Derived.Test.YthmaobmgogmaoaaStcF
import Derived.Test.YthmaobmgogmaoaaStbR
namespace Go.Proofs.Ythmaobmgogmaoaa
open Go.RowKit Go.Shelf
set_option linter.unusedSimpArgs false
set_option linter.unusedVariables false
set_option maxRecDepth 100000

theorem okRec_none {F : List (List Bool)} {ids : List Int} (h : okRec F ids = true) {j : Nat} (hj : j < ids.length) (e : nth ids j = -1) : (rowF F j).length = 0 := by
  have h1 := okRec_get.1 h j hj
  have h2 : ids.getD j 0 = -1 := e
  rw [h2] at h1
  unfold allowedB at h1
  simpa using h1
theorem rows_law {S M : List (List Int)} {leaf n : Nat} (hn : (S.getD 0 []).length = n) (hb : n ≤ 80) (hge : ∀ l ∈ S, ∀ x ∈ l, 0 ≤ x) (may : List (List Bool)) (by' : List Bool) :
    togP (((askN S.length (ofP S M leaf).R (ofP S M leaf).N may by' 0).map (recAt (ofP S M leaf).R)).map (starPR by')) = togP (grpP may by' (rowsP S M)) := by
  refine togP_Kn fun i => ?_
  have h1 := (walk_law (M := M) (leaf := leaf) hn hb hge may by').1 (fun ids => decide (starI by' ids = i)) (fun j hj ids => by show decide (starI by' (ids.set j (-1)) = i) = decide (starI by' ids = i); rw [starI_set hj.2])
  have h2 : ∀ l : List PR, Kn ((l.map (starPR by')).filter (hasI i)) = KP (fun ids => decide (starI by' ids = i)) l := fun l => KP_map (P := fun ids => decide (ids = i)) (f := starPR by') (Q := fun ids => decide (starI by' ids = i)) (fun x => rfl) l (fun x _ => rfl)
  unfold grpP
  rw [h2, h1, h2, KP_filter]
/-- What was taken reads on. -/
theorem TakenI.read {B : Nat} {oa : Option Addr} {oc : Nat} {XS : List Ra} {w w' : World} (h : TakenI B oa oc XS w) (k : Kp [] w w') : RdS racells 5 w' oa oc XS ∧ ∀ x ∈ XS, RaRd w' x :=
  ⟨(h.own.keep0 k).rd ralies, fun x hx => ((h.rec' x hx).keep0 k).rd⟩

set_option maxHeartbeats 6400000 in
theorem walkRows_any (sa : Option Addr) (sn sc : Nat) (S : List Ih) (hS : sn = S.length) (ma : Option Addr) (mn mc : Nat) (many : List Int) (hM : mn = many.length) (da : Option Addr) (dn dc : Nat) (D : List Ih) (hD : dn = D.length) (one : Int)
    (fa : Option Addr) (fn fc : Nat) (MF : List Bh) (hF : fn = MF.length) (ba : Option Addr) (bn bc : Nat) (BF : List Bool) (hB : bn = BF.length) (w : World) (hs : RdI w sa sc S) (hm : Rd w .i64 ma mc many) (hd : RdI w da dc D) (hf : RdM w fa fc MF) (hb : RdF w ba bc BF) :
    Calls Try.prog 9 #[.slice sa sn sc, .slice ma mn mc, .slice da dn dc, .int .i64 one, .slice fa fn fc, .slice ba bn bc] w fun e w' => e = .returned (.bool true) ∧ Kp [] w w' := by
  have HS := Lib.hid hs
  have HM := Lib.hid hm
  have HD := Lib.hid hd
  have HMF := Lib.hid hf
  have HBF := Lib.hid hb
  have HSN := Lib.hid hS
  have HMN := Lib.hid hM
  have HDN := Lib.hid hD
  have HFN := Lib.hid hF
  have HBN := Lib.hid hB
  have hc1 : mn ≤ mc := by rw [hM]; exact hm.1
  have hc2 := hm.2.1
  have hdc : dn ≤ dc := by rw [hD]; exact hd.1.1
  have hdc2 := hd.1.2.1
  have HGR := Lib.hid (r19Great_any sa sn sc S hS da dn dc D hD 80 w hs hd)
  have HG2 : Hid (∀ W, W = w → Calls Try.prog 27 #[.slice fa fn fc, .slice ba bn bc] W fun e w' => e = .returned (.bool (great20 (lisF MF) bn)) ∧ w' = W) := Lib.hid (fun W hW => by rw [hW]; exact r20Great_any fa fn fc MF hF ba bn bc w hf)
  have HSL : Hid ((lis S).length = sn) := Lib.hid (by rw [hS]; simp [lis])
  have HDL : Hid ((lis D).length = dn) := Lib.hid (by rw [hD]; simp [lis])
  have hfc : fn ≤ fc := by rw [hF]; exact hf.1.1
  have hfc2 : fc ≤ 9223372036854775807 := hf.1.2.1
  have hbc : bn ≤ bc := by rw [hB]; exact hb.1
  have hbc2 : bc ≤ 9223372036854775807 := hb.2.1
  have HCC : Hid (fn ≤ fc ∧ fc ≤ 9223372036854775807 ∧ bn ≤ bc ∧ bc ≤ 9223372036854775807) := Lib.hid ⟨hfc, hfc2, hbc, hbc2⟩
  clear hfc hfc2 hbc hbc2
  obtain ⟨v, hv⟩ : ∃ v, v = great19 (lis S) (lis D) 80 := ⟨_, rfl⟩
  obtain ⟨v2, hv2⟩ : ∃ v, v = great20 (lisF MF) bn := ⟨_, rfl⟩
  rw [← hv] at HGR
  rw [← hv2] at HG2
  have HV := Lib.hid hv
  clear hs hm hd hS hM hD hv hf hb hF hB hv2
  go_enter Try.func9, Try.ntmps9
  go_upto_region 1 with (fail)
  go_cut [50] (fun v50 wx => ∃ b : Bool, v50 = .bool b ∧ Hid (b = false → v = false ∧ fn = sn ∧ bn = sn) ∧ wx = w)
  case first =>
    go_wp2_with fail
    refine HGR.out.mono ?_
    rintro e w1 ⟨rfl, rfl⟩
    cases v
    rotate_left
    · go_wp2_with fail
      go_meet
      exact ⟨true, rfl, Lib.hid (fun h => by cases h), rfl⟩
    by_cases h10 : (10 : Int) < (mn : Int)
    · go_wp2_with fail
      go_meet
      exact ⟨true, rfl, Lib.hid (fun h => by cases h), rfl⟩
    go_wp2_with fail
    refine (HG2.out w1 rfl).mono ?_
    rintro e w2 ⟨rfl, rfl⟩
    cases v2
    rotate_left
    · go_wp2_with fail
      go_meet
      exact ⟨true, rfl, Lib.hid (fun h => by cases h), rfl⟩
    by_cases h1 : fn = sn
    · have hb1 : ((fn : Int) != (sn : Int)) = false := by simp [h1]
      by_cases h2 : bn = sn
      · have hb2 : ((bn : Int) != (sn : Int)) = false := by simp [h2]
        have HF : Hid (fn = sn ∧ bn = sn) := Lib.hid ⟨h1, h2⟩
        clear h1 h2
        go_wp2_with fail
        go_meet
        exact ⟨false, by first | rfl | (simp; omega), Lib.hid (fun _ => ⟨by first | rfl | trivial, HF.out⟩), rfl⟩
      · have hb2 : ((bn : Int) != (sn : Int)) = true := by simp; omega
        clear h1 h2
        go_wp2_with fail
        go_meet
        exact ⟨true, rfl, Lib.hid (fun h => by cases h), rfl⟩
    · have hb1 : ((fn : Int) != (sn : Int)) = true := by simp; omega
      clear h1
      go_wp2_with fail
      go_meet
      exact ⟨true, rfl, Lib.hid (fun h => by cases h), rfl⟩
  obtain ⟨b, rfl, HBV, rfl⟩ := hcut
  obtain ⟨w1, rfl⟩ : ∃ w1 : World, w1 = wc := ⟨_, rfl⟩
  cases b
  rotate_left
  · go_wp2_with fail
    refine (known20_any w1).mono ?_
    rintro e w2 ⟨rfl, kp2⟩
    go_wp2_with fail
    go_ret
    exact ⟨rfl, kp2⟩
  obtain ⟨hvf, hfs, hbs⟩ := HBV.out rfl
  subst hfs
  subst hbs
  have hgr := great_no (HV.out.symm.trans hvf)
  have hr0 := row0_le hgr.1
  have hs10 : bn ≤ 10 := by have := hgr.2.2.1; rw [HSL.out] at this; exact this
  have hd10 : dn ≤ 10 := by have := hgr.2.2.2; rw [HDL.out] at this; exact this
  have HR0 := Lib.hid hr0
  clear hgr hr0 HGR HG2 HBV hvf
  have HOF := Lib.hid (stOf_any sa bn sc S HSN.out ma mn mc many HMN.out da dn dc D HDN.out one w1 HS.out HM.out HD.out HR0.out)
  go_wp2_with fail
  refine HOF.out.mono ?_
  rintro e w4 ⟨kp4, ⟨h1, rfl⟩ | ⟨hmay, T, lf, rfl, hlf, hT, ra, rc, RL, na, nc, NL, hTr, hEq⟩⟩
  · go_wp2_with fail
    refine (known20_any w4).mono ?_
    rintro e w5 ⟨rfl, kp5⟩
    have HF := Lib.hid (kp4.tr kp5)
    clear kp4 kp5
    go_wp2_with fail
    go_ret
    exact ⟨rfl, HF.out⟩
  subst hlf
  have hok := mayS_ok hmay
  rw [HSL.out] at hok
  obtain ⟨hk1, hk8, -, -, -, -, hcol, hmet⟩ := hok
  have HLEN : Hid ((∀ t, t < bn → (rowP (lis S) t).length = (rowP (lis S) 0).length) ∧ ∀ t, t < dn → (rowP (lis D) t).length = (rowP (lis S) 0).length) := Lib.hid ⟨fun t ht => (hcol t ht).1, fun t ht => hmet _ (by
    have h1 : t < (lis D).length := by rw [HDL.out]; exact ht
    show (lis D).getD t [] ∈ lis D
    rw [List.getD_eq_getElem?_getD, List.getElem?_eq_getElem h1]
    exact List.getElem_mem h1)⟩
  have hbt := built_ofP (S := lis S) (M := lis D) (leaf := lf) (n := (rowP (lis S) 0).length) (by rw [HSL.out]; exact hk8) rfl HR0.out (mayS_ge hmay) (lisF MF) BF
  obtain ⟨q1, q2, q3⟩ := walk_law (S := lis S) (M := lis D) (leaf := lf) (n := (rowP (lis S) 0).length) rfl HR0.out (mayS_ge hmay) (lisF MF) BF
  have q4 := rows_law (S := lis S) (M := lis D) (leaf := lf) (n := (rowP (lis S) 0).length) rfl HR0.out (mayS_ge hmay) (lisF MF) BF
  rw [← hEq] at hbt q2 q3 q4
  dsimp only at hbt q2 q3 q4
  rw [HSL.out] at hbt q2 q3 q4
  rw [HSL.out, HDL.out] at hTr
  obtain ⟨L, hL⟩ : ∃ L, L = askN bn (RL.map (pr bn)) (NL.map pn) (lisF MF) BF 0 := ⟨_, rfl⟩
  have HTK := Lib.hid (taken20_any w4 hTr hk1 hk8 (by omega) fa bn fc MF HFN.out rfl (HMF.out.keep0 kp4) ba bn bc BF HBN.out rfl (HBF.out.keep0 kp4) hbt q2 (fun x hx => by have := (q3 x hx).1; simpa using this))
  have hLb := hbt.few
  rw [← hL] at HTK q3 hLb q4
  obtain ⟨PL, hPL⟩ : ∃ PL, PL = L.map (recAt (RL.map (pr bn))) := ⟨_, rfl⟩
  have HPO : Hid (∀ x ∈ PL, x.ids.length = bn ∧ x.ms.length = dn ∧ okRec (lisF MF) x.ids = true ∧ ∀ j, nth x.ids j = -1 → nthF BF j = false) := Lib.hid (fun x hx => by
    rw [hPL] at hx
    obtain ⟨y, hy, rfl⟩ := List.mem_map.1 hx
    have h1 := (q3 y hy).1
    rw [List.length_map] at h1
    have h2 : recAt (RL.map (pr bn)) y = pr bn RL[y] := recAt_get (by rw [List.getElem?_map, List.getElem?_eq_getElem h1]; rfl)
    have h3 := hTr.good _ (List.getElem_mem h1)
    refine ⟨?_, ?_, (q3 y hy).2⟩
    · rw [h2]; simp [pr]
    · rw [h2]; exact h3.2.1)
  rw [← hPL] at HTK q4
  obtain ⟨xn, hxn⟩ : ∃ xn, xn = L.length := ⟨_, rfl⟩
  rw [← hxn] at HTK hLb
  have HXN : Hid (xn = PL.length) := Lib.hid (by rw [hPL, List.length_map, hxn])
  have K4 := Lib.hid kp4
  have HQ4 := Lib.hid q4
  clear hmay hT hTr hEq hbt q1 q2 q3 q4 hL hPL hxn kp4 HOF hcol hmet
  go_wp2_with fail
  refine HTK.out.mono ?_
  rintro e w5 ⟨oa, oc, XS, rfl, hxs, htk, kp5⟩
  have HXS := Lib.hid hxs
  have HTI := Lib.hid htk
  have HK5 := Lib.hid (K4.out.tr kp5)
  have HXL : Hid (XS.length = xn) := Lib.hid (by rw [HXN.out, ← HXS.out, List.length_map])
  have hocap : xn ≤ oc ∧ oc ≤ 9223372036854775807 := by
    have := HTI.out.own.rd ralies
    exact ⟨by rw [← HXL.out]; exact this.1, this.2.1⟩
  obtain ⟨hoc1, hoc2⟩ := hocap
  clear hxs htk kp5 HTK
  go_wp2_with fail
  go_loopw [17, 78] (fun vo vi wr => ∃ (i : Nat) (ga : Option Addr) (gc : Nat) (GS : List Ra), i ≤ xn ∧ vi = .int .i64 i ∧ vo = .slice ga GS.length gc ∧ Hid (LiI w5 bn dn ga gc GS wr) ∧ Hid (GS.map Ra.pr = togP ((PL.take i).map (starPR BF)))) (fun _ vi _ => xn - (intOf vi).toNat)
  case atStart => exact ⟨0, none, 0, [], Nat.zero_le _, rfl, rfl, Lib.hid (LiI.nil _ _ _), Lib.hid rfl⟩
  case round =>
    obtain ⟨i, ga, gc, GS, hi, rfl, rfl, HG, HGM⟩ := hrel
    obtain ⟨wj, rfl⟩ : ∃ wj : World, wj = wr := ⟨_, rfl⟩
    obtain ⟨gn, hgn⟩ : ∃ gn, gn = GS.length := ⟨_, rfl⟩
    have hgnb : gn ≤ i := by
      rw [hgn]
      have h1 : GS.length = (GS.map Ra.pr).length := by simp
      rw [h1, HGM.out]
      refine Nat.le_trans (togP_len _) ?_
      rw [List.length_map, List.length_take]; omega
    have hgcap : gn ≤ gc ∧ gc ≤ 9223372036854775807 := ⟨by rw [hgn]; exact HG.out.rd.1, HG.out.rd.2.1⟩
    rw [← hgn]
    have HGN := Lib.hid hgn
    clear hgn
    by_cases hlt : i < xn
    · have hix : i < XS.length := by rw [HXL.out]; exact hlt
      obtain ⟨rd1, rd2⟩ := HTI.out.read HG.out.kp
      obtain ⟨ob0, off0, hoa, hcells⟩ := rd1.2.2 i hix
      have HRD : Hid (RaRd wj XS[i]) := Lib.hid (rd2 _ (List.getElem_mem hix))
      have hpj : PL[i]? = some XS[i].pr := by rw [← HXS.out, List.getElem?_map, List.getElem?_eq_getElem hix]; rfl
      obtain ⟨x, hx⟩ : ∃ x, x = XS[i] := ⟨_, rfl⟩
      rw [← hx] at hcells HRD hpj
      have hpo := HPO.out _ (List.mem_of_getElem? hpj)
      have HPJ : Hid (PL.take (i + 1) = PL.take i ++ [x.pr]) := Lib.hid (take_snoc hpj)
      obtain ⟨kn, hkn⟩ : ∃ kn, kn = x.ids.length := ⟨_, rfl⟩
      obtain ⟨sl, hsl⟩ : ∃ sl, sl = x.ms.length := ⟨_, rfl⟩
      have hkb : kn = bn := by rw [hkn]; exact hpo.1
      subst hkb
      have hrg : wj.rangeAt ob0 (off0 + i * 5) [.slice x.ia kn x.ic, .int .i64 x.cnt, .slice x.sa sl x.sc, .slice x.la sl x.lc, .slice x.ga sl x.gc] := fun s v hv => by
        have hs : s < 5 := (List.getElem?_eq_some_iff.1 hv).1
        rw [hcells s hs, ← hv, hkn, hsl]; rfl
      have HRG := Lib.hid hrg
      have HXO : Hid (kn = x.ids.length ∧ x.ms.length = dn ∧ okRec (lisF MF) x.ids = true ∧ ∀ j, nth x.ids j = -1 → nthF BF j = false) := Lib.hid ⟨hkn, hpo.2⟩
      have hic : kn ≤ x.ic ∧ x.ic ≤ 9223372036854775807 := ⟨by rw [hkn]; exact HRD.out.1.1, HRD.out.1.2.1⟩
      have HXV : Hid (raV x = .agg #[.slice x.ia kn x.ic, .int .i64 x.cnt, .slice x.sa sl x.sc, .slice x.la sl x.lc, .slice x.ga sl x.gc]) := Lib.hid (by unfold raV; rw [hkn, hsl])
      subst hoa
      clear rd1 rd2 hcells hpj hx hpo hkn hsl hrg hix
      obtain ⟨ia, hia⟩ : ∃ ia, ia = x.ia := ⟨_, rfl⟩
      obtain ⟨ic, hic2⟩ : ∃ ic, ic = x.ic := ⟨_, rfl⟩
      obtain ⟨sa', hsa'⟩ : ∃ ia, ia = x.sa := ⟨_, rfl⟩
      obtain ⟨sc', hsc'⟩ : ∃ ic, ic = x.sc := ⟨_, rfl⟩
      obtain ⟨la', hla'⟩ : ∃ ia, ia = x.la := ⟨_, rfl⟩
      obtain ⟨lc', hlc'⟩ : ∃ ic, ic = x.lc := ⟨_, rfl⟩
      obtain ⟨ga', hga'⟩ : ∃ ia, ia = x.ga := ⟨_, rfl⟩
      obtain ⟨gc', hgc'⟩ : ∃ ic, ic = x.gc := ⟨_, rfl⟩
      obtain ⟨cnt, hcnt⟩ : ∃ c, c = x.cnt := ⟨_, rfl⟩
      rw [← hia, ← hic2, ← hsa', ← hsc', ← hla', ← hlc', ← hga', ← hgc', ← hcnt] at HRG HXV
      rw [← hic2] at hic
      have HIDS : Hid (Rd wj .i64 ia ic x.ids) := Lib.hid (by rw [hia, hic2]; exact HRD.out.1)
      clear hia hic2 hsa' hsc' hla' hlc' hga' hgc' hcnt
      go_upto_region 13 with first
        | (refine wpList_load_mid rfl 34 _ rfl ob0 (off0 + i * 5) rfl [.slice ia kn ic, .int .i64 cnt, .slice sa' sl sc', .slice la' sl lc', .slice ga' sl gc'] _ HRG.out Try.underlying34 rfl (by kernel_rfl) ?_)
        | (refine wpList_store_row rfl 34 _ _ rfl wj.heap.size #[.slice ia kn ic, .int .i64 cnt, .slice sa' sl sc', .slice la' sl lc', .slice ga' sl gc'] rfl rfl 34 _ (heap_alloc_at rfl) (by kernel_rfl) rfl (by simp [Value.oneCell']) ?_)
      obtain ⟨bx, hbx⟩ : ∃ q, q = wj.heap.size := ⟨_, rfl⟩
      generalize hz : (wj.alloc (Obj.cells _ _)).setRow _ _ = w12
      rw [← hbx] at hz ⊢
      have hrp : w12.heap[bx]? = some (.cells #[.slice ia kn ic, .int .i64 cnt, .slice sa' sl sc', .slice la' sl lc', .slice ga' sl gc'] 34) := by rw [← hz]; exact setRow_heap _ bx _ _ _ _ (heap_alloc_at hbx)
      have kp : Kp [] wj w12 := by rw [← hz]; exact ((Kp.refl [] wj).alloc _).setRowF _ _ (.inr (by omega))
      have HRX := Lib.hid hrp
      have HKX := Lib.hid kp
      have p0 : w12.cell? ⟨bx, 0, none⟩ = some (.slice ia kn ic) := by rw [cell_of_row w12 bx 0 _ _ _ hrp]; rfl
      have HW12 := Lib.hid (HK5.out.tr (HG.out.kp.tr kp))
      clear hz hrp kp hbx
      simp only [Act.put]
      go_wp2_with fail
      go_loopw [85] (fun vk wr => ∃ k : Nat, k ≤ kn ∧ vk = .int .i64 k ∧ wr = w12) (fun vk _ => kn - (intOf vk).toNat)
      case atStart => exact ⟨0, Nat.zero_le _, rfl, rfl⟩
      case round =>
        obtain ⟨k, hk, rfl, rfl⟩ := hrel
        by_cases hlk : k < kn
        · have hkl : k < x.ids.length := by rw [← HXO.out.1]; exact hlk
          obtain ⟨b1, o1, hia, c1⟩ := (HIDS.out.keep0 HKX.out).2.2 k hkl
          obtain ⟨b2, o2, hba, c2⟩ := (HBF.out.keep0 HW12.out).at' k (by rw [← HBN.out]; exact hlk)
          obtain ⟨b3, o3, ra3, n3, rc3, hfa, cf, hn3', hrf⟩ := RdM.at' (HMF.out.keep0 HW12.out) k (by rw [← HFN.out]; exact hlk)
          obtain ⟨idv, hid⟩ : ∃ v, v = nth x.ids k := ⟨_, rfl⟩
          rw [← hid] at c1
          have hfree : idv = -1 → nthF BF k = false ∧ n3 = 0 := fun h => ⟨HXO.out.2.2.2 k (by rw [← hid]; exact h), by rw [hn3']; exact okRec_none HXO.out.2.2.1 hkl (by rw [← hid]; exact h)⟩
          subst hia
          subst hba
          subst hfa
          obtain ⟨hcc1, hcc2, hcc3, hcc4⟩ := HCC.out
          obtain ⟨bv, hbv⟩ : ∃ v, v = nthF BF k := ⟨_, rfl⟩
          rw [← hbv] at c2 hfree
          clear hid hbv hn3' hrf hkl
          by_cases hst : idv = -1
          · obtain ⟨h1, h2⟩ := hfree hst
            subst h1
            subst h2
            have hb1 : ((idv : Int) == (-1 : Int)) = true := by simp [hst]
            clear hst hfree
            go_wp2_with fail
            go_roundw
            case rel => exact ⟨k + 1, hlk, by go_num, by first | rfl | trivial⟩
            case measure => simp [intOf]; omega
          · have hb1 : ((idv : Int) == (-1 : Int)) = false := by simp [hst]
            clear hst hfree
            go_wp2_with fail
            go_roundw
            case rel => exact ⟨k + 1, hlk, by go_num, by first | rfl | trivial⟩
            case measure => simp [intOf]; omega
        · obtain rfl : kn = k := by omega
          clear p0
          have HRX2 : Hid (RaRd wr x) := Lib.hid (HRD.out.keep0 HKX.out)
          have HSC := Lib.hid (r20Starred_any x ba kn bc BF HBN.out HXO.out.1 (by omega) wr HRX2.out (HBF.out.keep0 HW12.out))
          rw [HXV.out] at HSC
          go_upto_region 19 with (fail)
          go_wp2_with first
            | (refine wpList_load_row rfl 34 _ rfl bx rfl 34 #[.slice ia kn ic, .int .i64 cnt, .slice sa' sl sc', .slice la' sl lc', .slice ga' sl gc'] (0, 0) _ HRX.out Try.underlying34 rfl (by kernel_rfl) ?_)
          refine HSC.out.mono ?_
          rintro _ w6 ⟨z2, rfl, hz2, hr2, kp6⟩
          have HZ2 := Lib.hid hz2
          have HG6 := Lib.hid (HG.out.keep0 (HKX.out.tr kp6))
          have HZ2L : Hid (z2.ids.length = kn ∧ z2.ms.length = dn) := Lib.hid ⟨by
            have : z2.ids = _ := congrArg PR.ids hz2
            rw [this]; show (starI BF x.ids).length = kn; rw [starI_len]; exact HXO.out.1.symm, by
            have : z2.ms = _ := congrArg PR.ms hz2
            rw [this]; exact HXO.out.2.1⟩
          have HPC := Lib.hid (r19Put_any ga gn gc GS HGN.out (by omega) z2 kn dn (by omega) (by omega) (fun x hx => (HG6.out.el x hx).2) HZ2L.out w6 HG6.out.rd (fun x hx => (HG6.out.el x hx).1) hr2)
          clear hz2 hr2 kp6 HSC
          go_wp2_with fail
          refine HPC.out.mono ?_
          rintro _ w7 ⟨oa2, oc2, YS2, rfl, ho7, he7, hm7, kp7⟩
          have HI7 : Hid (LiI w5 kn dn oa2 oc2 YS2 w7) := Lib.hid ⟨ho7.rd ralies, he7, HG6.out.kp.tr kp7⟩
          have HM7 : Hid (YS2.map Ra.pr = togP ((PL.take (i + 1)).map (starPR BF))) := Lib.hid (by rw [hm7, HZ2.out, HGM.out, HPJ.out, List.map_append, List.map_cons, List.map_nil, togP_snoc])
          clear ho7 he7 hm7 kp7 HPC
          go_wp2_with fail
          go_roundw
          case rel => exact ⟨i + 1, oa2, oc2, YS2, hlt, by go_num, rfl, HI7, HM7⟩
          case measure => simp [intOf]; omega
    · obtain rfl : xn = i := by omega
      have HALL : Hid (PL.take xn = PL) := Lib.hid (List.take_of_length_le (by rw [HXN.out]; exact Nat.le_refl _))
      have KW := Lib.hid (HK5.out.tr HG.out.kp)
      have HGC := Lib.hid (r20Groups_any sa bn sc S HSN.out da dn dc D HDN.out fa fc MF HFN.out ba bc BF HBN.out _ rfl HLEN.out.1 HLEN.out.2 ⟨by omega, hs10, hd10, HR0.out⟩ wj (HS.out.keep0 KW.out) (HD.out.keep0 KW.out) (HMF.out.keep0 KW.out) (HBF.out.keep0 KW.out))
      go_wp2_with fail
      refine HGC.out.mono ?_
      rintro e w13 ⟨wa, wc2, WS, rfl, hli, hwm⟩
      have hmap : GS.map Ra.pr = WS.map Ra.pr := by rw [HGM.out, HALL.out, HQ4.out, hwm]
      have hwl : WS.length = gn := by
        have h1 := congrArg List.length hmap
        rw [List.length_map, List.length_map, ← HGN.out] at h1
        exact h1.symm
      rw [hwl]
      have hwcap : gn ≤ wc2 ∧ wc2 ≤ 9223372036854775807 := ⟨by rw [← hwl]; exact hli.rd.1, hli.rd.2.1⟩
      have HWL := Lib.hid hwl
      have HMAP := Lib.hid hmap
      have HLI := Lib.hid hli
      have HG13 := Lib.hid (HG.out.keep0 hli.kp)
      have KW13 := Lib.hid (KW.out.tr hli.kp)
      have hbb : ((gn : Int) != (gn : Int)) = false := by simp
      clear hmap hwl hli hwm HGC
      go_wp2_with fail
      go_loopw [125] (fun vk wr => ∃ k : Nat, k ≤ gn ∧ vk = .int .i64 k ∧ Hid (Kp [] w13 wr)) (fun vk _ => gn - (intOf vk).toNat)
      case atStart => exact ⟨0, Nat.zero_le _, rfl, Lib.hid (Kp.refl _ _)⟩
      case round =>
        obtain ⟨k, hk, rfl, HKK⟩ := hrel
        obtain ⟨wk, rfl⟩ : ∃ wk : World, wk = wr := ⟨_, rfl⟩
        by_cases hlk : k < gn
        · have hk1 : k < GS.length := by rw [← HGN.out]; exact hlk
          have hk2 : k < WS.length := by rw [HWL.out]; exact hlk
          obtain ⟨b1, o1, hga, -⟩ := HG13.out.rd.2.2 k hk1
          obtain ⟨b2, o2, hwa, -⟩ := HLI.out.rd.2.2 k hk2
          have he : GS[k].pr = WS[k].pr := by
            have h1 : (GS.map Ra.pr)[k]? = (WS.map Ra.pr)[k]? := by rw [HMAP.out]
            rw [List.getElem?_map, List.getElem?_map, List.getElem?_eq_getElem hk1, List.getElem?_eq_getElem hk2] at h1
            exact Option.some.inj h1
          have HV1 : Hid (∀ W, Kp [] wk W → RaRd W GS[k] ∧ W.rangeAt b1 (o1 + k * 5) (racells GS[k])) := Lib.hid (fun W hW => by
            have h1 := HG13.out.keep0 (HKK.out.tr hW)
            refine ⟨(h1.el _ (List.getElem_mem hk1)).1, fun s v hv => ?_⟩
            obtain ⟨b, o, e1, e2⟩ := h1.rd.2.2 k hk1
            rw [hga] at e1
            cases e1
            have hs : s < 5 := (List.getElem?_eq_some_iff.1 hv).1
            rw [e2 s hs, ← hv])
          have HV2 : Hid (∀ W, Kp [] wk W → RaRd W WS[k] ∧ W.rangeAt b2 (o2 + k * 5) (racells WS[k])) := Lib.hid (fun W hW => by
            have h1 := HLI.out.keep0 (HKK.out.tr hW)
            refine ⟨(h1.el _ (List.getElem_mem hk2)).1, fun s v hv => ?_⟩
            obtain ⟨b, o, e1, e2⟩ := h1.rd.2.2 k hk2
            rw [hwa] at e1
            cases e1
            have hs : s < 5 := (List.getElem?_eq_some_iff.1 hv).1
            rw [e2 s hs, ← hv])
          obtain ⟨z1, hz1⟩ : ∃ z, z = GS[k] := ⟨_, rfl⟩
          obtain ⟨z2, hz2⟩ : ∃ z, z = WS[k] := ⟨_, rfl⟩
          rw [← hz1] at he HV1
          rw [← hz2] at he HV2
          have HE := Lib.hid he
          subst hga
          subst hwa
          clear hk1 hk2 he hz1 hz2
          go_upto_region 27 with (fail)
          refine wp_region_K (by kernel_rfl) [.val (.slice (some ⟨b1, o1, none⟩) gn gc), .val (.int .i64 (k : Int)), .val (.pointer (some ⟨b1, o1 + k * 5, none⟩)), .val (raV z1), .val (.slice (some ⟨b2, o2, none⟩) gn wc2), .val (.int .i64 (k : Int)), .val (.pointer (some ⟨b2, o2 + k * 5, none⟩)), .val (raV z2), .val (.bool true), .val (.bool false)] [[(17, none)], [(23, none)], [(128, some 0), (129, some 1)], [(130, some 2)], [(22, none)], [(23, none)], [(132, some 4), (133, some 5)], [(134, some 6)], [(131, some 3), (135, some 7)], [(136, some 8)]] rfl (by kernel_rfl) ?_ ?_
          · refine ⟨?o0, ?o1, ?o2, ?o3, ?o4, ?o5, ?o6, ?o7, ?o8, ?o9, trivial⟩
            case o0 => intro aR wR hR; replace hR := hR.undrew; intro (h17 : aR.tmps[17]? = some (.slice (some ⟨b1, o1, none⟩) gn gc)); exact exec_val (c := .slice (some ⟨b1, o1, none⟩) gn gc) (wanted_none rfl) (by go_simp) rfl
            case o1 => intro aR wR hR; replace hR := hR.undrew; intro (h23 : aR.tmps[23]? = some (.int .i64 (k : Int))); exact exec_val (c := .int .i64 (k : Int)) (wanted_none rfl) (by go_simp) rfl
            case o2 => intro aR wR hR; replace hR := hR.undrew; intro v128 h128 e128; replace e128 : v128 = .slice (some ⟨b1, o1, none⟩) gn gc := e128; subst e128; intro v129 h129 e129; replace e129 : v129 = .int .i64 (k : Int) := e129; subst e129; exact exec_val (c := .pointer (some ⟨b1, o1 + k * 5, none⟩)) (wanted_none rfl) (by go_simp) rfl
            case o3 => intro aR wR hR; replace hR := hR.undrew; intro v130 h130 e130; replace e130 : v130 = .pointer (some ⟨b1, o1 + k * 5, none⟩) := e130; subst e130; have hcc := (HV1.out wR hR).2; exact exec_val (c := raV z1) (wanted_none rfl) (exec_ld rfl (b := b1) (o := o1 + k * 5) (by go_simp) hcc Try.underlying34 rfl (by kernel_rfl)) rfl
            case o4 => intro aR wR hR; replace hR := hR.undrew; intro (h22 : aR.tmps[22]? = some (.slice (some ⟨b2, o2, none⟩) gn wc2)); exact exec_val (c := .slice (some ⟨b2, o2, none⟩) gn wc2) (wanted_none rfl) (by go_simp) rfl
            case o5 => intro aR wR hR; replace hR := hR.undrew; intro (h23 : aR.tmps[23]? = some (.int .i64 (k : Int))); exact exec_val (c := .int .i64 (k : Int)) (wanted_none rfl) (by go_simp) rfl
            case o6 => intro aR wR hR; replace hR := hR.undrew; intro v132 h132 e132; replace e132 : v132 = .slice (some ⟨b2, o2, none⟩) gn wc2 := e132; subst e132; intro v133 h133 e133; replace e133 : v133 = .int .i64 (k : Int) := e133; subst e133; exact exec_val (c := .pointer (some ⟨b2, o2 + k * 5, none⟩)) (wanted_none rfl) (by go_simp) rfl
            case o7 => intro aR wR hR; replace hR := hR.undrew; intro v134 h134 e134; replace e134 : v134 = .pointer (some ⟨b2, o2 + k * 5, none⟩) := e134; subst e134; have hcc := (HV2.out wR hR).2; exact exec_val (c := raV z2) (wanted_none rfl) (exec_ld rfl (b := b2) (o := o2 + k * 5) (by go_simp) hcc Try.underlying34 rfl (by kernel_rfl)) rfl
            case o8 => intro aR wR hR; replace hR := hR.undrew; intro v131 h131 e131; replace e131 : v131 = raV z1 := e131; subst e131; intro v135 h135 e135; replace e135 : v135 = raV z2 := e135; subst e135; refine exec_call (wanted_none rfl) (by go_simp; exact ⟨rfl, rfl⟩) ?_; refine (r19Same_yes z1 z2 HE.out wR (HV1.out wR hR).1 (HV2.out wR hR).1).mono ?_; rintro e7 w8 ⟨rfl, kp8⟩; exact ⟨_, rfl, rfl, kp8⟩
            case o9 => intro aR wR hR; replace hR := hR.undrew; intro v136 h136 e136; replace e136 : v136 = .bool true := e136; subst e136; exact exec_val (c := .bool false) (wanted_none rfl) (by go_simp) rfl
          · intro vs wR hR hV
            obtain ⟨e0, e1, e2, e3, e4, e5, e6, e7, e8, e9, -⟩ := hV
            replace e0 : vs 0 = .slice (some ⟨b1, o1, none⟩) gn gc := e0
            replace e1 : vs 1 = .int .i64 (k : Int) := e1
            replace e2 : vs 2 = .pointer (some ⟨b1, o1 + k * 5, none⟩) := e2
            replace e3 : vs 3 = raV z1 := e3
            replace e4 : vs 4 = .slice (some ⟨b2, o2, none⟩) gn wc2 := e4
            replace e5 : vs 5 = .int .i64 (k : Int) := e5
            replace e6 : vs 6 = .pointer (some ⟨b2, o2 + k * 5, none⟩) := e6
            replace e7 : vs 7 = raV z2 := e7
            replace e8 : vs 8 = .bool true := e8
            replace e9 : vs 9 = .bool false := e9
            simp only [putAll, e0, e1, e2, e3, e4, e5, e6, e7, e8, e9, Nat.reduceAdd, Nat.zero_add]
            clear e0 e1 e2 e3 e4 e5 e6 e7 e8 e9
            try simp only [List.setIfInBounds_toArray, List.set_cons_succ, List.set_cons_zero]
            have HKF : Hid (Kp [] w13 wR) := Lib.hid (HKK.out.tr hR)
            clear hR
            go_wp2_with fail
            go_roundw
            case rel => exact ⟨k + 1, hlk, by go_num, HKF⟩
            case measure => simp [intOf]; omega
        · have HKF : Hid (Kp [] w1 wk) := Lib.hid (KW13.out.tr HKK.out)
          go_wp2_with fail
          refine (known20_any wk).mono ?_
          rintro e w14 ⟨rfl, kp14⟩
          have HF := Lib.hid (HKF.out.tr kp14)
          clear kp14
          go_wp2_with fail
          go_ret
          exact ⟨rfl, HF.out⟩
end Go.Proofs.Ythmaobmgogmaoaa
