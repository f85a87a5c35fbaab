/-
  WalkDoes: the records that a question takes are the document's, in their order, or it is refused.
-/
import Derived.Test.YthmaobmgogmaoaaStcL
namespace Go.Proofs.Ythmaobmgogmaoaa
open Go.RowKit Go.Shelf
set_option linter.unusedSimpArgs false
set_option linter.unusedVariables false
set_option maxRecDepth 100000

set_option maxHeartbeats 6400000 in
theorem walkDoes_any (sa : Option Addr) (sn sc : Nat) (S : List Ih) (hS : sn = S.length) (ma : Option Addr) (mn mc : Nat) (many : List Int) (hM : mn = many.length) (da : Option Addr) (dn dc : Nat) (D : List Ih) (hD : dn = D.length) (one : Int) (fa : Option Addr) (fn fc : Nat) (MF : List Bh) (hF : fn = MF.length) (ba : Option Addr) (bn bc : Nat) (BF : List Bool) (hB : bn = BF.length) (w : World)
    (hs : RdI w sa sc S) (hm : Rd w .i64 ma mc many) (hd : RdI w da dc D) (hf : RdM w fa fc MF) (hb : RdF w ba bc BF) :
    Calls Try.prog 8 #[.slice sa sn sc, .slice ma mn mc, .slice da dn dc, .int .i64 one, .slice fa fn fc, .slice ba bn bc] w fun e w' => e = .returned (.bool true) ∧ Kp [] w w' := by
  have HS := Lib.hid hs
  have HM := Lib.hid hm
  have HD := Lib.hid hd
  have HMF := Lib.hid hf
  have HBF := Lib.hid hb
  have HSN := Lib.hid hS
  have HMN := Lib.hid hM
  have HDN := Lib.hid hD
  have HFN := Lib.hid hF
  have HBN := Lib.hid hB
  have hc1 : mn ≤ mc := by rw [hM]; exact hm.1
  have hc2 := hm.2.1
  have hdc : dn ≤ dc := by rw [hD]; exact hd.1.1
  have hdc2 := hd.1.2.1
  have HGR := Lib.hid (r19Great_any sa sn sc S hS da dn dc D hD 80 w hs hd)
  have HG2 : Hid (∀ W, W = w → Calls Try.prog 27 #[.slice fa fn fc, .slice ba bn bc] W fun e w' => e = .returned (.bool (great20 (lisF MF) bn)) ∧ w' = W) := Lib.hid (fun W hW => by rw [hW]; exact r20Great_any fa fn fc MF hF ba bn bc w hf)
  have HSL : Hid ((lis S).length = sn) := Lib.hid (by rw [hS]; simp [lis])
  have HDL : Hid ((lis D).length = dn) := Lib.hid (by rw [hD]; simp [lis])
  have hfc : fn ≤ fc := by rw [hF]; exact hf.1.1
  have hfc2 : fc ≤ 9223372036854775807 := hf.1.2.1
  have hbc : bn ≤ bc := by rw [hB]; exact hb.1
  have hbc2 : bc ≤ 9223372036854775807 := hb.2.1
  have HCC : Hid (fn ≤ fc ∧ fc ≤ 9223372036854775807 ∧ bn ≤ bc ∧ bc ≤ 9223372036854775807) := Lib.hid ⟨hfc, hfc2, hbc, hbc2⟩
  clear hfc hfc2 hbc hbc2
  obtain ⟨v, hv⟩ : ∃ v, v = great19 (lis S) (lis D) 80 := ⟨_, rfl⟩
  obtain ⟨v2, hv2⟩ : ∃ v, v = great20 (lisF MF) bn := ⟨_, rfl⟩
  rw [← hv] at HGR
  rw [← hv2] at HG2
  have HV := Lib.hid hv
  clear hs hm hd hS hM hD hv hf hb hF hB hv2
  go_enter Try.func8, Try.ntmps8
  go_upto_region 1 with (fail)
  go_cut [33] (fun v33 wx => ∃ b : Bool, v33 = .bool b ∧ Hid (b = false → v = false) ∧ wx = w)
  case first =>
    go_wp2_with fail
    refine HGR.out.mono ?_
    rintro e w1 ⟨rfl, rfl⟩
    cases v
    rotate_left
    · go_wp2_with fail
      go_meet
      exact ⟨true, rfl, Lib.hid (fun h => by cases h), rfl⟩
    by_cases h10 : (10 : Int) < (mn : Int)
    · go_wp2_with fail
      go_meet
      exact ⟨true, rfl, Lib.hid (fun h => by cases h), rfl⟩
    go_wp2_with fail
    refine (HG2.out w1 rfl).mono ?_
    rintro e w2 ⟨rfl, rfl⟩
    cases v2
    rotate_left
    · go_wp2_with fail
      go_meet
      exact ⟨true, rfl, Lib.hid (fun h => by cases h), rfl⟩
    go_wp2_with fail
    go_meet
    exact ⟨false, by first | rfl | (simp; omega), Lib.hid (fun _ => by first | rfl | trivial), rfl⟩
  obtain ⟨b, rfl, HBV, rfl⟩ := hcut
  obtain ⟨w1, rfl⟩ : ∃ w1 : World, w1 = wc := ⟨_, rfl⟩
  cases b
  rotate_left
  · go_wp2_with fail
    refine (known20_any w1).mono ?_
    rintro e w2 ⟨rfl, kp2⟩
    go_wp2_with fail
    go_ret
    exact ⟨rfl, kp2⟩
  have hvf := HBV.out rfl
  have hgr := great_no (HV.out.symm.trans hvf)
  have hr0 := row0_le hgr.1
  have hs10 : sn ≤ 10 := by have := hgr.2.2.1; rw [HSL.out] at this; exact this
  have hd10 : dn ≤ 10 := by have := hgr.2.2.2; rw [HDL.out] at this; exact this
  have HR0 := Lib.hid hr0
  clear hgr hr0 HGR HG2 HBV hvf
  have HOF := Lib.hid (stOf_any sa sn sc S HSN.out ma mn mc many HMN.out da dn dc D HDN.out one w1 HS.out HM.out HD.out HR0.out)
  go_wp2_with fail
  refine HOF.out.mono ?_
  rintro e w4 ⟨kp4, ⟨h1, rfl⟩ | ⟨hmay, T, lf, rfl, hlf, hT, ra, rc, RL, na, nc, NL, hTr, hEq⟩⟩
  · have HNT : Hid (TreeK w4 none 0) := Lib.hid (.inl ⟨rfl, rfl⟩)
    have K4 := Lib.hid kp4
    clear h1 kp4 HOF
    go_wp2_with fail
    refine (wAsk_nil HNT.out fa fn fc ba bn bc).mono ?_
    rintro e w5 ⟨rfl, rfl⟩
    go_wp2_with fail
    refine (known20_any w5).mono ?_
    rintro e w6 ⟨rfl, kp6⟩
    have HF := Lib.hid (K4.out.tr kp6)
    clear kp6
    go_wp2_with fail
    go_ret
    exact ⟨rfl, HF.out⟩
  subst hlf
  have hok := mayS_ok hmay
  rw [HSL.out] at hok
  obtain ⟨hk1, hk8, -, -, hlf1, hlf2, hcol, hmet⟩ := hok
  have HLF : Hid (1 ≤ lf ∧ lf ≤ 1000000) := Lib.hid ⟨by omega, by omega⟩
  have HLEN : Hid ((∀ t, t < sn → (rowP (lis S) t).length = (rowP (lis S) 0).length) ∧ ∀ t, t < dn → (rowP (lis D) t).length = (rowP (lis S) 0).length) := Lib.hid ⟨fun t ht => (hcol t ht).1, fun t ht => hmet _ (by
    have h1 : t < (lis D).length := by rw [HDL.out]; exact ht
    show (lis D).getD t [] ∈ lis D
    rw [List.getD_eq_getElem?_getD, List.getElem?_eq_getElem h1]
    exact List.getElem_mem h1)⟩
  have hbt := built_ofP (S := lis S) (M := lis D) (leaf := lf) (n := (rowP (lis S) 0).length) (by rw [HSL.out]; exact hk8) rfl HR0.out (mayS_ge hmay) (lisF MF) BF
  have hll := last_law (S := lis S) (M := lis D) (leaf := lf) (n := (rowP (lis S) 0).length) rfl HR0.out (mayS_ge hmay)
  obtain ⟨P, hP⟩ : ∃ P, P = ofP (lis S) (lis D) lf := ⟨_, rfl⟩
  rw [← hP] at hbt hll hEq
  rw [HSL.out] at hbt hEq
  rw [HSL.out, HDL.out] at hTr
  obtain ⟨L, hL⟩ : ∃ L, L = askN sn P.R P.N (lisF MF) BF 0 := ⟨_, rfl⟩
  have HL := Lib.hid hL
  have HP := Lib.hid hP
  have HBT := Lib.hid hbt
  have HLL := Lib.hid hll
  have HEQ := Lib.hid hEq
  have HTR := Lib.hid hTr
  have K4 := Lib.hid kp4
  have HFEW : Hid (L.length ≤ 100000) := Lib.hid (by rw [hL]; exact hbt.few)
  clear hmay hTr hEq hbt hll hL hP kp4 HOF hcol hmet hT hlf1 hlf2
  by_cases hfit : fn = sn ∧ bn = sn
  rotate_left
  · have HBD := Lib.hid (wAsk_bad w4 HTR.out hk1 fa fn fc ba bn bc hfit)
    have HNF := Lib.hid hfit
    clear hfit
    go_wp2_with fail
    refine HBD.out.mono ?_
    rintro e w5 ⟨rfl, rfl⟩
    go_upto_region 8 with (fail)
    go_cut [83] (fun v83 wx => v83 = .bool true ∧ wx = w5)
    case first =>
      by_cases h1 : fn = sn
      · have hb1 : ((fn : Int) != (sn : Int)) = false := by simp [h1]
        have hb2 : ((bn : Int) != (sn : Int)) = true := by
          have := HNF.out
          simp; omega
        clear h1
        go_wp2_with fail
        go_meet
        exact ⟨rfl, rfl⟩
      · have hb1 : ((fn : Int) != (sn : Int)) = true := by simp; omega
        clear h1
        go_wp2_with fail
        go_meet
        exact ⟨rfl, rfl⟩
    obtain ⟨rfl, rfl⟩ := hcut
    obtain ⟨w6, rfl⟩ : ∃ w6 : World, w6 = wc := ⟨_, rfl⟩
    go_wp2_with fail
    refine (known20_any w6).mono ?_
    rintro e w7 ⟨rfl, kp7⟩
    have HF := Lib.hid (K4.out.tr kp7)
    clear kp7
    go_wp2_with fail
    go_ret
    exact ⟨rfl, HF.out⟩
  obtain ⟨rfl, rfl⟩ := hfit
  have hak := wAsk_any w4 HTR.out hk1 hk8 (by omega) fa bn fc MF HFN.out rfl (HMF.out.keep0 K4.out) ba bn bc BF HBN.out rfl (HBF.out.keep0 K4.out) (by
    have h1 := congrArg St.R HEQ.out
    have h2 := congrArg St.N HEQ.out
    dsimp only at h1 h2
    rw [h1, h2]; exact HBT.out)
  have hRN : RL.map (pr bn) = P.R ∧ NL.map pn = P.N := ⟨congrArg St.R HEQ.out, congrArg St.N HEQ.out⟩
  rw [hRN.1, hRN.2, ← HL.out] at hak
  have HAK := Lib.hid hak
  obtain ⟨ln, hln⟩ : ∃ ln, ln = L.length := ⟨_, rfl⟩
  rw [← hln] at HAK
  have HLN := Lib.hid hln
  clear hak hRN hln
  go_wp2_with fail
  refine HAK.out.mono ?_
  rintro e w5 ⟨la, lc, rfl, ho, kp5⟩
  have HO5 := Lib.hid ho
  have HK5 := Lib.hid (K4.out.tr kp5)
  have hlc : ln ≤ lc ∧ lc ≤ 9223372036854775807 := ⟨by have := ho.rd.1; rw [nums_len, ← HLN.out] at this; exact this, ho.rd.2.1⟩
  have HRO := Lib.hid (r19Of_any sa bn sc S HSN.out da dn dc D HDN.out lf HLF.out _ rfl HLEN.out.1 HLEN.out.2 ⟨hk1, hk8, hd10, HR0.out⟩ w5 (HS.out.keep0 HK5.out) (HD.out.keep0 HK5.out))
  clear ho kp5 HAK
  go_wp2_with fail
  refine HRO.out.mono ?_
  rintro e w6 ⟨kp6, T2, rfl, ra2, rc2, RL2, na2, nc2, NL2, ht2, hE2⟩
  have HK6 := Lib.hid (HK5.out.tr kp6)
  have HO6 := Lib.hid (HO5.out.keep0 kp6)
  rw [HSL.out, HDL.out] at ht2
  rw [← HP.out] at hE2
  have h21 : RL2.map Ra.pr = P.R := congrArg St.R hE2
  have h22 : NL2.map pn = P.N := congrArg St.N hE2
  have HRA := Lib.hid (r20Ask_any w6 ht2 hk1 hk8 fa fc MF HFN.out (HMF.out.keep0 HK6.out) ba bc BF HBN.out (HBF.out.keep0 HK6.out) (by rw [h21, h22]; exact HBT.out) (by rw [h22]; exact HLL.out) L (by rw [h21, h22]; exact HL.out))
  rw [← HLN.out] at HRA
  clear kp6 ht2 hE2 h21 h22 HRO
  go_wp2_with fail
  refine HRA.out.mono ?_
  rintro e w7 ⟨ua, uc, rfl, hu, kp7⟩
  have HU7 := Lib.hid hu
  have HO7 := Lib.hid (HO6.out.keep0 kp7)
  have HK7 := Lib.hid (HK6.out.tr kp7)
  have huc : ln ≤ uc ∧ uc ≤ 9223372036854775807 := ⟨by have := hu.rd.1; rw [nums_len, ← HLN.out] at this; exact this, hu.rd.2.1⟩
  have hlnb : ln ≤ 100000 := by rw [HLN.out]; exact HFEW.out
  have hbln : ((ln : Int) != (ln : Int)) = false := by simp
  clear hu kp7 HRA
  go_wp2_with fail
  go_loopw [112] (fun vi wr => ∃ i : Nat, i ≤ ln ∧ vi = .int .i64 i ∧ Hid (Kp [] w7 wr)) (fun vi _ => ln - (intOf vi).toNat)
  case atStart => exact ⟨0, Nat.zero_le _, rfl, Lib.hid (Kp.refl _ _)⟩
  case round =>
    obtain ⟨i, hi, rfl, HKI⟩ := hrel
    obtain ⟨wi, rfl⟩ : ∃ wi : World, wi = wr := ⟨_, rfl⟩
    by_cases hlt : i < ln
    · have hil : i < (nums L).length := by rw [nums_len, ← HLN.out]; exact hlt
      obtain ⟨g1, rfl, e1, -, -, -⟩ := (HO7.out.keep0 HKI.out).at' hil
      obtain ⟨g2, rfl, e2, -, -, -⟩ := (HU7.out.keep0 HKI.out).at' hil
      generalize nth (nums L) i = x at e1 e2
      have hbx : (x != x) = false := by simp
      clear hil
      go_upto_region 16 with (fail)
      go_cut [123] (fun v123 wx => v123 = .bool false ∧ Hid (Kp [] wi wx))
      case first =>
        go_wp2_with go_quiet (fail)
        go_meet
        exact ⟨by first | rfl | simp, Lib.hid (kdNs _ _)⟩
      obtain ⟨rfl, HK9⟩ := hcut
      obtain ⟨w9, rfl⟩ : ∃ w9 : World, w9 = wc := ⟨_, rfl⟩
      have HKN := Lib.hid (HKI.out.tr HK9.out)
      clear e1 e2
      go_wp2_with fail
      go_roundw
      case rel => exact ⟨i + 1, hlt, by go_num, HKN⟩
      case measure => simp [intOf]; omega
    · obtain rfl : ln = i := by omega
      have HKE := Lib.hid (HK7.out.tr HKI.out)
      have HKW := Lib.hid (known20_any wi)
      go_wp2_with fail
      refine HKW.out.mono ?_
      rintro e w9 ⟨rfl, kp9⟩
      have HF := Lib.hid (HKE.out.tr kp9)
      clear kp9
      go_wp2_with fail
      go_ret
      exact ⟨rfl, HF.out⟩
end Go.Proofs.Ythmaobmgogmaoaa
