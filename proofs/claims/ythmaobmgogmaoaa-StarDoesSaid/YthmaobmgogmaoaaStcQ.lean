/-
  StarDoes: the star-tree of any columns tells the document's records, nodes and bytes, or is refused.
-/
import Derived.Test.YthmaobmgogmaoaaStcP
namespace Go.Proofs.Ythmaobmgogmaoaa
open Go.RowKit Go.Shelf
set_option linter.unusedSimpArgs false
set_option linter.unusedVariables false
set_option maxRecDepth 100000

set_option maxHeartbeats 12800000 in
theorem starDoes_any (sa : Option Addr) (sn sc : Nat) (S : List Ih) (hS : sn = S.length) (ma : Option Addr) (mn mc : Nat) (many : List Int) (hM : mn = many.length) (da : Option Addr) (dn dc : Nat) (D : List Ih) (hD : dn = D.length) (one : Int) (w : World)
    (hs : RdI w sa sc S) (hm : Rd w .i64 ma mc many) (hd : RdI w da dc D) :
    Calls Try.prog 6 #[.slice sa sn sc, .slice ma mn mc, .slice da dn dc, .int .i64 one] w fun e w' => e = .returned (.bool true) ∧ Kp [] w w' := by
  have HS := Lib.hid hs
  have HM := Lib.hid hm
  have HD := Lib.hid hd
  have HSN := Lib.hid hS
  have HMN := Lib.hid hM
  have HDN := Lib.hid hD
  have hc1 : mn ≤ mc := by rw [hM]; exact hm.1
  have hc2 := hm.2.1
  have hdc : dn ≤ dc := by rw [hD]; exact hd.1.1
  have hdc2 := hd.1.2.1
  have HGR := Lib.hid (r19Great_any sa sn sc S hS da dn dc D hD 80 w hs hd)
  have HSL : Hid ((lis S).length = sn) := Lib.hid (by rw [hS]; simp [lis])
  have HDL : Hid ((lis D).length = dn) := Lib.hid (by rw [hD]; simp [lis])
  obtain ⟨v, hv⟩ : ∃ v, v = great19 (lis S) (lis D) 80 := ⟨_, rfl⟩
  rw [← hv] at HGR
  have HV := Lib.hid hv
  clear hs hm hd hS hM hD hv
  go_enter Try.func6, Try.ntmps6
  go_wp2_with fail
  refine HGR.out.mono ?_
  rintro e w1 ⟨rfl, rfl⟩
  cases v
  rotate_left
  · go_wp2_with fail
    refine (known19_any w1).mono ?_
    rintro e w2 ⟨rfl, kp2⟩
    go_wp2_with fail
    go_ret
    exact ⟨rfl, kp2⟩
  by_cases h10 : (10 : Int) < (mn : Int)
  · go_wp2_with fail
    refine (known19_any w1).mono ?_
    rintro e w2 ⟨rfl, kp2⟩
    go_wp2_with fail
    go_ret
    exact ⟨rfl, kp2⟩
  have hgr := great_no HV.out.symm
  have hr0 := row0_le hgr.1
  have hs10 : sn ≤ 10 := by have := hgr.2.2.1; rw [HSL.out] at this; exact this
  have hd10 : dn ≤ 10 := by have := hgr.2.2.2; rw [HDL.out] at this; exact this
  have HR0 := Lib.hid hr0
  clear hgr hr0 HGR
  have HOF := Lib.hid (stOf_any sa sn sc S HSN.out ma mn mc many HMN.out da dn dc D HDN.out one w1 HS.out HM.out HD.out HR0.out)
  go_wp2_with fail
  refine HOF.out.mono ?_
  rintro e w4 ⟨kp4, hpost⟩
  have HMA := Lib.hid (r19May_any sa sn sc S HSN.out ma mn mc many HMN.out da dn dc D HDN.out one w4 (HS.out.keep0 kp4) (HM.out.keep0 kp4) (HD.out.keep0 kp4))
  have K4 := Lib.hid kp4
  rcases hpost with ⟨hmay, rfl⟩ | ⟨hmay, T, lf, rfl, hlf, hT, ra, rc, RL, na, nc, NL, hTr, hEq⟩
  · rw [hmay] at HMA
    clear hmay kp4 HOF
    go_wp2_with fail
    refine HMA.out.mono ?_
    rintro e w5 ⟨rfl, kp5⟩
    have K5 := Lib.hid (K4.out.tr kp5)
    clear kp5
    go_wp2_with fail
    refine (known19_any w5).mono ?_
    rintro e w6 ⟨rfl, kp6⟩
    have HF := Lib.hid (K5.out.tr kp6)
    clear kp6
    go_wp2_with fail
    go_ret
    exact ⟨rfl, HF.out⟩
  subst hlf
  rw [hmay] at HMA
  have HMAY := Lib.hid hmay
  have hok := mayS_ok hmay
  rw [HSL.out] at hok
  obtain ⟨hk1, hk8, -, -, hlf1, hlf2, hcol, hmet⟩ := hok
  have HLF : Hid (1 ≤ lf ∧ lf ≤ 1000000) := Lib.hid ⟨by omega, by omega⟩
  have HLEN : Hid ((∀ t, t < sn → (rowP (lis S) t).length = (rowP (lis S) 0).length) ∧ ∀ t, t < dn → (rowP (lis D) t).length = (rowP (lis S) 0).length) := Lib.hid ⟨fun t ht => (hcol t ht).1, fun t ht => hmet _ (by
    have h1 : t < (lis D).length := by rw [HDL.out]; exact ht
    show (lis D).getD t [] ∈ lis D
    rw [List.getD_eq_getElem?_getD, List.getElem?_eq_getElem h1]
    exact List.getElem_mem h1)⟩
  rw [HSL.out, HDL.out] at hTr
  rw [HSL.out] at hEq
  have HTR := Lib.hid hTr
  have HEQ := Lib.hid hEq
  clear hmay hTr hEq kp4 HOF hcol hmet hT hlf1 hlf2
  go_wp2_with fail
  refine HMA.out.mono ?_
  rintro e w5 ⟨rfl, kp5⟩
  have HK5 := Lib.hid (K4.out.tr kp5)
  have HTR5 := Lib.hid (HTR.out.keep0 kp5)
  have HRO := Lib.hid (r19Of_any sa sn sc S HSN.out da dn dc D HDN.out lf HLF.out _ rfl HLEN.out.1 HLEN.out.2 ⟨hk1, hk8, hd10, HR0.out⟩ w5 (HS.out.keep0 HK5.out) (HD.out.keep0 HK5.out))
  clear kp5 HMA HTR
  go_wp2_with fail
  refine HRO.out.mono ?_
  rintro e w7 ⟨kp6, T2, rfl, ra2, rc2, RL2, na2, nc2, NL2, ht2, hE2⟩
  have HK7 := Lib.hid (HK5.out.tr kp6)
  have HTA := Lib.hid (HTR5.out.keep0 kp6)
  rw [HSL.out, HDL.out] at ht2
  have HTB := Lib.hid ht2
  have hee := HEQ.out.trans hE2.symm
  injection hee with he1 he2
  have hbd := ofP_bound (lis S) (lis D) lf (by rw [HSL.out]; exact hk8) HR0.out
  rw [← hE2] at hbd
  dsimp only at hbd
  rw [List.length_map, List.length_map] at hbd
  have hl1 : RL.length = RL2.length := by have := congrArg List.length he1; simpa using this
  have hl2 : NL.length = NL2.length := by have := congrArg List.length he2; simpa using this
  have hkfA := built_few HMAY.out HR0.out HEQ.out
  have hkfB : ∀ y ∈ NL2, y.kids.length ≤ 81 := built_few HMAY.out HR0.out hE2
  obtain ⟨b1, b2, b3⟩ := tree_bytes HTA.out hk8 (by omega) (by rw [hl1]; exact hbd.1) (by rw [hl2]; exact hbd.2) hkfA
  obtain ⟨d1, d2, d3⟩ := rtree_bytes HTB.out hk8 (by omega) hbd.1 hbd.2 hkfB
  obtain ⟨rn, hrn⟩ : ∃ rn, rn = RL2.length := ⟨_, rfl⟩
  obtain ⟨nn, hnn⟩ : ∃ nn, nn = NL2.length := ⟨_, rfl⟩
  have hrnb : rn ≤ 100000 := by rw [hrn]; exact hbd.1
  have hnnb : nn ≤ 100000000 := by rw [hnn]; exact hbd.2
  obtain ⟨R, hR⟩ : ∃ R, R = RL2.map Ra.pr := ⟨_, rfl⟩
  obtain ⟨N, hN⟩ : ∃ N, N = NL2.map pn := ⟨_, rfl⟩
  have HRL : Hid (R.length = rn) := Lib.hid (by rw [hR, List.length_map, hrn])
  have HNL : Hid (N.length = nn) := Lib.hid (by rw [hN, List.length_map, hnn])
  have hcell := HTB.out.cell
  rw [← hrn, ← hnn] at hcell
  have HC : Hid (∀ W, Kp [] w7 W → W.cell? ⟨T2, 0, none⟩ = some (.int .i64 sn) ∧ W.cell? ⟨T2, 2, none⟩ = some (.slice ra2 rn rc2) ∧ W.cell? ⟨T2, 3, none⟩ = some (.slice na2 nn nc2)) := Lib.hid (fun W hW => ⟨hW.cell hcell.1 (by simp), hW.cell hcell.2.2.1 (by simp), hW.cell hcell.2.2.2.1 (by simp)⟩)
  have hrc : rn ≤ rc2 ∧ rc2 ≤ 9223372036854775807 := ⟨by rw [hrn]; exact (HTB.out.recs.rd ralies).1, (HTB.out.recs.rd ralies).2.1⟩
  have hncc : nn ≤ nc2 ∧ nc2 ≤ 9223372036854775807 := ⟨by rw [hnn]; exact (HTB.out.nodes.rd nlies).1, (HTB.out.nodes.rd nlies).2.1⟩
  have HRECS : Hid (∀ W, Kp [] w7 W → Calls Try.prog 14 #[.pointer (some ⟨T, 0, none⟩)] W fun e w' => e = .returned (.int .i64 (rn : Int)) ∧ w' = W) := Lib.hid (fun W hW => by have := stRecords_any (HTA.out.keep0 hW) hk1; rw [hl1, ← hrn] at this; exact this)
  have HNODES : Hid (∀ W, Kp [] w7 W → Calls Try.prog 16 #[.pointer (some ⟨T, 0, none⟩)] W fun e w' => e = .returned (.int .i64 (nn : Int)) ∧ w' = W) := Lib.hid (fun W hW => by have := stNodes_any (HTA.out.keep0 hW) hk1; rw [hl2, ← hnn] at this; exact this)
  have HDEP : Hid (∀ W, Kp [] w7 W → Calls Try.prog 22 #[.pointer (some ⟨T, 0, none⟩)] W fun e w' => e = .returned (.int .i64 (sn : Int)) ∧ w' = W) := Lib.hid (fun W hW => stDepth_any (HTA.out.keep0 hW) hk1)
  have HMET : Hid (∀ W, Kp [] w7 W → Calls Try.prog 23 #[.pointer (some ⟨T, 0, none⟩)] W fun e w' => e = .returned (.int .i64 (dn : Int)) ∧ w' = W) := Lib.hid (fun W hW => stMetrics_any (HTA.out.keep0 hW) hk1)
  have HREC : Hid (∀ W i, Kp [] w7 W → Calls Try.prog 15 #[.pointer (some ⟨T, 0, none⟩), .int .i64 i] W (RecPost R i W)) := Lib.hid (fun W i hW => by have := stRecord_any W (HTA.out.keep0 hW) hk1 hk8 (by omega) i; rw [he1, ← hR] at this; exact this)
  have HNODE : Hid (∀ W i, Kp [] w7 W → Calls Try.prog 17 #[.pointer (some ⟨T, 0, none⟩), .int .i64 i] W (NodePost N i W)) := Lib.hid (fun W i hW => by have := stNode_any W (HTA.out.keep0 hW) hk1 b1 i; rw [he2, ← hN] at this; exact this)
  obtain ⟨Z, hZ⟩ : ∃ Z, Z = treeB sn dn R N := ⟨_, rfl⟩
  obtain ⟨zn, hzn⟩ : ∃ zn, zn = Z.length := ⟨_, rfl⟩
  have HZN := Lib.hid hzn
  have HBY1 : Hid (∀ W, Kp [] w7 W → Calls Try.prog 20 #[.pointer (some ⟨T, 0, none⟩)] W fun e w' => ∃ ad cap, e = .returned (.slice ad zn cap) ∧ Own w' W.heap.size 5 .u8 ad cap Z ∧ Kp [] W w') := Lib.hid (fun W hW => by
    have := stBytes_any W (HTA.out.keep0 hW) hk1 hk8 (by omega) b1 b2 b3
    rw [he1, he2, ← hR, ← hN, ← hZ, ← hzn] at this; exact this)
  have HBY2 : Hid (∀ W, Kp [] w7 W → Calls Try.prog 26 #[.pointer (some ⟨T2, 0, none⟩), .int .i64 (dn : Int)] W fun e w' => ∃ ad cap, e = .returned (.slice ad zn cap) ∧ Own w' W.heap.size 5 .u8 ad cap Z ∧ Kp [] W w') := Lib.hid (fun W hW => by
    have := r19Bytes_any W (HTB.out.keep0 hW) hk8 (by omega) d1 d2 d3 hbd.1 hbd.2
    rw [← hR, ← hN, ← hZ, ← hzn] at this; exact this)
  have HRX : Hid (∀ n, n < rn → ∃ g y, ra2 = some ⟨g, 0, none⟩ ∧ R[n]? = some (Ra.pr y) ∧ ∀ W, Kp [] w7 W → W.rangeAt g (n * 5) (racells y) ∧ RaRd W y) := Lib.hid (fun n hn => by
    rw [hrn] at hn
    obtain ⟨g, h1, hc, -, -⟩ := HTB.out.recs.at' ralies hn
    obtain ⟨g1, -, -⟩ := HTB.out.good _ (List.getElem_mem hn)
    refine ⟨g, RL2[n], h1, by rw [hR]; simp [hn], fun W hW => ⟨range_keep (fun j v hv => ?_) hW, g1.rd.keep0 hW⟩⟩
    rw [(hc j (List.getElem?_eq_some_iff.1 hv).1).1]; exact hv)
  have HNX : Hid (∀ n, n < nn → ∃ g y, na2 = some ⟨g, 0, none⟩ ∧ N[n]? = some (pn y) ∧ y.kn = y.kids.length ∧ ∀ W, Kp [] w7 W → W.rangeAt g (n * 4) (ncells y) ∧ RdS kdcells 2 W y.ka y.kc y.kids) := Lib.hid (fun n hn => by
    rw [hnn] at hn
    obtain ⟨g, h1, hc, -, -⟩ := HTB.out.nodes.at' nlies hn
    have hg := HTB.out.kids _ (List.getElem_mem hn)
    refine ⟨g, NL2[n], h1, by rw [hN]; simp [hn], hg.1, fun W hW => ⟨range_keep (fun j v hv => ?_) hW, RdS.keep0 (hg.2.1.rd kdlies) kdlies.len hW⟩⟩
    rw [(hc j (List.getElem?_eq_some_iff.1 hv).1).1]; exact hv)
  clear ht2 hE2 he1 he2 hbd hl1 hl2 hkfA hkfB b1 b2 b3 d1 d2 d3 hrn hnn hR hN hcell hZ hzn kp6 HRO HTR5
  go_upto_region 7 with (fail)
  go_cut [101] (fun v101 wx => v101 = .bool false ∧ Hid (Kp [] w7 wx))
  case first => as_aux_lemma =>
    refine wp_region_K (by kernel_rfl) [.val (.pointer (some ⟨T, 0, none⟩)), .val (.bool false), .val (.bool false), .val (.int .i64 0), .val (.bool false), .val (.bool false), .val (.bool false), .val (.pointer (some ⟨T, 0, none⟩)), .val (.int .i64 (rn : Int)), .val (.pointer (some ⟨T2, 0, none⟩)), .val (.pointer (some ⟨T2, 0, none⟩)), .val (.pointer (some ⟨T2, 2, none⟩)), .val (.slice ra2 rn rc2), .val (.int .i64 ((rn : Nat) : Int)), .val (.bool false), .val (.bool false), .val (.bool false), .val (.pointer (some ⟨T, 0, none⟩)), .val (.int .i64 (nn : Int)), .val (.pointer (some ⟨T2, 0, none⟩)), .val (.pointer (some ⟨T2, 0, none⟩)), .val (.pointer (some ⟨T2, 3, none⟩)), .val (.slice na2 nn nc2), .val (.int .i64 ((nn : Nat) : Int)), .val (.bool false), .val (.bool false), .val (.bool false), .val (.pointer (some ⟨T, 0, none⟩)), .val (.int .i64 (sn : Int)), .val (.pointer (some ⟨T2, 0, none⟩)), .val (.pointer (some ⟨T2, 0, none⟩)), .val (.pointer (some ⟨T2, 0, none⟩)), .val (.int .i64 (sn : Int)), .val (.bool false), .val (.bool false), .val (.bool false), .val (.pointer (some ⟨T, 0, none⟩)), .val (.int .i64 (dn : Int)), .val (.slice da dn dc), .val (.int .i64 ((dn : Nat) : Int)), .val (.bool false), .val (.bool false)] [[(9, none)], [(60, some 0)], [(61, some 1)], [(62, some 2), (10, none)], [(62, some 2), (63, some 3)], [(62, some 2), (64, some 4)], [(65, some 5)], [(66, some 6), (9, none)], [(66, some 6), (67, some 7)], [(66, some 6), (11, none)], [(66, some 6), (69, some 9)], [(66, some 6), (70, some 10)], [(66, some 6), (71, some 11)], [(66, some 6), (72, some 12)], [(66, some 6), (68, some 8), (73, some 13)], [(66, some 6), (74, some 14)], [(75, some 15)], [(76, some 16), (9, none)], [(76, some 16), (77, some 17)], [(76, some 16), (11, none)], [(76, some 16), (79, some 19)], [(76, some 16), (80, some 20)], [(76, some 16), (81, some 21)], [(76, some 16), (82, some 22)], [(76, some 16), (78, some 18), (83, some 23)], [(76, some 16), (84, some 24)], [(85, some 25)], [(86, some 26), (9, none)], [(86, some 26), (87, some 27)], [(86, some 26), (11, none)], [(86, some 26), (89, some 29)], [(86, some 26), (90, some 30)], [(86, some 26), (91, some 31)], [(86, some 26), (88, some 28), (92, some 32)], [(86, some 26), (93, some 33)], [(94, some 34)], [(95, some 35), (9, none)], [(95, some 35), (96, some 36)], [(95, some 35), (2, none)], [(95, some 35), (98, some 38)], [(95, some 35), (97, some 37), (99, some 39)], [(95, some 35), (100, some 40)]] rfl (by kernel_rfl) ?_ ?_
    · refine ⟨?o0, ?o1, ?o2, ?o3, ?o4, ?o5, ?o6, ?o7, ?o8, ?o9, ?o10, ?o11, ?o12, ?o13, ?o14, ?o15, ?o16, ?o17, ?o18, ?o19, ?o20, ?o21, ?o22, ?o23, ?o24, ?o25, ?o26, ?o27, ?o28, ?o29, ?o30, ?o31, ?o32, ?o33, ?o34, ?o35, ?o36, ?o37, ?o38, ?o39, ?o40, ?o41, trivial⟩
      case o0 => intro aR wR hR; replace hR := hR.undrew; intro (h9 : aR.tmps[9]? = some (.pointer (some ⟨T, 0, none⟩))); exact exec_val (c := .pointer (some ⟨T, 0, none⟩)) (wanted_none rfl) (by go_simp) rfl
      case o1 => intro aR wR hR; replace hR := hR.undrew; intro v60 h60 e60; replace e60 : v60 = .pointer (some ⟨T, 0, none⟩) := e60; subst e60; exact exec_val (c := .bool false) (wanted_none rfl) (by go_simp) rfl
      case o2 => intro aR wR hR; replace hR := hR.undrew; intro v61 h61 e61; replace e61 : v61 = .bool false := e61; subst e61; exact exec_val (c := .bool false) (wanted_none rfl) (by go_simp) rfl
      case o3 => intro aR wR hR; replace hR := hR.undrew; intro v62 h62 e62; replace e62 : v62 = .bool false := e62; subst e62; intro (h10 : aR.tmps[10]? = some (.int .i64 0)); exact exec_val (c := .int .i64 0) (wanted_yes (b := false) (t := 62) rfl rfl h62) (by go_simp) rfl
      case o4 => intro aR wR hR; replace hR := hR.undrew; intro v62 h62 e62; replace e62 : v62 = .bool false := e62; subst e62; intro v63 h63 e63; replace e63 : v63 = .int .i64 0 := e63; subst e63; exact exec_val (c := .bool false) (wanted_yes (b := false) (t := 62) rfl rfl h62) (by go_simp) rfl
      case o5 => intro aR wR hR; replace hR := hR.undrew; intro v62 h62 e62; replace e62 : v62 = .bool false := e62; subst e62; intro v64 h64 e64; replace e64 : v64 = .bool false := e64; subst e64; exact exec_val (c := .bool false) (wanted_none rfl) (by go_simp) rfl
      case o6 => intro aR wR hR; replace hR := hR.undrew; intro v65 h65 e65; replace e65 : v65 = .bool false := e65; subst e65; exact exec_val (c := .bool false) (wanted_none rfl) (by go_simp) rfl
      case o7 => intro aR wR hR; replace hR := hR.undrew; intro v66 h66 e66; replace e66 : v66 = .bool false := e66; subst e66; intro (h9 : aR.tmps[9]? = some (.pointer (some ⟨T, 0, none⟩))); exact exec_val (c := .pointer (some ⟨T, 0, none⟩)) (wanted_yes (b := false) (t := 66) rfl rfl h66) (by go_simp) rfl
      case o8 => intro aR wR hR; replace hR := hR.undrew; intro v66 h66 e66; replace e66 : v66 = .bool false := e66; subst e66; intro v67 h67 e67; replace e67 : v67 = .pointer (some ⟨T, 0, none⟩) := e67; subst e67; refine exec_call (wanted_yes (b := false) (t := 66) rfl rfl h66) (by go_simp; exact ⟨rfl, rfl⟩) ?_; refine (HRECS.out wR hR).mono ?_; rintro e7 w8 ⟨rfl, rfl⟩; exact ⟨_, rfl, rfl, Kp.refl _ _⟩
      case o9 => intro aR wR hR; replace hR := hR.undrew; intro v66 h66 e66; replace e66 : v66 = .bool false := e66; subst e66; intro (h11 : aR.tmps[11]? = some (.pointer (some ⟨T2, 0, none⟩))); exact exec_val (c := .pointer (some ⟨T2, 0, none⟩)) (wanted_yes (b := false) (t := 66) rfl rfl h66) (by go_simp) rfl
      case o10 => intro aR wR hR; replace hR := hR.undrew; intro v66 h66 e66; replace e66 : v66 = .bool false := e66; subst e66; intro v69 h69 e69; replace e69 : v69 = .pointer (some ⟨T2, 0, none⟩) := e69; subst e69; exact exec_val (c := .pointer (some ⟨T2, 0, none⟩)) (wanted_yes (b := false) (t := 66) rfl rfl h66) (by go_simp) rfl
      case o11 => intro aR wR hR; replace hR := hR.undrew; intro v66 h66 e66; replace e66 : v66 = .bool false := e66; subst e66; intro v70 h70 e70; replace e70 : v70 = .pointer (some ⟨T2, 0, none⟩) := e70; subst e70; exact exec_val (c := .pointer (some ⟨T2, 2, none⟩)) (wanted_yes (b := false) (t := 66) rfl rfl h66) (by go_simp) rfl
      case o12 => intro aR wR hR; replace hR := hR.undrew; intro v66 h66 e66; replace e66 : v66 = .bool false := e66; subst e66; intro v71 h71 e71; replace e71 : v71 = .pointer (some ⟨T2, 2, none⟩) := e71; subst e71; (have h1 := (HC.out wR hR).2.1); exact exec_val (c := .slice ra2 rn rc2) (wanted_yes (b := false) (t := 66) rfl rfl h66) (by go_simp) rfl
      case o13 => intro aR wR hR; replace hR := hR.undrew; intro v66 h66 e66; replace e66 : v66 = .bool false := e66; subst e66; intro v72 h72 e72; replace e72 : v72 = .slice ra2 rn rc2 := e72; subst e72; exact exec_val (c := .int .i64 ((rn : Nat) : Int)) (wanted_yes (b := false) (t := 66) rfl rfl h66) (by go_simp) rfl
      case o14 => intro aR wR hR; replace hR := hR.undrew; intro v66 h66 e66; replace e66 : v66 = .bool false := e66; subst e66; intro v68 h68 e68; replace e68 : v68 = .int .i64 (rn : Int) := e68; subst e68; intro v73 h73 e73; replace e73 : v73 = .int .i64 ((rn : Nat) : Int) := e73; subst e73; exact exec_val (c := .bool false) (wanted_yes (b := false) (t := 66) rfl rfl h66) (by go_simp) rfl
      case o15 => intro aR wR hR; replace hR := hR.undrew; intro v66 h66 e66; replace e66 : v66 = .bool false := e66; subst e66; intro v74 h74 e74; replace e74 : v74 = .bool false := e74; subst e74; exact exec_val (c := .bool false) (wanted_none rfl) (by go_simp) rfl
      case o16 => intro aR wR hR; replace hR := hR.undrew; intro v75 h75 e75; replace e75 : v75 = .bool false := e75; subst e75; exact exec_val (c := .bool false) (wanted_none rfl) (by go_simp) rfl
      case o17 => intro aR wR hR; replace hR := hR.undrew; intro v76 h76 e76; replace e76 : v76 = .bool false := e76; subst e76; intro (h9 : aR.tmps[9]? = some (.pointer (some ⟨T, 0, none⟩))); exact exec_val (c := .pointer (some ⟨T, 0, none⟩)) (wanted_yes (b := false) (t := 76) rfl rfl h76) (by go_simp) rfl
      case o18 => intro aR wR hR; replace hR := hR.undrew; intro v76 h76 e76; replace e76 : v76 = .bool false := e76; subst e76; intro v77 h77 e77; replace e77 : v77 = .pointer (some ⟨T, 0, none⟩) := e77; subst e77; refine exec_call (wanted_yes (b := false) (t := 76) rfl rfl h76) (by go_simp; exact ⟨rfl, rfl⟩) ?_; refine (HNODES.out wR hR).mono ?_; rintro e7 w8 ⟨rfl, rfl⟩; exact ⟨_, rfl, rfl, Kp.refl _ _⟩
      case o19 => intro aR wR hR; replace hR := hR.undrew; intro v76 h76 e76; replace e76 : v76 = .bool false := e76; subst e76; intro (h11 : aR.tmps[11]? = some (.pointer (some ⟨T2, 0, none⟩))); exact exec_val (c := .pointer (some ⟨T2, 0, none⟩)) (wanted_yes (b := false) (t := 76) rfl rfl h76) (by go_simp) rfl
      case o20 => intro aR wR hR; replace hR := hR.undrew; intro v76 h76 e76; replace e76 : v76 = .bool false := e76; subst e76; intro v79 h79 e79; replace e79 : v79 = .pointer (some ⟨T2, 0, none⟩) := e79; subst e79; exact exec_val (c := .pointer (some ⟨T2, 0, none⟩)) (wanted_yes (b := false) (t := 76) rfl rfl h76) (by go_simp) rfl
      case o21 => intro aR wR hR; replace hR := hR.undrew; intro v76 h76 e76; replace e76 : v76 = .bool false := e76; subst e76; intro v80 h80 e80; replace e80 : v80 = .pointer (some ⟨T2, 0, none⟩) := e80; subst e80; exact exec_val (c := .pointer (some ⟨T2, 3, none⟩)) (wanted_yes (b := false) (t := 76) rfl rfl h76) (by go_simp) rfl
      case o22 => intro aR wR hR; replace hR := hR.undrew; intro v76 h76 e76; replace e76 : v76 = .bool false := e76; subst e76; intro v81 h81 e81; replace e81 : v81 = .pointer (some ⟨T2, 3, none⟩) := e81; subst e81; (have h1 := (HC.out wR hR).2.2); exact exec_val (c := .slice na2 nn nc2) (wanted_yes (b := false) (t := 76) rfl rfl h76) (by go_simp) rfl
      case o23 => intro aR wR hR; replace hR := hR.undrew; intro v76 h76 e76; replace e76 : v76 = .bool false := e76; subst e76; intro v82 h82 e82; replace e82 : v82 = .slice na2 nn nc2 := e82; subst e82; exact exec_val (c := .int .i64 ((nn : Nat) : Int)) (wanted_yes (b := false) (t := 76) rfl rfl h76) (by go_simp) rfl
      case o24 => intro aR wR hR; replace hR := hR.undrew; intro v76 h76 e76; replace e76 : v76 = .bool false := e76; subst e76; intro v78 h78 e78; replace e78 : v78 = .int .i64 (nn : Int) := e78; subst e78; intro v83 h83 e83; replace e83 : v83 = .int .i64 ((nn : Nat) : Int) := e83; subst e83; exact exec_val (c := .bool false) (wanted_yes (b := false) (t := 76) rfl rfl h76) (by go_simp) rfl
      case o25 => intro aR wR hR; replace hR := hR.undrew; intro v76 h76 e76; replace e76 : v76 = .bool false := e76; subst e76; intro v84 h84 e84; replace e84 : v84 = .bool false := e84; subst e84; exact exec_val (c := .bool false) (wanted_none rfl) (by go_simp) rfl
      case o26 => intro aR wR hR; replace hR := hR.undrew; intro v85 h85 e85; replace e85 : v85 = .bool false := e85; subst e85; exact exec_val (c := .bool false) (wanted_none rfl) (by go_simp) rfl
      case o27 => intro aR wR hR; replace hR := hR.undrew; intro v86 h86 e86; replace e86 : v86 = .bool false := e86; subst e86; intro (h9 : aR.tmps[9]? = some (.pointer (some ⟨T, 0, none⟩))); exact exec_val (c := .pointer (some ⟨T, 0, none⟩)) (wanted_yes (b := false) (t := 86) rfl rfl h86) (by go_simp) rfl
      case o28 => intro aR wR hR; replace hR := hR.undrew; intro v86 h86 e86; replace e86 : v86 = .bool false := e86; subst e86; intro v87 h87 e87; replace e87 : v87 = .pointer (some ⟨T, 0, none⟩) := e87; subst e87; refine exec_call (wanted_yes (b := false) (t := 86) rfl rfl h86) (by go_simp; exact ⟨rfl, rfl⟩) ?_; refine (HDEP.out wR hR).mono ?_; rintro e7 w8 ⟨rfl, rfl⟩; exact ⟨_, rfl, rfl, Kp.refl _ _⟩
      case o29 => intro aR wR hR; replace hR := hR.undrew; intro v86 h86 e86; replace e86 : v86 = .bool false := e86; subst e86; intro (h11 : aR.tmps[11]? = some (.pointer (some ⟨T2, 0, none⟩))); exact exec_val (c := .pointer (some ⟨T2, 0, none⟩)) (wanted_yes (b := false) (t := 86) rfl rfl h86) (by go_simp) rfl
      case o30 => intro aR wR hR; replace hR := hR.undrew; intro v86 h86 e86; replace e86 : v86 = .bool false := e86; subst e86; intro v89 h89 e89; replace e89 : v89 = .pointer (some ⟨T2, 0, none⟩) := e89; subst e89; exact exec_val (c := .pointer (some ⟨T2, 0, none⟩)) (wanted_yes (b := false) (t := 86) rfl rfl h86) (by go_simp) rfl
      case o31 => intro aR wR hR; replace hR := hR.undrew; intro v86 h86 e86; replace e86 : v86 = .bool false := e86; subst e86; intro v90 h90 e90; replace e90 : v90 = .pointer (some ⟨T2, 0, none⟩) := e90; subst e90; exact exec_val (c := .pointer (some ⟨T2, 0, none⟩)) (wanted_yes (b := false) (t := 86) rfl rfl h86) (by go_simp) rfl
      case o32 => intro aR wR hR; replace hR := hR.undrew; intro v86 h86 e86; replace e86 : v86 = .bool false := e86; subst e86; intro v91 h91 e91; replace e91 : v91 = .pointer (some ⟨T2, 0, none⟩) := e91; subst e91; (have h1 := (HC.out wR hR).1); exact exec_val (c := .int .i64 (sn : Int)) (wanted_yes (b := false) (t := 86) rfl rfl h86) (by go_simp) rfl
      case o33 => intro aR wR hR; replace hR := hR.undrew; intro v86 h86 e86; replace e86 : v86 = .bool false := e86; subst e86; intro v88 h88 e88; replace e88 : v88 = .int .i64 (sn : Int) := e88; subst e88; intro v92 h92 e92; replace e92 : v92 = .int .i64 (sn : Int) := e92; subst e92; exact exec_val (c := .bool false) (wanted_yes (b := false) (t := 86) rfl rfl h86) (by go_simp) rfl
      case o34 => intro aR wR hR; replace hR := hR.undrew; intro v86 h86 e86; replace e86 : v86 = .bool false := e86; subst e86; intro v93 h93 e93; replace e93 : v93 = .bool false := e93; subst e93; exact exec_val (c := .bool false) (wanted_none rfl) (by go_simp) rfl
      case o35 => intro aR wR hR; replace hR := hR.undrew; intro v94 h94 e94; replace e94 : v94 = .bool false := e94; subst e94; exact exec_val (c := .bool false) (wanted_none rfl) (by go_simp) rfl
      case o36 => intro aR wR hR; replace hR := hR.undrew; intro v95 h95 e95; replace e95 : v95 = .bool false := e95; subst e95; intro (h9 : aR.tmps[9]? = some (.pointer (some ⟨T, 0, none⟩))); exact exec_val (c := .pointer (some ⟨T, 0, none⟩)) (wanted_yes (b := false) (t := 95) rfl rfl h95) (by go_simp) rfl
      case o37 => intro aR wR hR; replace hR := hR.undrew; intro v95 h95 e95; replace e95 : v95 = .bool false := e95; subst e95; intro v96 h96 e96; replace e96 : v96 = .pointer (some ⟨T, 0, none⟩) := e96; subst e96; refine exec_call (wanted_yes (b := false) (t := 95) rfl rfl h95) (by go_simp; exact ⟨rfl, rfl⟩) ?_; refine (HMET.out wR hR).mono ?_; rintro e7 w8 ⟨rfl, rfl⟩; exact ⟨_, rfl, rfl, Kp.refl _ _⟩
      case o38 => intro aR wR hR; replace hR := hR.undrew; intro v95 h95 e95; replace e95 : v95 = .bool false := e95; subst e95; intro (h2 : aR.tmps[2]? = some (.slice da dn dc)); exact exec_val (c := .slice da dn dc) (wanted_yes (b := false) (t := 95) rfl rfl h95) (by go_simp) rfl
      case o39 => intro aR wR hR; replace hR := hR.undrew; intro v95 h95 e95; replace e95 : v95 = .bool false := e95; subst e95; intro v98 h98 e98; replace e98 : v98 = .slice da dn dc := e98; subst e98; exact exec_val (c := .int .i64 ((dn : Nat) : Int)) (wanted_yes (b := false) (t := 95) rfl rfl h95) (by go_simp) rfl
      case o40 => intro aR wR hR; replace hR := hR.undrew; intro v95 h95 e95; replace e95 : v95 = .bool false := e95; subst e95; intro v97 h97 e97; replace e97 : v97 = .int .i64 (dn : Int) := e97; subst e97; intro v99 h99 e99; replace e99 : v99 = .int .i64 ((dn : Nat) : Int) := e99; subst e99; exact exec_val (c := .bool false) (wanted_yes (b := false) (t := 95) rfl rfl h95) (by go_simp) rfl
      case o41 => intro aR wR hR; replace hR := hR.undrew; intro v95 h95 e95; replace e95 : v95 = .bool false := e95; subst e95; intro v100 h100 e100; replace e100 : v100 = .bool false := e100; subst e100; exact exec_val (c := .bool false) (wanted_none rfl) (by go_simp) rfl
    · intro vs wR hR hV
      obtain ⟨e0, e1, e2, e3, e4, e5, e6, e7, e8, e9, e10, e11, e12, e13, e14, e15, e16, e17, e18, e19, e20, e21, e22, e23, e24, e25, e26, e27, e28, e29, e30, e31, e32, e33, e34, e35, e36, e37, e38, e39, e40, e41, -⟩ := hV
      replace e0 : vs 0 = .pointer (some ⟨T, 0, none⟩) := e0
      replace e1 : vs 1 = .bool false := e1
      replace e2 : vs 2 = .bool false := e2
      replace e3 : vs 3 = .int .i64 0 := e3
      replace e4 : vs 4 = .bool false := e4
      replace e5 : vs 5 = .bool false := e5
      replace e6 : vs 6 = .bool false := e6
      replace e7 : vs 7 = .pointer (some ⟨T, 0, none⟩) := e7
      replace e8 : vs 8 = .int .i64 (rn : Int) := e8
      replace e9 : vs 9 = .pointer (some ⟨T2, 0, none⟩) := e9
      replace e10 : vs 10 = .pointer (some ⟨T2, 0, none⟩) := e10
      replace e11 : vs 11 = .pointer (some ⟨T2, 2, none⟩) := e11
      replace e12 : vs 12 = .slice ra2 rn rc2 := e12
      replace e13 : vs 13 = .int .i64 ((rn : Nat) : Int) := e13
      replace e14 : vs 14 = .bool false := e14
      replace e15 : vs 15 = .bool false := e15
      replace e16 : vs 16 = .bool false := e16
      replace e17 : vs 17 = .pointer (some ⟨T, 0, none⟩) := e17
      replace e18 : vs 18 = .int .i64 (nn : Int) := e18
      replace e19 : vs 19 = .pointer (some ⟨T2, 0, none⟩) := e19
      replace e20 : vs 20 = .pointer (some ⟨T2, 0, none⟩) := e20
      replace e21 : vs 21 = .pointer (some ⟨T2, 3, none⟩) := e21
      replace e22 : vs 22 = .slice na2 nn nc2 := e22
      replace e23 : vs 23 = .int .i64 ((nn : Nat) : Int) := e23
      replace e24 : vs 24 = .bool false := e24
      replace e25 : vs 25 = .bool false := e25
      replace e26 : vs 26 = .bool false := e26
      replace e27 : vs 27 = .pointer (some ⟨T, 0, none⟩) := e27
      replace e28 : vs 28 = .int .i64 (sn : Int) := e28
      replace e29 : vs 29 = .pointer (some ⟨T2, 0, none⟩) := e29
      replace e30 : vs 30 = .pointer (some ⟨T2, 0, none⟩) := e30
      replace e31 : vs 31 = .pointer (some ⟨T2, 0, none⟩) := e31
      replace e32 : vs 32 = .int .i64 (sn : Int) := e32
      replace e33 : vs 33 = .bool false := e33
      replace e34 : vs 34 = .bool false := e34
      replace e35 : vs 35 = .bool false := e35
      replace e36 : vs 36 = .pointer (some ⟨T, 0, none⟩) := e36
      replace e37 : vs 37 = .int .i64 (dn : Int) := e37
      replace e38 : vs 38 = .slice da dn dc := e38
      replace e39 : vs 39 = .int .i64 ((dn : Nat) : Int) := e39
      replace e40 : vs 40 = .bool false := e40
      replace e41 : vs 41 = .bool false := e41
      simp only [putAll, e0, e1, e2, e3, e4, e5, e6, e7, e8, e9, e10, e11, e12, e13, e14, e15, e16, e17, e18, e19, e20, e21, e22, e23, e24, e25, e26, e27, e28, e29, e30, e31, e32, e33, e34, e35, e36, e37, e38, e39, e40, e41, Nat.reduceAdd, Nat.zero_add]
      clear e0 e1 e2 e3 e4 e5 e6 e7 e8 e9 e10 e11 e12 e13 e14 e15 e16 e17 e18 e19 e20 e21 e22 e23 e24 e25 e26 e27 e28 e29 e30 e31 e32 e33 e34 e35 e36 e37 e38 e39 e40 e41
      try simp only [List.setIfInBounds_toArray, List.set_cons_succ, List.set_cons_zero]
      go_wp2_with fail
      go_meet
      exact ⟨by first | rfl | simp, Lib.hid hR⟩
  obtain ⟨rfl, HKc⟩ := hcut
  go_wp2_with fail
  go_loopw [102] (fun vt wr => ∃ r : Nat, r ≤ 2 ∧ vt = .int .i64 r ∧ Hid (Kp [] w7 wr)) (fun vt _ => 2 - (intOf vt).toNat)
  case atStart => exact ⟨0, by omega, rfl, HKc⟩
  case round =>
    obtain ⟨r, hr, rfl, HKr⟩ := hrel
    obtain ⟨wp, rfl⟩ : ∃ wp : World, wp = wr := ⟨_, rfl⟩
    by_cases hlt : r < 2
    · have hdr : decide ((r : Int) < 2) = true := decide_eq_true (by omega)
      go_wp2_with fail
      go_loopw [13] (fun vi wr => ∃ i : Int, -1 ≤ i ∧ i ≤ (rn : Int) + 1 ∧ vi = .int .i64 i ∧ Hid (Kp [] w7 wr)) (fun vi _ => ((rn : Int) + 1 - intOf vi).toNat)
      case atStart => exact ⟨-1, by omega, by omega, rfl, HKr⟩
      case round => as_aux_lemma =>
        obtain ⟨i, hi1, hi2, rfl, HKi⟩ := hrel
        obtain ⟨wi, rfl⟩ : ∃ wi : World, wi = wr := ⟨_, rfl⟩
        obtain ⟨-, c2, -⟩ := HC.out wi HKi.out
        by_cases hle : i ≤ (rn : Int)
        · have HRC := Lib.hid (HREC.out wi i HKi.out)
          have hwi : IntKind.i64.wrap (i + 1) = i + 1 := by rw [IntWalk.i64_in _ (by omega)]
          go_wp2_with fail
          refine HRC.out.mono ?_
          intro e w8 hpost
          obtain ⟨x, ev, rfl, hxo, hkx, hcase⟩ := rec_tell hpost
          obtain ⟨ids, ia, ic, cnt, ms, xa, xc, la, lc, ga, gc⟩ := x
          obtain ⟨kn, hkn⟩ : ∃ kn, kn = ids.length := ⟨_, rfl⟩
          obtain ⟨mm, hmm⟩ : ∃ mm, mm = ms.length := ⟨_, rfl⟩
          have HXO := Lib.hid hxo
          have HCASE := Lib.hid hcase
          have HKX := Lib.hid hkx
          have HKN := Lib.hid hkn
          have HMM := Lib.hid hmm
          simp only [raV]
          rw [← hkn, ← hmm]
          clear hpost hxo hcase hkx hkn hmm HRC c2
          go_upto_region 16 with (refine wpList_store_row rfl 34 _ _ rfl w8.heap.size #[.slice ia kn ic, .int .i64 cnt, .slice xa mm xc, .slice la mm lc, .slice ga mm gc] rfl rfl 34 _ (heap_alloc_at rfl) (by kernel_rfl) rfl (by simp [Value.oneCell']) ?_)
          obtain ⟨px, hpx⟩ : ∃ px, px = w8.heap.size := ⟨_, rfl⟩
          rw [← hpx]
          obtain ⟨row, hrow⟩ : ∃ row : Array Value, row = #[.slice ia kn ic, .int .i64 cnt, .slice xa mm xc, .slice la mm lc, .slice ga mm gc] := ⟨_, rfl⟩
          generalize hwq : (w8.alloc (Obj.cells #[.slice none 0 0, .int .i64 0, .slice none 0 0, .slice none 0 0, .slice none 0 0] 34)).setRow px #[.slice ia kn ic, .int .i64 cnt, .slice xa mm xc, .slice la mm lc, .slice ga mm gc] = wq
          have hkq : Kp [] w8 wq := by rw [← hwq]; exact ((Kp.refl [] w8).alloc _).setRowF _ _ (.inr (by omega))
          have HPX : Hid (wq.heap[px]? = some (.cells #[.slice ia kn ic, .int .i64 cnt, .slice xa mm xc, .slice la mm lc, .slice ga mm gc] 34)) := Lib.hid (by rw [← hwq]; exact setRow_heap _ px _ _ _ _ (heap_alloc_at hpx))
          have HXQ := Lib.hid (HXO.out.keep0 hkq)
          have HKQ := Lib.hid ((HKi.out.tr HKX.out).tr hkq)
          have hic : kn ≤ ic ∧ ic ≤ 9223372036854775807 := ⟨by rw [HKN.out]; exact HXO.out.1.rd.1, HXO.out.1.rd.2.1⟩
          have hxc : mm ≤ xc ∧ xc ≤ 9223372036854775807 := ⟨by rw [HMM.out]; simpa using HXO.out.2.1.rd.1, HXO.out.2.1.rd.2.1⟩
          have HMU : Hid (MutI w7 wi.heap.size px #[.slice ia kn ic, .int .i64 cnt, .slice xa mm xc, .slice la mm lc, .slice ga mm gc] ia ic kn xa xc mm wq) := Lib.hid ⟨HPX.out, ⟨ids, HKN.out.symm, HXQ.out.1⟩, ⟨ms.map (·.s), by rw [List.length_map, HMM.out], HXQ.out.2.1⟩, HKQ.out, HKi.out.size⟩
          obtain ⟨-, c2, -⟩ := HC.out wq HKQ.out
          clear hwq hkq hpx hrow
          obtain ⟨inr, hinr⟩ : ∃ b : Bool, b = (decide (0 ≤ i) && decide (i < (rn : Int))) := ⟨_, rfl⟩
          have HIN := Lib.hid hinr
          clear hinr
          go_upto_region 16 with (fail)
          go_cut [16] (fun v16 wx => v16 = .bool inr ∧ wx = wq)
          case first =>
            by_cases h0 : (0 : Int) ≤ i
            · have hd0 : decide ((0 : Int) ≤ i) = true := decide_eq_true h0
              by_cases h1 : i < (rn : Int)
              · have hd1 : decide (i < (rn : Int)) = true := decide_eq_true h1
                have HF : Hid (inr = true) := Lib.hid (by rw [HIN.out, hd0, hd1]; rfl)
                clear h0 h1
                go_wp2_with fail
                go_meet
                exact ⟨by rw [HF.out], rfl⟩
              · have hd1 : decide (i < (rn : Int)) = false := decide_eq_false h1
                have HF : Hid (inr = false) := Lib.hid (by rw [HIN.out, hd0, hd1]; rfl)
                clear h0 h1
                go_wp2_with fail
                go_meet
                exact ⟨by rw [HF.out], rfl⟩
            · have hd0 : decide ((0 : Int) ≤ i) = false := decide_eq_false h0
              have HF : Hid (inr = false) := Lib.hid (by rw [HIN.out, hd0]; rfl)
              clear h0
              go_wp2_with fail
              go_meet
              exact ⟨by rw [HF.out], rfl⟩
          obtain ⟨rfl, rfl⟩ := hcut
          obtain ⟨wz, rfl⟩ : ∃ wz : World, wz = wc := ⟨_, rfl⟩
          go_upto_region 17 with (fail)
          go_cut [155] (fun v155 wx => v155 = .bool false ∧ Hid (Kp [] wz wx))
          case first => as_aux_lemma =>
            cases inr
            · have hev : ev = 7 := by
                have h1 := HIN.out
                rcases HCASE.out with ⟨h, -⟩ | ⟨-, n, rfl, hn⟩
                · exact h
                · have h2 := (List.getElem?_eq_some_iff.1 hn).1
                  rw [HRL.out] at h2
                  have h3 : (0 : Int) ≤ (n : Int) := by omega
                  have h4 : ((n : Int) < (rn : Int)) := by omega
                  rw [decide_eq_true h3, decide_eq_true h4] at h1
                  cases h1
              subst hev
              refine wp_region_K (by kernel_rfl) [.val (.bool false), .val (.bool false), .val (undef), .val (undef), .val (undef), .val (undef), .val (undef), .val (undef), .val (undef), .val (undef), .val (undef), .val (undef), .val (undef), .val (undef), .val (undef), .val (undef), .val ((.bool false)), .val ((.bool false)), .val (.bool false), .val (.bool true), .val (.bool true), .val (.int .i64 7), .val (.bool false), .val (.bool false), .val (.bool false)] [[(16, none)], [(131, some 0)], [(132, some 1)], [(132, some 1)], [(132, some 1)], [(132, some 1)], [(132, some 1)], [(132, some 1)], [(132, some 1)], [(132, some 1)], [(132, some 1)], [(132, some 1)], [(132, some 1)], [(143, some 12)], [(143, some 12)], [(132, some 1)], [(132, some 1), (146, some 15)], [(147, some 16)], [(148, some 17), (16, none)], [(148, some 17), (149, some 18)], [(148, some 17), (150, some 19)], [(151, some 20), (15, none)], [(151, some 20), (152, some 21)], [(148, some 17), (151, some 20), (153, some 22)], [(148, some 17), (154, some 23)]] rfl (by kernel_rfl) ?_ ?_
              · refine ⟨?o0, ?o1, ?o2, ?o3, ?o4, ?o5, ?o6, ?o7, ?o8, ?o9, ?o10, ?o11, ?o12, ?o13, ?o14, ?o15, ?o16, ?o17, ?o18, ?o19, ?o20, ?o21, ?o22, ?o23, ?o24, trivial⟩
                case o0 => intro aR wR hR; replace hR := hR.undrew; intro (h16 : aR.tmps[16]? = some (.bool false)); exact exec_val (c := .bool false) (wanted_none rfl) (by go_simp) rfl
                case o1 => intro aR wR hR; replace hR := hR.undrew; intro v131 h131 e131; replace e131 : v131 = .bool false := e131; subst e131; exact exec_val (c := .bool false) (wanted_none rfl) (by go_simp) rfl
                case o2 => intro aR wR hR; replace hR := hR.undrew; intro v132 h132 e132; replace e132 : v132 = .bool false := e132; subst e132; exact exec_pass (wanted_not (b := true) (t := 132) rfl rfl h132) rfl
                case o3 => intro aR wR hR; replace hR := hR.undrew; intro v132 h132 e132; replace e132 : v132 = .bool false := e132; subst e132; exact exec_pass (wanted_not (b := true) (t := 132) rfl rfl h132) rfl
                case o4 => intro aR wR hR; replace hR := hR.undrew; intro v132 h132 e132; replace e132 : v132 = .bool false := e132; subst e132; exact exec_pass (wanted_not (b := true) (t := 132) rfl rfl h132) rfl
                case o5 => intro aR wR hR; replace hR := hR.undrew; intro v132 h132 e132; replace e132 : v132 = .bool false := e132; subst e132; exact exec_pass (wanted_not (b := true) (t := 132) rfl rfl h132) rfl
                case o6 => intro aR wR hR; replace hR := hR.undrew; intro v132 h132 e132; replace e132 : v132 = .bool false := e132; subst e132; exact exec_pass (wanted_not (b := true) (t := 132) rfl rfl h132) rfl
                case o7 => intro aR wR hR; replace hR := hR.undrew; intro v132 h132 e132; replace e132 : v132 = .bool false := e132; subst e132; exact exec_pass (wanted_not (b := true) (t := 132) rfl rfl h132) rfl
                case o8 => intro aR wR hR; replace hR := hR.undrew; intro v132 h132 e132; replace e132 : v132 = .bool false := e132; subst e132; exact exec_pass (wanted_not (b := true) (t := 132) rfl rfl h132) rfl
                case o9 => intro aR wR hR; replace hR := hR.undrew; intro v132 h132 e132; replace e132 : v132 = .bool false := e132; subst e132; exact exec_pass (wanted_not (b := true) (t := 132) rfl rfl h132) rfl
                case o10 => intro aR wR hR; replace hR := hR.undrew; intro v132 h132 e132; replace e132 : v132 = .bool false := e132; subst e132; exact exec_pass (wanted_not (b := true) (t := 132) rfl rfl h132) rfl
                case o11 => intro aR wR hR; replace hR := hR.undrew; intro v132 h132 e132; replace e132 : v132 = .bool false := e132; subst e132; exact exec_pass (wanted_not (b := true) (t := 132) rfl rfl h132) rfl
                case o12 => intro aR wR hR; replace hR := hR.undrew; intro v132 h132 e132; replace e132 : v132 = .bool false := e132; subst e132; exact exec_pass (wanted_not (b := true) (t := 132) rfl rfl h132) rfl
                case o13 => intro aR wR hR; replace hR := hR.undrew; intro v143 h143 e143; replace e143 : v143 = undef := e143; subst e143; exact exec_pass (wanted_undef rfl rfl h143) rfl
                case o14 => intro aR wR hR; replace hR := hR.undrew; intro v143 h143 e143; replace e143 : v143 = undef := e143; subst e143; exact exec_pass (wanted_undef rfl rfl h143) rfl
                case o15 => intro aR wR hR; replace hR := hR.undrew; intro v132 h132 e132; replace e132 : v132 = .bool false := e132; subst e132; exact exec_pass (wanted_not (b := true) (t := 132) rfl rfl h132) rfl
                case o16 => intro aR wR hR; replace hR := hR.undrew; intro v132 h132 e132; replace e132 : v132 = .bool false := e132; subst e132; intro v146 h146 e146; replace e146 : v146 = undef := e146; subst e146; exact exec_val (c := (.bool false)) (wanted_none rfl) (by go_simp) rfl
                case o17 => intro aR wR hR; replace hR := hR.undrew; intro v147 h147 e147; replace e147 : v147 = (.bool false) := e147; subst e147; exact exec_val (c := (.bool false)) (wanted_none rfl) (by go_simp) rfl
                case o18 => intro aR wR hR; replace hR := hR.undrew; intro v148 h148 e148; replace e148 : v148 = (.bool false) := e148; subst e148; intro (h16 : aR.tmps[16]? = some (.bool false)); exact exec_val (c := .bool false) (wanted_yes (b := false) (t := 148) rfl rfl h148) (by go_simp) rfl
                case o19 => intro aR wR hR; replace hR := hR.undrew; intro v148 h148 e148; replace e148 : v148 = (.bool false) := e148; subst e148; intro v149 h149 e149; replace e149 : v149 = .bool false := e149; subst e149; exact exec_val (c := .bool true) (wanted_yes (b := false) (t := 148) rfl rfl h148) (by go_simp) rfl
                case o20 => intro aR wR hR; replace hR := hR.undrew; intro v148 h148 e148; replace e148 : v148 = (.bool false) := e148; subst e148; intro v150 h150 e150; replace e150 : v150 = .bool true := e150; subst e150; exact exec_val (c := .bool true) (wanted_yes (b := false) (t := 148) rfl rfl h148) (by go_simp) rfl
                case o21 => intro aR wR hR; replace hR := hR.undrew; intro v151 h151 e151; replace e151 : v151 = .bool true := e151; subst e151; intro (h15 : aR.tmps[15]? = some (.int .i64 7)); exact exec_val (c := .int .i64 7) (wanted_yes (b := true) (t := 151) rfl rfl h151) (by go_simp) rfl
                case o22 => intro aR wR hR; replace hR := hR.undrew; intro v151 h151 e151; replace e151 : v151 = .bool true := e151; subst e151; intro v152 h152 e152; replace e152 : v152 = .int .i64 7 := e152; subst e152; exact exec_val (c := .bool false) (wanted_yes (b := true) (t := 151) rfl rfl h151) (by go_simp) rfl
                case o23 => intro aR wR hR; replace hR := hR.undrew; intro v148 h148 e148; replace e148 : v148 = (.bool false) := e148; subst e148; intro v151 h151 e151; replace e151 : v151 = .bool true := e151; subst e151; intro v153 h153 e153; replace e153 : v153 = .bool false := e153; subst e153; exact exec_val (c := .bool false) (wanted_yes (b := false) (t := 148) rfl rfl h148) (by go_simp) rfl
                case o24 => intro aR wR hR; replace hR := hR.undrew; intro v148 h148 e148; replace e148 : v148 = (.bool false) := e148; subst e148; intro v154 h154 e154; replace e154 : v154 = .bool false := e154; subst e154; exact exec_val (c := .bool false) (wanted_none rfl) (by go_simp) rfl
              · intro vs wR hR hV
                obtain ⟨e0, e1, e2, e3, e4, e5, e6, e7, e8, e9, e10, e11, e12, e13, e14, e15, e16, e17, e18, e19, e20, e21, e22, e23, e24, -⟩ := hV
                replace e0 : vs 0 = .bool false := e0
                replace e1 : vs 1 = .bool false := e1
                replace e2 : vs 2 = undef := e2
                replace e3 : vs 3 = undef := e3
                replace e4 : vs 4 = undef := e4
                replace e5 : vs 5 = undef := e5
                replace e6 : vs 6 = undef := e6
                replace e7 : vs 7 = undef := e7
                replace e8 : vs 8 = undef := e8
                replace e9 : vs 9 = undef := e9
                replace e10 : vs 10 = undef := e10
                replace e11 : vs 11 = undef := e11
                replace e12 : vs 12 = undef := e12
                replace e13 : vs 13 = undef := e13
                replace e14 : vs 14 = undef := e14
                replace e15 : vs 15 = undef := e15
                replace e16 : vs 16 = (.bool false) := e16
                replace e17 : vs 17 = (.bool false) := e17
                replace e18 : vs 18 = .bool false := e18
                replace e19 : vs 19 = .bool true := e19
                replace e20 : vs 20 = .bool true := e20
                replace e21 : vs 21 = .int .i64 7 := e21
                replace e22 : vs 22 = .bool false := e22
                replace e23 : vs 23 = .bool false := e23
                replace e24 : vs 24 = .bool false := e24
                simp only [putAll, e0, e1, e2, e3, e4, e5, e6, e7, e8, e9, e10, e11, e12, e13, e14, e15, e16, e17, e18, e19, e20, e21, e22, e23, e24, Nat.reduceAdd, Nat.zero_add]
                clear e0 e1 e2 e3 e4 e5 e6 e7 e8 e9 e10 e11 e12 e13 e14 e15 e16 e17 e18 e19 e20 e21 e22 e23 e24
                try simp only [List.setIfInBounds_toArray, List.set_cons_succ, List.set_cons_zero]
                go_wp2_with fail
                go_meet
                exact ⟨by first | rfl | simp, Lib.hid hR⟩
            · have hin : 0 ≤ i ∧ i < (rn : Int) := by
                have h1 := HIN.out.symm
                rw [Bool.and_eq_true, decide_eq_true_eq, decide_eq_true_eq] at h1
                exact h1
              obtain ⟨hev, n, hin2, hnr⟩ : ev = 0 ∧ ∃ n : Nat, i = (n : Int) ∧ R[n]? = some (⟨ids, cnt, ms⟩ : PR) := by
                rcases HCASE.out with ⟨-, h⟩ | h
                · rw [HRL.out] at h; omega
                · exact h
              subst hev
              subst hin2
              have hnrn : n < rn := by omega
              obtain ⟨g, y, hra, hyR, hy⟩ := HRX.out n hnrn
              subst hra
              rw [hnr] at hyR
              have hpr : (⟨ids, cnt, ms⟩ : PR) = Ra.pr y := Option.some.inj hyR
              obtain ⟨ids2, ia2, ic2, cnt2, ms2, xa2, xc2, la2, lc2, ga2, gc2⟩ := y
              simp only [Ra.pr, PR.mk.injEq] at hpr
              obtain ⟨e1, e2, e3⟩ := hpr
              subst e1
              subst e2
              subst e3
              have HSM : Hid (∀ W, Kp [] wz W → Calls Try.prog 24 #[.agg #[.slice ia kn ic, .int .i64 cnt, .slice xa mm xc, .slice la mm lc, .slice ga mm gc], .agg #[.slice ia2 kn ic2, .int .i64 cnt, .slice xa2 mm xc2, .slice la2 mm lc2, .slice ga2 mm gc2]] W fun e w' => e = .returned (.bool true) ∧ Kp [] W w') := Lib.hid (fun W hW => by
                have := r19Same_yes ⟨ids, ia, ic, cnt, ms, xa, xc, la, lc, ga, gc⟩ ⟨ids, ia2, ic2, cnt, ms, xa2, xc2, la2, lc2, ga2, gc2⟩ rfl W (HXQ.out.rd.keep0 hW) (hy W (HKQ.out.tr hW)).2
                simp only [raV] at this
                rw [← HKN.out, ← HMM.out] at this
                exact this)
              have HRW : Hid (∀ W, Kp [] wz W → W.rangeAt px 0 [.slice ia kn ic, .int .i64 cnt, .slice xa mm xc, .slice la mm lc, .slice ga mm gc] ∧ W.rangeAt g (n * 5) [.slice ia2 kn ic2, .int .i64 cnt, .slice xa2 mm xc2, .slice la2 mm lc2, .slice ga2 mm gc2] ∧ W.cell? ⟨T2, 2, none⟩ = some (.slice (some ⟨g, 0, none⟩) rn rc2)) := Lib.hid (fun W hW => by
                refine ⟨range_row (hW.get HPX.out (by simp)), ?_, hW.cell c2 (by simp)⟩
                have := (hy W (HKQ.out.tr hW)).1
                simp only [racells] at this
                rw [← HKN.out, ← HMM.out] at this
                exact this)
              clear hy hyR hnr hin
              refine wp_region_K (by kernel_rfl) [.val (.bool true), .val (.bool true), .val (.agg #[.slice ia kn ic, .int .i64 cnt, .slice xa mm xc, .slice la mm lc, .slice ga mm gc]), .val (.pointer (some ⟨T2, 0, none⟩)), .val (.pointer (some ⟨T2, 0, none⟩)), .val (.pointer (some ⟨T2, 2, none⟩)), .val (.slice (some ⟨g, 0, none⟩) rn rc2), .val (.int .i64 (n : Int)), .val (.pointer (some ⟨g, n * 5, none⟩)), .val (.agg #[.slice ia2 kn ic2, .int .i64 cnt, .slice xa2 mm xc2, .slice la2 mm lc2, .slice ga2 mm gc2]), .val (.bool true), .val (.bool false), .val (.bool false), .val (.int .i64 0), .val (.bool false), .val (.bool false), .val (.bool false), .val (.bool false), .val (.bool true), .val (.bool false), .val (.bool false), .val (undef), .val (undef), .val ((.bool false)), .val ((.bool false))] [[(16, none)], [(131, some 0)], [(132, some 1), (14, none)], [(132, some 1), (11, none)], [(132, some 1), (134, some 3)], [(132, some 1), (135, some 4)], [(132, some 1), (136, some 5)], [(132, some 1), (13, none)], [(132, some 1), (137, some 6), (138, some 7)], [(132, some 1), (139, some 8)], [(132, some 1), (133, some 2), (140, some 9)], [(132, some 1), (141, some 10)], [(132, some 1), (142, some 11)], [(143, some 12), (15, none)], [(143, some 12), (144, some 13)], [(132, some 1), (143, some 12), (145, some 14)], [(132, some 1), (146, some 15)], [(147, some 16)], [(148, some 17), (16, none)], [(148, some 17), (149, some 18)], [(148, some 17), (150, some 19)], [(151, some 20)], [(151, some 20)], [(148, some 17), (151, some 20), (153, some 22)], [(148, some 17), (154, some 23)]] rfl (by kernel_rfl) ?_ ?_
              · refine ⟨?o0, ?o1, ?o2, ?o3, ?o4, ?o5, ?o6, ?o7, ?o8, ?o9, ?o10, ?o11, ?o12, ?o13, ?o14, ?o15, ?o16, ?o17, ?o18, ?o19, ?o20, ?o21, ?o22, ?o23, ?o24, trivial⟩
                case o0 => intro aR wR hR; replace hR := hR.undrew; intro (h16 : aR.tmps[16]? = some (.bool true)); exact exec_val (c := .bool true) (wanted_none rfl) (by go_simp) rfl
                case o1 => intro aR wR hR; replace hR := hR.undrew; intro v131 h131 e131; replace e131 : v131 = .bool true := e131; subst e131; exact exec_val (c := .bool true) (wanted_none rfl) (by go_simp) rfl
                case o2 => intro aR wR hR; replace hR := hR.undrew; intro v132 h132 e132; replace e132 : v132 = .bool true := e132; subst e132; intro (h14 : aR.tmps[14]? = some (.pointer (some ⟨px, 0, none⟩))); exact exec_val (c := .agg #[.slice ia kn ic, .int .i64 cnt, .slice xa mm xc, .slice la mm lc, .slice ga mm gc]) (wanted_yes (b := true) (t := 132) rfl rfl h132) (exec_ld rfl (b := px) (o := 0) (by go_simp) (HRW.out wR hR).1 Try.underlying34 rfl (by kernel_rfl)) rfl
                case o3 => intro aR wR hR; replace hR := hR.undrew; intro v132 h132 e132; replace e132 : v132 = .bool true := e132; subst e132; intro (h11 : aR.tmps[11]? = some (.pointer (some ⟨T2, 0, none⟩))); exact exec_val (c := .pointer (some ⟨T2, 0, none⟩)) (wanted_yes (b := true) (t := 132) rfl rfl h132) (by go_simp) rfl
                case o4 => intro aR wR hR; replace hR := hR.undrew; intro v132 h132 e132; replace e132 : v132 = .bool true := e132; subst e132; intro v134 h134 e134; replace e134 : v134 = .pointer (some ⟨T2, 0, none⟩) := e134; subst e134; exact exec_val (c := .pointer (some ⟨T2, 0, none⟩)) (wanted_yes (b := true) (t := 132) rfl rfl h132) (by go_simp) rfl
                case o5 => intro aR wR hR; replace hR := hR.undrew; intro v132 h132 e132; replace e132 : v132 = .bool true := e132; subst e132; intro v135 h135 e135; replace e135 : v135 = .pointer (some ⟨T2, 0, none⟩) := e135; subst e135; exact exec_val (c := .pointer (some ⟨T2, 2, none⟩)) (wanted_yes (b := true) (t := 132) rfl rfl h132) (by go_simp) rfl
                case o6 => intro aR wR hR; replace hR := hR.undrew; intro v132 h132 e132; replace e132 : v132 = .bool true := e132; subst e132; intro v136 h136 e136; replace e136 : v136 = .pointer (some ⟨T2, 2, none⟩) := e136; subst e136; (have h1 := (HRW.out wR hR).2.2); exact exec_val (c := .slice (some ⟨g, 0, none⟩) rn rc2) (wanted_yes (b := true) (t := 132) rfl rfl h132) (by go_simp) rfl
                case o7 => intro aR wR hR; replace hR := hR.undrew; intro v132 h132 e132; replace e132 : v132 = .bool true := e132; subst e132; intro (h13 : aR.tmps[13]? = some (.int .i64 (n : Int))); exact exec_val (c := .int .i64 (n : Int)) (wanted_yes (b := true) (t := 132) rfl rfl h132) (by go_simp) rfl
                case o8 => intro aR wR hR; replace hR := hR.undrew; intro v132 h132 e132; replace e132 : v132 = .bool true := e132; subst e132; intro v137 h137 e137; replace e137 : v137 = .slice (some ⟨g, 0, none⟩) rn rc2 := e137; subst e137; intro v138 h138 e138; replace e138 : v138 = .int .i64 (n : Int) := e138; subst e138; exact exec_val (c := .pointer (some ⟨g, n * 5, none⟩)) (wanted_yes (b := true) (t := 132) rfl rfl h132) (by go_simp) rfl
                case o9 => intro aR wR hR; replace hR := hR.undrew; intro v132 h132 e132; replace e132 : v132 = .bool true := e132; subst e132; intro v139 h139 e139; replace e139 : v139 = .pointer (some ⟨g, n * 5, none⟩) := e139; subst e139; exact exec_val (c := .agg #[.slice ia2 kn ic2, .int .i64 cnt, .slice xa2 mm xc2, .slice la2 mm lc2, .slice ga2 mm gc2]) (wanted_yes (b := true) (t := 132) rfl rfl h132) (exec_ld rfl (b := g) (o := n * 5) (by go_simp) (HRW.out wR hR).2.1 Try.underlying34 rfl (by kernel_rfl)) rfl
                case o10 => intro aR wR hR; replace hR := hR.undrew; intro v132 h132 e132; replace e132 : v132 = .bool true := e132; subst e132; intro v133 h133 e133; replace e133 : v133 = .agg #[.slice ia kn ic, .int .i64 cnt, .slice xa mm xc, .slice la mm lc, .slice ga mm gc] := e133; subst e133; intro v140 h140 e140; replace e140 : v140 = .agg #[.slice ia2 kn ic2, .int .i64 cnt, .slice xa2 mm xc2, .slice la2 mm lc2, .slice ga2 mm gc2] := e140; subst e140; refine exec_call (wanted_yes (b := true) (t := 132) rfl rfl h132) (by go_simp; exact ⟨rfl, rfl⟩) ?_; refine (HSM.out wR hR).mono ?_; rintro e7 w8' ⟨rfl, kp8⟩; exact ⟨_, rfl, rfl, kp8⟩
                case o11 => intro aR wR hR; replace hR := hR.undrew; intro v132 h132 e132; replace e132 : v132 = .bool true := e132; subst e132; intro v141 h141 e141; replace e141 : v141 = .bool true := e141; subst e141; exact exec_val (c := .bool false) (wanted_yes (b := true) (t := 132) rfl rfl h132) (by go_simp) rfl
                case o12 => intro aR wR hR; replace hR := hR.undrew; intro v132 h132 e132; replace e132 : v132 = .bool true := e132; subst e132; intro v142 h142 e142; replace e142 : v142 = .bool false := e142; subst e142; exact exec_val (c := .bool false) (wanted_yes (b := true) (t := 132) rfl rfl h132) (by go_simp) rfl
                case o13 => intro aR wR hR; replace hR := hR.undrew; intro v143 h143 e143; replace e143 : v143 = .bool false := e143; subst e143; intro (h15 : aR.tmps[15]? = some (.int .i64 0)); exact exec_val (c := .int .i64 0) (wanted_yes (b := false) (t := 143) rfl rfl h143) (by go_simp) rfl
                case o14 => intro aR wR hR; replace hR := hR.undrew; intro v143 h143 e143; replace e143 : v143 = .bool false := e143; subst e143; intro v144 h144 e144; replace e144 : v144 = .int .i64 0 := e144; subst e144; exact exec_val (c := .bool false) (wanted_yes (b := false) (t := 143) rfl rfl h143) (by go_simp) rfl
                case o15 => intro aR wR hR; replace hR := hR.undrew; intro v132 h132 e132; replace e132 : v132 = .bool true := e132; subst e132; intro v143 h143 e143; replace e143 : v143 = .bool false := e143; subst e143; intro v145 h145 e145; replace e145 : v145 = .bool false := e145; subst e145; exact exec_val (c := .bool false) (wanted_yes (b := true) (t := 132) rfl rfl h132) (by go_simp) rfl
                case o16 => intro aR wR hR; replace hR := hR.undrew; intro v132 h132 e132; replace e132 : v132 = .bool true := e132; subst e132; intro v146 h146 e146; replace e146 : v146 = .bool false := e146; subst e146; exact exec_val (c := .bool false) (wanted_none rfl) (by go_simp) rfl
                case o17 => intro aR wR hR; replace hR := hR.undrew; intro v147 h147 e147; replace e147 : v147 = .bool false := e147; subst e147; exact exec_val (c := .bool false) (wanted_none rfl) (by go_simp) rfl
                case o18 => intro aR wR hR; replace hR := hR.undrew; intro v148 h148 e148; replace e148 : v148 = .bool false := e148; subst e148; intro (h16 : aR.tmps[16]? = some (.bool true)); exact exec_val (c := .bool true) (wanted_yes (b := false) (t := 148) rfl rfl h148) (by go_simp) rfl
                case o19 => intro aR wR hR; replace hR := hR.undrew; intro v148 h148 e148; replace e148 : v148 = .bool false := e148; subst e148; intro v149 h149 e149; replace e149 : v149 = .bool true := e149; subst e149; exact exec_val (c := .bool false) (wanted_yes (b := false) (t := 148) rfl rfl h148) (by go_simp) rfl
                case o20 => intro aR wR hR; replace hR := hR.undrew; intro v148 h148 e148; replace e148 : v148 = .bool false := e148; subst e148; intro v150 h150 e150; replace e150 : v150 = .bool false := e150; subst e150; exact exec_val (c := .bool false) (wanted_yes (b := false) (t := 148) rfl rfl h148) (by go_simp) rfl
                case o21 => intro aR wR hR; replace hR := hR.undrew; intro v151 h151 e151; replace e151 : v151 = .bool false := e151; subst e151; exact exec_pass (wanted_not (b := true) (t := 151) rfl rfl h151) rfl
                case o22 => intro aR wR hR; replace hR := hR.undrew; intro v151 h151 e151; replace e151 : v151 = .bool false := e151; subst e151; exact exec_pass (wanted_not (b := true) (t := 151) rfl rfl h151) rfl
                case o23 => intro aR wR hR; replace hR := hR.undrew; intro v148 h148 e148; replace e148 : v148 = .bool false := e148; subst e148; intro v151 h151 e151; replace e151 : v151 = .bool false := e151; subst e151; intro v153 h153 e153; replace e153 : v153 = undef := e153; subst e153; exact exec_val (c := (.bool false)) (wanted_yes (b := false) (t := 148) rfl rfl h148) (by go_simp) rfl
                case o24 => intro aR wR hR; replace hR := hR.undrew; intro v148 h148 e148; replace e148 : v148 = .bool false := e148; subst e148; intro v154 h154 e154; replace e154 : v154 = (.bool false) := e154; subst e154; exact exec_val (c := (.bool false)) (wanted_none rfl) (by go_simp) rfl
              · intro vs wR hR hV
                obtain ⟨e0, e1, e2, e3, e4, e5, e6, e7, e8, e9, e10, e11, e12, e13, e14, e15, e16, e17, e18, e19, e20, e21, e22, e23, e24, -⟩ := hV
                replace e0 : vs 0 = .bool true := e0
                replace e1 : vs 1 = .bool true := e1
                replace e2 : vs 2 = .agg #[.slice ia kn ic, .int .i64 cnt, .slice xa mm xc, .slice la mm lc, .slice ga mm gc] := e2
                replace e3 : vs 3 = .pointer (some ⟨T2, 0, none⟩) := e3
                replace e4 : vs 4 = .pointer (some ⟨T2, 0, none⟩) := e4
                replace e5 : vs 5 = .pointer (some ⟨T2, 2, none⟩) := e5
                replace e6 : vs 6 = .slice (some ⟨g, 0, none⟩) rn rc2 := e6
                replace e7 : vs 7 = .int .i64 (n : Int) := e7
                replace e8 : vs 8 = .pointer (some ⟨g, n * 5, none⟩) := e8
                replace e9 : vs 9 = .agg #[.slice ia2 kn ic2, .int .i64 cnt, .slice xa2 mm xc2, .slice la2 mm lc2, .slice ga2 mm gc2] := e9
                replace e10 : vs 10 = .bool true := e10
                replace e11 : vs 11 = .bool false := e11
                replace e12 : vs 12 = .bool false := e12
                replace e13 : vs 13 = .int .i64 0 := e13
                replace e14 : vs 14 = .bool false := e14
                replace e15 : vs 15 = .bool false := e15
                replace e16 : vs 16 = .bool false := e16
                replace e17 : vs 17 = .bool false := e17
                replace e18 : vs 18 = .bool true := e18
                replace e19 : vs 19 = .bool false := e19
                replace e20 : vs 20 = .bool false := e20
                replace e21 : vs 21 = undef := e21
                replace e22 : vs 22 = undef := e22
                replace e23 : vs 23 = (.bool false) := e23
                replace e24 : vs 24 = (.bool false) := e24
                simp only [putAll, e0, e1, e2, e3, e4, e5, e6, e7, e8, e9, e10, e11, e12, e13, e14, e15, e16, e17, e18, e19, e20, e21, e22, e23, e24, Nat.reduceAdd, Nat.zero_add]
                clear e0 e1 e2 e3 e4 e5 e6 e7 e8 e9 e10 e11 e12 e13 e14 e15 e16 e17 e18 e19 e20 e21 e22 e23 e24
                try simp only [List.setIfInBounds_toArray, List.set_cons_succ, List.set_cons_zero]
                go_wp2_with fail
                go_meet
                exact ⟨by first | rfl | simp, Lib.hid hR⟩
          obtain ⟨rfl, HKc⟩ := hcut
          obtain ⟨wa, rfl⟩ : ∃ wa : World, wa = wc := ⟨_, rfl⟩
          have HMA := Lib.hid (HMU.out.keep0 HKc.out)
          have p0 := arow_cell HMA.out.row 0 rfl
          clear HXO HCASE HKX HXQ HPX HMU HIN
          clear c2
          go_wp2_with fail
          go_loopw [159] (fun vt wr => ∃ s : Nat, s ≤ kn ∧ vt = .int .i64 s ∧ Hid (MutI w7 wi.heap.size px #[.slice ia kn ic, .int .i64 cnt, .slice xa mm xc, .slice la mm lc, .slice ga mm gc] ia ic kn xa xc mm wr)) (fun vt _ => kn - (intOf vt).toNat)
          case atStart => exact ⟨0, Nat.zero_le _, rfl, HMA⟩
          case round => as_aux_lemma =>
            obtain ⟨s, hs, rfl, HM3⟩ := hrel
            obtain ⟨wb, rfl⟩ : ∃ wb : World, wb = wr := ⟨_, rfl⟩
            clear p0
            by_cases hlts : s < kn
            · obtain ⟨g, v0, hg, cg, fg, hset⟩ := HM3.out.setI hlts
              subst hg
              have p0 := arow_cell HM3.out.row 0 rfl
              obtain ⟨v1, hv1⟩ : ∃ v1, v1 = IntKind.i64.wrap (v0 + 1) := ⟨_, rfl⟩
              have hwv : IntKind.i64.wrap (v0 + 1) = v1 := hv1.symm
              have HN3 := Lib.hid (hset v1)
              clear hv1 hset
              go_wp2_with fail
              go_roundw
              case rel => exact ⟨s + 1, hlts, by go_num, HN3⟩
              case measure => simp [intOf]; omega
            · obtain rfl : kn = s := by omega
              have p2 := arow_cell HM3.out.row 2 rfl
              go_wp2_with fail
              go_loopw [173] (fun vt wr => ∃ s : Nat, s ≤ mm ∧ vt = .int .i64 s ∧ Hid (MutI w7 wi.heap.size px #[.slice ia kn ic, .int .i64 cnt, .slice xa mm xc, .slice la mm lc, .slice ga mm gc] ia ic kn xa xc mm wr)) (fun vt _ => mm - (intOf vt).toNat)
              case atStart => exact ⟨0, Nat.zero_le _, rfl, HM3⟩
              case round => as_aux_lemma =>
                obtain ⟨s, hs, rfl, HM4⟩ := hrel
                obtain ⟨we, rfl⟩ : ∃ we : World, we = wr := ⟨_, rfl⟩
                clear p2
                by_cases hlts : s < mm
                · obtain ⟨g, v0, hg, cg, fg, hset⟩ := HM4.out.setS hlts
                  subst hg
                  have p2 := arow_cell HM4.out.row 2 rfl
                  obtain ⟨v1, hv1⟩ : ∃ v1, v1 = IntKind.i64.wrap (v0 + 1) := ⟨_, rfl⟩
                  have hwv : IntKind.i64.wrap (v0 + 1) = v1 := hv1.symm
                  have HN4 := Lib.hid (hset v1)
                  clear hv1 hset
                  go_wp2_with fail
                  go_roundw
                  case rel => exact ⟨s + 1, hlts, by go_num, HN4⟩
                  case measure => simp [intOf]; omega
                · obtain rfl : mm = s := by omega
                  have HKN2 := Lib.hid HM4.out.kp
                  go_wp2_with fail
                  go_roundw
                  case rel => exact ⟨i + 1, by omega, by omega, by first | rfl | go_num, HKN2⟩
                  case measure => simp only [intOf]; omega
        · have hie : i = (rn : Int) + 1 := by omega
          have hdi : decide (i ≤ (rn : Int)) = false := decide_eq_false hle
          have HKj := HKi
          go_wp2_with fail
          go_loopw [19] (fun vi wr => ∃ i : Int, -1 ≤ i ∧ i ≤ (nn : Int) + 1 ∧ vi = .int .i64 i ∧ Hid (Kp [] w7 wr)) (fun vi _ => ((nn : Int) + 1 - intOf vi).toNat)
          case atStart => exact ⟨-1, by omega, by omega, rfl, HKj⟩
          case round => as_aux_lemma =>
            clear hi1 hi2 hle hie hdi c2 HKj
            clear HKi
            obtain ⟨i, hi1, hi2, rfl, HKi⟩ := hrel
            obtain ⟨wi, rfl⟩ : ∃ wi : World, wi = wr := ⟨_, rfl⟩
            obtain ⟨-, -, c3⟩ := HC.out wi HKi.out
            by_cases hle : i ≤ (nn : Int)
            · have HRC := Lib.hid (HNODE.out wi i HKi.out)
              have hwi : IntKind.i64.wrap (i + 1) = i + 1 := by rw [IntWalk.i64_in _ (by omega)]
              go_wp2_with fail
              refine HRC.out.mono ?_
              intro e w8 hpost
              obtain ⟨y, ev, rfl, hykn, hyo, hkx, hcase⟩ := node_tell hpost
              obtain ⟨yd, yf, yt, ka, kn, kc, kids⟩ := y
              dsimp only at hykn hyo
              have hkc : kn ≤ kc ∧ kc ≤ 9223372036854775807 := ⟨by rw [hykn]; exact (hyo.rd kdlies).1, (hyo.rd kdlies).2.1⟩
              have HYO := Lib.hid hyo
              have HCASE := Lib.hid hcase
              have HKX := Lib.hid hkx
              have HKN := Lib.hid hykn
              simp only [nodeV]
              clear hpost hyo hcase hkx hykn HRC c3
              go_upto_region 33 with (refine wpList_store_row rfl 40 _ _ rfl w8.heap.size #[.int .i64 (yd : Int), .int .i64 (yf : Int), .int .i64 (yt : Int), .slice ka kn kc] rfl rfl 40 _ (heap_alloc_at rfl) (by kernel_rfl) rfl (by simp [Value.oneCell']) ?_)
              obtain ⟨px, hpx⟩ : ∃ px, px = w8.heap.size := ⟨_, rfl⟩
              rw [← hpx]
              generalize hwq : (w8.alloc (Obj.cells #[.int .i64 0, .int .i64 0, .int .i64 0, .slice none 0 0] 40)).setRow px #[.int .i64 (yd : Int), .int .i64 (yf : Int), .int .i64 (yt : Int), .slice ka kn kc] = wq
              have hkq : Kp [] w8 wq := by rw [← hwq]; exact ((Kp.refl [] w8).alloc _).setRowF _ _ (.inr (by omega))
              have HPX : Hid (wq.heap[px]? = some (.cells #[.int .i64 (yd : Int), .int .i64 (yf : Int), .int .i64 (yt : Int), .slice ka kn kc] 40)) := Lib.hid (by rw [← hwq]; exact setRow_heap _ px _ _ _ _ (heap_alloc_at hpx))
              have HYQ := Lib.hid (HYO.out.keep0 hkq)
              have HKQ := Lib.hid ((HKi.out.tr HKX.out).tr hkq)
              have HMU : Hid (MutN w7 wi.heap.size px #[.int .i64 (yd : Int), .int .i64 (yf : Int), .int .i64 (yt : Int), .slice ka kn kc] ka kc kn wq) := Lib.hid ⟨HPX.out, ⟨_, by rw [List.length_map, HKN.out], kdI_of HYQ.out⟩, HKQ.out, HKi.out.size⟩
              obtain ⟨-, -, c3⟩ := HC.out wq HKQ.out
              clear hwq hkq hpx
              obtain ⟨inr, hinr⟩ : ∃ b : Bool, b = (decide (0 ≤ i) && decide (i < (nn : Int))) := ⟨_, rfl⟩
              have HIN := Lib.hid hinr
              clear hinr
              go_upto_region 33 with (fail)
              go_cut [22] (fun v22 wx => v22 = .bool inr ∧ wx = wq)
              case first =>
                by_cases h0 : (0 : Int) ≤ i
                · have hd0 : decide ((0 : Int) ≤ i) = true := decide_eq_true h0
                  by_cases h1 : i < (nn : Int)
                  · have hd1 : decide (i < (nn : Int)) = true := decide_eq_true h1
                    have HF : Hid (inr = true) := Lib.hid (by rw [HIN.out, hd0, hd1]; rfl)
                    clear h0 h1
                    go_wp2_with fail
                    go_meet
                    exact ⟨by rw [HF.out], rfl⟩
                  · have hd1 : decide (i < (nn : Int)) = false := decide_eq_false h1
                    have HF : Hid (inr = false) := Lib.hid (by rw [HIN.out, hd0, hd1]; rfl)
                    clear h0 h1
                    go_wp2_with fail
                    go_meet
                    exact ⟨by rw [HF.out], rfl⟩
                · have hd0 : decide ((0 : Int) ≤ i) = false := decide_eq_false h0
                  have HF : Hid (inr = false) := Lib.hid (by rw [HIN.out, hd0]; rfl)
                  clear h0
                  go_wp2_with fail
                  go_meet
                  exact ⟨by rw [HF.out], rfl⟩
              obtain ⟨rfl, rfl⟩ := hcut
              obtain ⟨wz, rfl⟩ : ∃ wz : World, wz = wc := ⟨_, rfl⟩
              go_upto_region 34 with (fail)
              go_cut [234] (fun v234 wx => v234 = .bool false ∧ Hid (Kp [] wz wx))
              case first => as_aux_lemma =>
                cases inr
                · have hev : ev = 7 := by
                    have h1 := HIN.out
                    rcases HCASE.out with ⟨h, -⟩ | ⟨-, n, rfl, hn⟩
                    · exact h
                    · have h2 := (List.getElem?_eq_some_iff.1 hn).1
                      rw [HNL.out] at h2
                      have h3 : (0 : Int) ≤ (n : Int) := by omega
                      have h4 : ((n : Int) < (nn : Int)) := by omega
                      rw [decide_eq_true h3, decide_eq_true h4] at h1
                      cases h1
                  subst hev
                  refine wp_region_K (by kernel_rfl) [.val (.bool false), .val (.bool false), .val (undef), .val (undef), .val (undef), .val (undef), .val (undef), .val (undef), .val (undef), .val (undef), .val (undef), .val (undef), .val (undef), .val (undef), .val (undef), .val (undef), .val ((.bool false)), .val ((.bool false)), .val (.bool false), .val (.bool true), .val (.bool true), .val (.int .i64 7), .val (.bool false), .val (.bool false), .val (.bool false)] [[(22, none)], [(210, some 0)], [(211, some 1)], [(211, some 1)], [(211, some 1)], [(211, some 1)], [(211, some 1)], [(211, some 1)], [(211, some 1)], [(211, some 1)], [(211, some 1)], [(211, some 1)], [(211, some 1)], [(222, some 12)], [(222, some 12)], [(211, some 1)], [(211, some 1), (225, some 15)], [(226, some 16)], [(227, some 17), (22, none)], [(227, some 17), (228, some 18)], [(227, some 17), (229, some 19)], [(230, some 20), (21, none)], [(230, some 20), (231, some 21)], [(227, some 17), (230, some 20), (232, some 22)], [(227, some 17), (233, some 23)]] rfl (by kernel_rfl) ?_ ?_
                  · refine ⟨?o0, ?o1, ?o2, ?o3, ?o4, ?o5, ?o6, ?o7, ?o8, ?o9, ?o10, ?o11, ?o12, ?o13, ?o14, ?o15, ?o16, ?o17, ?o18, ?o19, ?o20, ?o21, ?o22, ?o23, ?o24, trivial⟩
                    case o0 => intro aR wR hR; replace hR := hR.undrew; intro (h22 : aR.tmps[22]? = some (.bool false)); exact exec_val (c := .bool false) (wanted_none rfl) (by go_simp) rfl
                    case o1 => intro aR wR hR; replace hR := hR.undrew; intro v210 h210 e210; replace e210 : v210 = .bool false := e210; subst e210; exact exec_val (c := .bool false) (wanted_none rfl) (by go_simp) rfl
                    case o2 => intro aR wR hR; replace hR := hR.undrew; intro v211 h211 e211; replace e211 : v211 = .bool false := e211; subst e211; exact exec_pass (wanted_not (b := true) (t := 211) rfl rfl h211) rfl
                    case o3 => intro aR wR hR; replace hR := hR.undrew; intro v211 h211 e211; replace e211 : v211 = .bool false := e211; subst e211; exact exec_pass (wanted_not (b := true) (t := 211) rfl rfl h211) rfl
                    case o4 => intro aR wR hR; replace hR := hR.undrew; intro v211 h211 e211; replace e211 : v211 = .bool false := e211; subst e211; exact exec_pass (wanted_not (b := true) (t := 211) rfl rfl h211) rfl
                    case o5 => intro aR wR hR; replace hR := hR.undrew; intro v211 h211 e211; replace e211 : v211 = .bool false := e211; subst e211; exact exec_pass (wanted_not (b := true) (t := 211) rfl rfl h211) rfl
                    case o6 => intro aR wR hR; replace hR := hR.undrew; intro v211 h211 e211; replace e211 : v211 = .bool false := e211; subst e211; exact exec_pass (wanted_not (b := true) (t := 211) rfl rfl h211) rfl
                    case o7 => intro aR wR hR; replace hR := hR.undrew; intro v211 h211 e211; replace e211 : v211 = .bool false := e211; subst e211; exact exec_pass (wanted_not (b := true) (t := 211) rfl rfl h211) rfl
                    case o8 => intro aR wR hR; replace hR := hR.undrew; intro v211 h211 e211; replace e211 : v211 = .bool false := e211; subst e211; exact exec_pass (wanted_not (b := true) (t := 211) rfl rfl h211) rfl
                    case o9 => intro aR wR hR; replace hR := hR.undrew; intro v211 h211 e211; replace e211 : v211 = .bool false := e211; subst e211; exact exec_pass (wanted_not (b := true) (t := 211) rfl rfl h211) rfl
                    case o10 => intro aR wR hR; replace hR := hR.undrew; intro v211 h211 e211; replace e211 : v211 = .bool false := e211; subst e211; exact exec_pass (wanted_not (b := true) (t := 211) rfl rfl h211) rfl
                    case o11 => intro aR wR hR; replace hR := hR.undrew; intro v211 h211 e211; replace e211 : v211 = .bool false := e211; subst e211; exact exec_pass (wanted_not (b := true) (t := 211) rfl rfl h211) rfl
                    case o12 => intro aR wR hR; replace hR := hR.undrew; intro v211 h211 e211; replace e211 : v211 = .bool false := e211; subst e211; exact exec_pass (wanted_not (b := true) (t := 211) rfl rfl h211) rfl
                    case o13 => intro aR wR hR; replace hR := hR.undrew; intro v222 h222 e222; replace e222 : v222 = undef := e222; subst e222; exact exec_pass (wanted_undef rfl rfl h222) rfl
                    case o14 => intro aR wR hR; replace hR := hR.undrew; intro v222 h222 e222; replace e222 : v222 = undef := e222; subst e222; exact exec_pass (wanted_undef rfl rfl h222) rfl
                    case o15 => intro aR wR hR; replace hR := hR.undrew; intro v211 h211 e211; replace e211 : v211 = .bool false := e211; subst e211; exact exec_pass (wanted_not (b := true) (t := 211) rfl rfl h211) rfl
                    case o16 => intro aR wR hR; replace hR := hR.undrew; intro v211 h211 e211; replace e211 : v211 = .bool false := e211; subst e211; intro v225 h225 e225; replace e225 : v225 = undef := e225; subst e225; exact exec_val (c := (.bool false)) (wanted_none rfl) (by go_simp) rfl
                    case o17 => intro aR wR hR; replace hR := hR.undrew; intro v226 h226 e226; replace e226 : v226 = (.bool false) := e226; subst e226; exact exec_val (c := (.bool false)) (wanted_none rfl) (by go_simp) rfl
                    case o18 => intro aR wR hR; replace hR := hR.undrew; intro v227 h227 e227; replace e227 : v227 = (.bool false) := e227; subst e227; intro (h22 : aR.tmps[22]? = some (.bool false)); exact exec_val (c := .bool false) (wanted_yes (b := false) (t := 227) rfl rfl h227) (by go_simp) rfl
                    case o19 => intro aR wR hR; replace hR := hR.undrew; intro v227 h227 e227; replace e227 : v227 = (.bool false) := e227; subst e227; intro v228 h228 e228; replace e228 : v228 = .bool false := e228; subst e228; exact exec_val (c := .bool true) (wanted_yes (b := false) (t := 227) rfl rfl h227) (by go_simp) rfl
                    case o20 => intro aR wR hR; replace hR := hR.undrew; intro v227 h227 e227; replace e227 : v227 = (.bool false) := e227; subst e227; intro v229 h229 e229; replace e229 : v229 = .bool true := e229; subst e229; exact exec_val (c := .bool true) (wanted_yes (b := false) (t := 227) rfl rfl h227) (by go_simp) rfl
                    case o21 => intro aR wR hR; replace hR := hR.undrew; intro v230 h230 e230; replace e230 : v230 = .bool true := e230; subst e230; intro (h21 : aR.tmps[21]? = some (.int .i64 7)); exact exec_val (c := .int .i64 7) (wanted_yes (b := true) (t := 230) rfl rfl h230) (by go_simp) rfl
                    case o22 => intro aR wR hR; replace hR := hR.undrew; intro v230 h230 e230; replace e230 : v230 = .bool true := e230; subst e230; intro v231 h231 e231; replace e231 : v231 = .int .i64 7 := e231; subst e231; exact exec_val (c := .bool false) (wanted_yes (b := true) (t := 230) rfl rfl h230) (by go_simp) rfl
                    case o23 => intro aR wR hR; replace hR := hR.undrew; intro v227 h227 e227; replace e227 : v227 = (.bool false) := e227; subst e227; intro v230 h230 e230; replace e230 : v230 = .bool true := e230; subst e230; intro v232 h232 e232; replace e232 : v232 = .bool false := e232; subst e232; exact exec_val (c := .bool false) (wanted_yes (b := false) (t := 227) rfl rfl h227) (by go_simp) rfl
                    case o24 => intro aR wR hR; replace hR := hR.undrew; intro v227 h227 e227; replace e227 : v227 = (.bool false) := e227; subst e227; intro v233 h233 e233; replace e233 : v233 = .bool false := e233; subst e233; exact exec_val (c := .bool false) (wanted_none rfl) (by go_simp) rfl
                  · intro vs wR hR hV
                    obtain ⟨e0, e1, e2, e3, e4, e5, e6, e7, e8, e9, e10, e11, e12, e13, e14, e15, e16, e17, e18, e19, e20, e21, e22, e23, e24, -⟩ := hV
                    replace e0 : vs 0 = .bool false := e0
                    replace e1 : vs 1 = .bool false := e1
                    replace e2 : vs 2 = undef := e2
                    replace e3 : vs 3 = undef := e3
                    replace e4 : vs 4 = undef := e4
                    replace e5 : vs 5 = undef := e5
                    replace e6 : vs 6 = undef := e6
                    replace e7 : vs 7 = undef := e7
                    replace e8 : vs 8 = undef := e8
                    replace e9 : vs 9 = undef := e9
                    replace e10 : vs 10 = undef := e10
                    replace e11 : vs 11 = undef := e11
                    replace e12 : vs 12 = undef := e12
                    replace e13 : vs 13 = undef := e13
                    replace e14 : vs 14 = undef := e14
                    replace e15 : vs 15 = undef := e15
                    replace e16 : vs 16 = (.bool false) := e16
                    replace e17 : vs 17 = (.bool false) := e17
                    replace e18 : vs 18 = .bool false := e18
                    replace e19 : vs 19 = .bool true := e19
                    replace e20 : vs 20 = .bool true := e20
                    replace e21 : vs 21 = .int .i64 7 := e21
                    replace e22 : vs 22 = .bool false := e22
                    replace e23 : vs 23 = .bool false := e23
                    replace e24 : vs 24 = .bool false := e24
                    simp only [putAll, e0, e1, e2, e3, e4, e5, e6, e7, e8, e9, e10, e11, e12, e13, e14, e15, e16, e17, e18, e19, e20, e21, e22, e23, e24, Nat.reduceAdd, Nat.zero_add]
                    clear e0 e1 e2 e3 e4 e5 e6 e7 e8 e9 e10 e11 e12 e13 e14 e15 e16 e17 e18 e19 e20 e21 e22 e23 e24
                    try simp only [List.setIfInBounds_toArray, List.set_cons_succ, List.set_cons_zero]
                    go_wp2_with fail
                    go_meet
                    exact ⟨by first | rfl | simp, Lib.hid hR⟩
                · have hin : 0 ≤ i ∧ i < (nn : Int) := by
                    have h1 := HIN.out.symm
                    rw [Bool.and_eq_true, decide_eq_true_eq, decide_eq_true_eq] at h1
                    exact h1
                  obtain ⟨hev, n, hin2, hnr⟩ : ev = 0 ∧ ∃ n : Nat, i = (n : Int) ∧ N[n]? = some (⟨yd, yf, yt, kids⟩ : PN) := by
                    rcases HCASE.out with ⟨-, h⟩ | h
                    · rw [HNL.out] at h; omega
                    · exact h
                  subst hev
                  subst hin2
                  have hnrn : n < nn := by omega
                  obtain ⟨g, y2, hna, hyN, hy2n, hy2⟩ := HNX.out n hnrn
                  subst hna
                  rw [hnr] at hyN
                  have hpr : (⟨yd, yf, yt, kids⟩ : PN) = pn y2 := Option.some.inj hyN
                  obtain ⟨yd2, yf2, yt2, ka2, kn2, kc2, kids2⟩ := y2
                  simp only [pn, PN.mk.injEq] at hpr
                  obtain ⟨e1, e2, e3, e4⟩ := hpr
                  subst e1
                  subst e2
                  subst e3
                  subst e4
                  dsimp only at hy2n hy2
                  obtain rfl : kn2 = kn := by rw [hy2n, HKN.out]
                  have HSM : Hid (∀ W, Kp [] wz W → Calls Try.prog 25 #[.agg #[.int .i64 (yd : Int), .int .i64 (yf : Int), .int .i64 (yt : Int), .slice ka kn2 kc], .agg #[.int .i64 (yd : Int), .int .i64 (yf : Int), .int .i64 (yt : Int), .slice ka2 kn2 kc2]] W fun e w' => e = .returned (.bool true) ∧ Kp [] W w') := Lib.hid (fun W hW =>
                    r19SameN_yes (yd : Int) (yf : Int) (yt : Int) ka kn2 kc ka2 kc2 kids HKN.out W (RdS.keep0 (HYQ.out.rd kdlies) kdlies.len hW) (hy2 W (HKQ.out.tr hW)).2)
                  have HRW : Hid (∀ W, Kp [] wz W → W.rangeAt px 0 [.int .i64 (yd : Int), .int .i64 (yf : Int), .int .i64 (yt : Int), .slice ka kn2 kc] ∧ W.rangeAt g (n * 4) [.int .i64 (yd : Int), .int .i64 (yf : Int), .int .i64 (yt : Int), .slice ka2 kn2 kc2] ∧ W.cell? ⟨T2, 3, none⟩ = some (.slice (some ⟨g, 0, none⟩) nn nc2)) := Lib.hid (fun W hW =>
                    ⟨range_row (hW.get HPX.out (by simp)), (hy2 W (HKQ.out.tr hW)).1, hW.cell c3 (by simp)⟩)
                  clear hy2 hyN hnr hin hy2n
                  refine wp_region_K (by kernel_rfl) [.val (.bool true), .val (.bool true), .val (.agg #[.int .i64 (yd : Int), .int .i64 (yf : Int), .int .i64 (yt : Int), .slice ka kn2 kc]), .val (.pointer (some ⟨T2, 0, none⟩)), .val (.pointer (some ⟨T2, 0, none⟩)), .val (.pointer (some ⟨T2, 3, none⟩)), .val (.slice (some ⟨g, 0, none⟩) nn nc2), .val (.int .i64 (n : Int)), .val (.pointer (some ⟨g, n * 4, none⟩)), .val (.agg #[.int .i64 (yd : Int), .int .i64 (yf : Int), .int .i64 (yt : Int), .slice ka2 kn2 kc2]), .val (.bool true), .val (.bool false), .val (.bool false), .val (.int .i64 0), .val (.bool false), .val (.bool false), .val (.bool false), .val (.bool false), .val (.bool true), .val (.bool false), .val (.bool false), .val (undef), .val (undef), .val ((.bool false)), .val ((.bool false))] [[(22, none)], [(210, some 0)], [(211, some 1), (20, none)], [(211, some 1), (11, none)], [(211, some 1), (213, some 3)], [(211, some 1), (214, some 4)], [(211, some 1), (215, some 5)], [(211, some 1), (19, none)], [(211, some 1), (216, some 6), (217, some 7)], [(211, some 1), (218, some 8)], [(211, some 1), (212, some 2), (219, some 9)], [(211, some 1), (220, some 10)], [(211, some 1), (221, some 11)], [(222, some 12), (21, none)], [(222, some 12), (223, some 13)], [(211, some 1), (222, some 12), (224, some 14)], [(211, some 1), (225, some 15)], [(226, some 16)], [(227, some 17), (22, none)], [(227, some 17), (228, some 18)], [(227, some 17), (229, some 19)], [(230, some 20)], [(230, some 20)], [(227, some 17), (230, some 20), (232, some 22)], [(227, some 17), (233, some 23)]] rfl (by kernel_rfl) ?_ ?_
                  · refine ⟨?o0, ?o1, ?o2, ?o3, ?o4, ?o5, ?o6, ?o7, ?o8, ?o9, ?o10, ?o11, ?o12, ?o13, ?o14, ?o15, ?o16, ?o17, ?o18, ?o19, ?o20, ?o21, ?o22, ?o23, ?o24, trivial⟩
                    case o0 => intro aR wR hR; replace hR := hR.undrew; intro (h22 : aR.tmps[22]? = some (.bool true)); exact exec_val (c := .bool true) (wanted_none rfl) (by go_simp) rfl
                    case o1 => intro aR wR hR; replace hR := hR.undrew; intro v210 h210 e210; replace e210 : v210 = .bool true := e210; subst e210; exact exec_val (c := .bool true) (wanted_none rfl) (by go_simp) rfl
                    case o2 => intro aR wR hR; replace hR := hR.undrew; intro v211 h211 e211; replace e211 : v211 = .bool true := e211; subst e211; intro (h20 : aR.tmps[20]? = some (.pointer (some ⟨px, 0, none⟩))); exact exec_val (c := .agg #[.int .i64 (yd : Int), .int .i64 (yf : Int), .int .i64 (yt : Int), .slice ka kn2 kc]) (wanted_yes (b := true) (t := 211) rfl rfl h211) (exec_ld rfl (b := px) (o := 0) (by go_simp) (HRW.out wR hR).1 Try.underlying40 rfl (by kernel_rfl)) rfl
                    case o3 => intro aR wR hR; replace hR := hR.undrew; intro v211 h211 e211; replace e211 : v211 = .bool true := e211; subst e211; intro (h11 : aR.tmps[11]? = some (.pointer (some ⟨T2, 0, none⟩))); exact exec_val (c := .pointer (some ⟨T2, 0, none⟩)) (wanted_yes (b := true) (t := 211) rfl rfl h211) (by go_simp) rfl
                    case o4 => intro aR wR hR; replace hR := hR.undrew; intro v211 h211 e211; replace e211 : v211 = .bool true := e211; subst e211; intro v213 h213 e213; replace e213 : v213 = .pointer (some ⟨T2, 0, none⟩) := e213; subst e213; exact exec_val (c := .pointer (some ⟨T2, 0, none⟩)) (wanted_yes (b := true) (t := 211) rfl rfl h211) (by go_simp) rfl
                    case o5 => intro aR wR hR; replace hR := hR.undrew; intro v211 h211 e211; replace e211 : v211 = .bool true := e211; subst e211; intro v214 h214 e214; replace e214 : v214 = .pointer (some ⟨T2, 0, none⟩) := e214; subst e214; exact exec_val (c := .pointer (some ⟨T2, 3, none⟩)) (wanted_yes (b := true) (t := 211) rfl rfl h211) (by go_simp) rfl
                    case o6 => intro aR wR hR; replace hR := hR.undrew; intro v211 h211 e211; replace e211 : v211 = .bool true := e211; subst e211; intro v215 h215 e215; replace e215 : v215 = .pointer (some ⟨T2, 3, none⟩) := e215; subst e215; (have h1 := (HRW.out wR hR).2.2); exact exec_val (c := .slice (some ⟨g, 0, none⟩) nn nc2) (wanted_yes (b := true) (t := 211) rfl rfl h211) (by go_simp) rfl
                    case o7 => intro aR wR hR; replace hR := hR.undrew; intro v211 h211 e211; replace e211 : v211 = .bool true := e211; subst e211; intro (h19 : aR.tmps[19]? = some (.int .i64 (n : Int))); exact exec_val (c := .int .i64 (n : Int)) (wanted_yes (b := true) (t := 211) rfl rfl h211) (by go_simp) rfl
                    case o8 => intro aR wR hR; replace hR := hR.undrew; intro v211 h211 e211; replace e211 : v211 = .bool true := e211; subst e211; intro v216 h216 e216; replace e216 : v216 = .slice (some ⟨g, 0, none⟩) nn nc2 := e216; subst e216; intro v217 h217 e217; replace e217 : v217 = .int .i64 (n : Int) := e217; subst e217; exact exec_val (c := .pointer (some ⟨g, n * 4, none⟩)) (wanted_yes (b := true) (t := 211) rfl rfl h211) (by go_simp) rfl
                    case o9 => intro aR wR hR; replace hR := hR.undrew; intro v211 h211 e211; replace e211 : v211 = .bool true := e211; subst e211; intro v218 h218 e218; replace e218 : v218 = .pointer (some ⟨g, n * 4, none⟩) := e218; subst e218; exact exec_val (c := .agg #[.int .i64 (yd : Int), .int .i64 (yf : Int), .int .i64 (yt : Int), .slice ka2 kn2 kc2]) (wanted_yes (b := true) (t := 211) rfl rfl h211) (exec_ld rfl (b := g) (o := n * 4) (by go_simp) (HRW.out wR hR).2.1 Try.underlying40 rfl (by kernel_rfl)) rfl
                    case o10 => intro aR wR hR; replace hR := hR.undrew; intro v211 h211 e211; replace e211 : v211 = .bool true := e211; subst e211; intro v212 h212 e212; replace e212 : v212 = .agg #[.int .i64 (yd : Int), .int .i64 (yf : Int), .int .i64 (yt : Int), .slice ka kn2 kc] := e212; subst e212; intro v219 h219 e219; replace e219 : v219 = .agg #[.int .i64 (yd : Int), .int .i64 (yf : Int), .int .i64 (yt : Int), .slice ka2 kn2 kc2] := e219; subst e219; refine exec_call (wanted_yes (b := true) (t := 211) rfl rfl h211) (by go_simp; exact ⟨rfl, rfl⟩) ?_; refine (HSM.out wR hR).mono ?_; rintro e7 w8' ⟨rfl, kp8⟩; exact ⟨_, rfl, rfl, kp8⟩
                    case o11 => intro aR wR hR; replace hR := hR.undrew; intro v211 h211 e211; replace e211 : v211 = .bool true := e211; subst e211; intro v220 h220 e220; replace e220 : v220 = .bool true := e220; subst e220; exact exec_val (c := .bool false) (wanted_yes (b := true) (t := 211) rfl rfl h211) (by go_simp) rfl
                    case o12 => intro aR wR hR; replace hR := hR.undrew; intro v211 h211 e211; replace e211 : v211 = .bool true := e211; subst e211; intro v221 h221 e221; replace e221 : v221 = .bool false := e221; subst e221; exact exec_val (c := .bool false) (wanted_yes (b := true) (t := 211) rfl rfl h211) (by go_simp) rfl
                    case o13 => intro aR wR hR; replace hR := hR.undrew; intro v222 h222 e222; replace e222 : v222 = .bool false := e222; subst e222; intro (h21 : aR.tmps[21]? = some (.int .i64 0)); exact exec_val (c := .int .i64 0) (wanted_yes (b := false) (t := 222) rfl rfl h222) (by go_simp) rfl
                    case o14 => intro aR wR hR; replace hR := hR.undrew; intro v222 h222 e222; replace e222 : v222 = .bool false := e222; subst e222; intro v223 h223 e223; replace e223 : v223 = .int .i64 0 := e223; subst e223; exact exec_val (c := .bool false) (wanted_yes (b := false) (t := 222) rfl rfl h222) (by go_simp) rfl
                    case o15 => intro aR wR hR; replace hR := hR.undrew; intro v211 h211 e211; replace e211 : v211 = .bool true := e211; subst e211; intro v222 h222 e222; replace e222 : v222 = .bool false := e222; subst e222; intro v224 h224 e224; replace e224 : v224 = .bool false := e224; subst e224; exact exec_val (c := .bool false) (wanted_yes (b := true) (t := 211) rfl rfl h211) (by go_simp) rfl
                    case o16 => intro aR wR hR; replace hR := hR.undrew; intro v211 h211 e211; replace e211 : v211 = .bool true := e211; subst e211; intro v225 h225 e225; replace e225 : v225 = .bool false := e225; subst e225; exact exec_val (c := .bool false) (wanted_none rfl) (by go_simp) rfl
                    case o17 => intro aR wR hR; replace hR := hR.undrew; intro v226 h226 e226; replace e226 : v226 = .bool false := e226; subst e226; exact exec_val (c := .bool false) (wanted_none rfl) (by go_simp) rfl
                    case o18 => intro aR wR hR; replace hR := hR.undrew; intro v227 h227 e227; replace e227 : v227 = .bool false := e227; subst e227; intro (h22 : aR.tmps[22]? = some (.bool true)); exact exec_val (c := .bool true) (wanted_yes (b := false) (t := 227) rfl rfl h227) (by go_simp) rfl
                    case o19 => intro aR wR hR; replace hR := hR.undrew; intro v227 h227 e227; replace e227 : v227 = .bool false := e227; subst e227; intro v228 h228 e228; replace e228 : v228 = .bool true := e228; subst e228; exact exec_val (c := .bool false) (wanted_yes (b := false) (t := 227) rfl rfl h227) (by go_simp) rfl
                    case o20 => intro aR wR hR; replace hR := hR.undrew; intro v227 h227 e227; replace e227 : v227 = .bool false := e227; subst e227; intro v229 h229 e229; replace e229 : v229 = .bool false := e229; subst e229; exact exec_val (c := .bool false) (wanted_yes (b := false) (t := 227) rfl rfl h227) (by go_simp) rfl
                    case o21 => intro aR wR hR; replace hR := hR.undrew; intro v230 h230 e230; replace e230 : v230 = .bool false := e230; subst e230; exact exec_pass (wanted_not (b := true) (t := 230) rfl rfl h230) rfl
                    case o22 => intro aR wR hR; replace hR := hR.undrew; intro v230 h230 e230; replace e230 : v230 = .bool false := e230; subst e230; exact exec_pass (wanted_not (b := true) (t := 230) rfl rfl h230) rfl
                    case o23 => intro aR wR hR; replace hR := hR.undrew; intro v227 h227 e227; replace e227 : v227 = .bool false := e227; subst e227; intro v230 h230 e230; replace e230 : v230 = .bool false := e230; subst e230; intro v232 h232 e232; replace e232 : v232 = undef := e232; subst e232; exact exec_val (c := (.bool false)) (wanted_yes (b := false) (t := 227) rfl rfl h227) (by go_simp) rfl
                    case o24 => intro aR wR hR; replace hR := hR.undrew; intro v227 h227 e227; replace e227 : v227 = .bool false := e227; subst e227; intro v233 h233 e233; replace e233 : v233 = (.bool false) := e233; subst e233; exact exec_val (c := (.bool false)) (wanted_none rfl) (by go_simp) rfl
                  · intro vs wR hR hV
                    obtain ⟨e0, e1, e2, e3, e4, e5, e6, e7, e8, e9, e10, e11, e12, e13, e14, e15, e16, e17, e18, e19, e20, e21, e22, e23, e24, -⟩ := hV
                    replace e0 : vs 0 = .bool true := e0
                    replace e1 : vs 1 = .bool true := e1
                    replace e2 : vs 2 = .agg #[.int .i64 (yd : Int), .int .i64 (yf : Int), .int .i64 (yt : Int), .slice ka kn2 kc] := e2
                    replace e3 : vs 3 = .pointer (some ⟨T2, 0, none⟩) := e3
                    replace e4 : vs 4 = .pointer (some ⟨T2, 0, none⟩) := e4
                    replace e5 : vs 5 = .pointer (some ⟨T2, 3, none⟩) := e5
                    replace e6 : vs 6 = .slice (some ⟨g, 0, none⟩) nn nc2 := e6
                    replace e7 : vs 7 = .int .i64 (n : Int) := e7
                    replace e8 : vs 8 = .pointer (some ⟨g, n * 4, none⟩) := e8
                    replace e9 : vs 9 = .agg #[.int .i64 (yd : Int), .int .i64 (yf : Int), .int .i64 (yt : Int), .slice ka2 kn2 kc2] := e9
                    replace e10 : vs 10 = .bool true := e10
                    replace e11 : vs 11 = .bool false := e11
                    replace e12 : vs 12 = .bool false := e12
                    replace e13 : vs 13 = .int .i64 0 := e13
                    replace e14 : vs 14 = .bool false := e14
                    replace e15 : vs 15 = .bool false := e15
                    replace e16 : vs 16 = .bool false := e16
                    replace e17 : vs 17 = .bool false := e17
                    replace e18 : vs 18 = .bool true := e18
                    replace e19 : vs 19 = .bool false := e19
                    replace e20 : vs 20 = .bool false := e20
                    replace e21 : vs 21 = undef := e21
                    replace e22 : vs 22 = undef := e22
                    replace e23 : vs 23 = (.bool false) := e23
                    replace e24 : vs 24 = (.bool false) := e24
                    simp only [putAll, e0, e1, e2, e3, e4, e5, e6, e7, e8, e9, e10, e11, e12, e13, e14, e15, e16, e17, e18, e19, e20, e21, e22, e23, e24, Nat.reduceAdd, Nat.zero_add]
                    clear e0 e1 e2 e3 e4 e5 e6 e7 e8 e9 e10 e11 e12 e13 e14 e15 e16 e17 e18 e19 e20 e21 e22 e23 e24
                    try simp only [List.setIfInBounds_toArray, List.set_cons_succ, List.set_cons_zero]
                    go_wp2_with fail
                    go_meet
                    exact ⟨by first | rfl | simp, Lib.hid hR⟩
              obtain ⟨rfl, HKc⟩ := hcut
              obtain ⟨wa, rfl⟩ : ∃ wa : World, wa = wc := ⟨_, rfl⟩
              have HMA := Lib.hid (HMU.out.keep0 HKc.out)
              have p3 := arow_cell HMA.out.row 3 rfl
              clear HYO HCASE HKX HYQ HPX HMU HIN
              clear c3
              go_wp2_with fail
              go_loopw [238] (fun vt wr => ∃ s : Nat, s ≤ kn ∧ vt = .int .i64 s ∧ Hid (MutN w7 wi.heap.size px #[.int .i64 (yd : Int), .int .i64 (yf : Int), .int .i64 (yt : Int), .slice ka kn kc] ka kc kn wr)) (fun vt _ => kn - (intOf vt).toNat)
              case atStart => exact ⟨0, Nat.zero_le _, rfl, HMA⟩
              case round => as_aux_lemma =>
                obtain ⟨s, hs, rfl, HM3⟩ := hrel
                obtain ⟨wb, rfl⟩ : ∃ wb : World, wb = wr := ⟨_, rfl⟩
                clear p3
                by_cases hlts : s < kn
                · obtain ⟨g, u, hg, cg, fg, hset⟩ := HM3.out.set hlts
                  subst hg
                  have p3 := arow_cell HM3.out.row 3 rfl
                  have HN3 := Lib.hid hset
                  clear hset
                  go_wp2_with fail
                  go_roundw
                  case rel => exact ⟨s + 1, hlts, by go_num, HN3⟩
                  case measure => simp [intOf]; omega
                · obtain rfl : kn = s := by omega
                  have HKN2 := Lib.hid HM3.out.kp
                  go_wp2_with fail
                  go_roundw
                  case rel => exact ⟨i + 1, by omega, by omega, by first | rfl | go_num, HKN2⟩
                  case measure => simp only [intOf]; omega
            · have hdi : decide (i ≤ (nn : Int)) = false := decide_eq_false hle
              have hS0 : ∀ x ∈ ([] : List Nat), x < w7.heap.size := by simp
              have HWS := Lib.hid HKi.out.size
              clear hle
              go_upto_region 41 with (fail)
              go_cut [259] (fun v259 wx => v259 = .bool false ∧ Hid (Kp [] wi wx))
              case first => as_aux_lemma =>
                by_cases hr0 : r = 0
                · have hbr : ((r : Int) == 0) = true := by simp; omega
                  clear hr0
                  refine wp_region_K (by kernel_rfl) [.val (.int .i64 (r : Int)), .val (.bool true), .val (.bool true), .val (.pointer (some ⟨T, 0, none⟩)), .own w7.heap.size 5 .u8 zn Z, .val (.string (strOfNums Z)), .val (.pointer (some ⟨T2, 0, none⟩)), .val (.slice da dn dc), .val (.int .i64 ((dn : Nat) : Int)), .own w7.heap.size 5 .u8 zn Z, .val (.string (strOfNums Z)), .val (.bool false), .val (.bool false)] [[(12, none)], [(247, some 0)], [(248, some 1)], [(249, some 2), (9, none)], [(249, some 2), (250, some 3)], [(249, some 2), (251, some 4)], [(249, some 2), (11, none)], [(249, some 2), (2, none)], [(249, some 2), (254, some 7)], [(249, some 2), (253, some 6), (255, some 8)], [(249, some 2), (256, some 9)], [(249, some 2), (252, some 5), (257, some 10)], [(249, some 2), (258, some 11)]] rfl (by kernel_rfl) ?_ ?_
                  · refine ⟨?o0, ?o1, ?o2, ?o3, ?o4, ?o5, ?o6, ?o7, ?o8, ?o9, ?o10, ?o11, ?o12, trivial⟩
                    case o0 => intro aR wR hR; replace hR := hR.undrew; intro (h12 : aR.tmps[12]? = some (.int .i64 (r : Int))); exact exec_val (c := .int .i64 (r : Int)) (wanted_none rfl) (by go_simp) rfl
                    case o1 => intro aR wR hR; replace hR := hR.undrew; intro v247 h247 e247; replace e247 : v247 = .int .i64 (r : Int) := e247; subst e247; exact exec_val (c := .bool true) (wanted_none rfl) (by go_simp) rfl
                    case o2 => intro aR wR hR; replace hR := hR.undrew; intro v248 h248 e248; replace e248 : v248 = .bool true := e248; subst e248; exact exec_val (c := .bool true) (wanted_none rfl) (by go_simp) rfl
                    case o3 => intro aR wR hR; replace hR := hR.undrew; intro v249 h249 e249; replace e249 : v249 = .bool true := e249; subst e249; intro (h9 : aR.tmps[9]? = some (.pointer (some ⟨T, 0, none⟩))); exact exec_val (c := .pointer (some ⟨T, 0, none⟩)) (wanted_yes (b := true) (t := 249) rfl rfl h249) (by go_simp) rfl
                    case o4 => intro aR wR hR; replace hR := hR.undrew; intro v249 h249 e249; replace e249 : v249 = .bool true := e249; subst e249; intro v250 h250 e250; replace e250 : v250 = .pointer (some ⟨T, 0, none⟩) := e250; subst e250; refine exec_call (wanted_yes (b := true) (t := 249) rfl rfl h249) (by go_simp; exact ⟨rfl, rfl⟩) ?_; refine (HBY1.out wR (HKi.out.tr hR)).mono ?_; rintro e7 w8 ⟨ad, cap, rfl, ho, kp8⟩; exact ⟨_, rfl, ⟨ad, cap, rfl, ho.mono (Nat.le_trans HWS.out hR.size)⟩, kp8⟩
                    case o5 => intro aR wR hR; replace hR := hR.undrew; intro v249 h249 e249; replace e249 : v249 = .bool true := e249; subst e249; intro v251 h251 e251; (obtain ⟨ad, cap, rfl, ho⟩ := e251; have hcv := conv_str (P := Try.prog) wR 46 9 5 Try.underlying46 Try.underlying5 Try.underlying9 ad cap zn Z ho.rd HZN.out); exact exec_val (c := .string (strOfNums Z)) (wanted_yes (b := true) (t := 249) rfl rfl h249) (by go_simp) rfl
                    case o6 => intro aR wR hR; replace hR := hR.undrew; intro v249 h249 e249; replace e249 : v249 = .bool true := e249; subst e249; intro (h11 : aR.tmps[11]? = some (.pointer (some ⟨T2, 0, none⟩))); exact exec_val (c := .pointer (some ⟨T2, 0, none⟩)) (wanted_yes (b := true) (t := 249) rfl rfl h249) (by go_simp) rfl
                    case o7 => intro aR wR hR; replace hR := hR.undrew; intro v249 h249 e249; replace e249 : v249 = .bool true := e249; subst e249; intro (h2 : aR.tmps[2]? = some (.slice da dn dc)); exact exec_val (c := .slice da dn dc) (wanted_yes (b := true) (t := 249) rfl rfl h249) (by go_simp) rfl
                    case o8 => intro aR wR hR; replace hR := hR.undrew; intro v249 h249 e249; replace e249 : v249 = .bool true := e249; subst e249; intro v254 h254 e254; replace e254 : v254 = .slice da dn dc := e254; subst e254; exact exec_val (c := .int .i64 ((dn : Nat) : Int)) (wanted_yes (b := true) (t := 249) rfl rfl h249) (by go_simp) rfl
                    case o9 => intro aR wR hR; replace hR := hR.undrew; intro v249 h249 e249; replace e249 : v249 = .bool true := e249; subst e249; intro v253 h253 e253; replace e253 : v253 = .pointer (some ⟨T2, 0, none⟩) := e253; subst e253; intro v255 h255 e255; replace e255 : v255 = .int .i64 ((dn : Nat) : Int) := e255; subst e255; refine exec_call (wanted_yes (b := true) (t := 249) rfl rfl h249) (by go_simp; exact ⟨rfl, rfl⟩) ?_; refine (HBY2.out wR (HKi.out.tr hR)).mono ?_; rintro e7 w8 ⟨ad, cap, rfl, ho, kp8⟩; exact ⟨_, rfl, ⟨ad, cap, rfl, ho.mono (Nat.le_trans HWS.out hR.size)⟩, kp8⟩
                    case o10 => intro aR wR hR; replace hR := hR.undrew; intro v249 h249 e249; replace e249 : v249 = .bool true := e249; subst e249; intro v256 h256 e256; (obtain ⟨ad, cap, rfl, ho⟩ := e256; have hcv := conv_str (P := Try.prog) wR 46 9 5 Try.underlying46 Try.underlying5 Try.underlying9 ad cap zn Z ho.rd HZN.out); exact exec_val (c := .string (strOfNums Z)) (wanted_yes (b := true) (t := 249) rfl rfl h249) (by go_simp) rfl
                    case o11 => intro aR wR hR; replace hR := hR.undrew; intro v249 h249 e249; replace e249 : v249 = .bool true := e249; subst e249; intro v252 h252 e252; replace e252 : v252 = .string (strOfNums Z) := e252; subst e252; intro v257 h257 e257; replace e257 : v257 = .string (strOfNums Z) := e257; subst e257; exact exec_val (c := .bool false) (wanted_yes (b := true) (t := 249) rfl rfl h249) (by go_simp) rfl
                    case o12 => intro aR wR hR; replace hR := hR.undrew; intro v249 h249 e249; replace e249 : v249 = .bool true := e249; subst e249; intro v258 h258 e258; replace e258 : v258 = .bool false := e258; subst e258; exact exec_val (c := .bool false) (wanted_none rfl) (by go_simp) rfl
                  · intro vs wR hR hV
                    obtain ⟨e0, e1, e2, e3, e4, e5, e6, e7, e8, e9, e10, e11, e12, -⟩ := hV
                    replace e0 : vs 0 = .int .i64 (r : Int) := e0
                    replace e1 : vs 1 = .bool true := e1
                    replace e2 : vs 2 = .bool true := e2
                    replace e3 : vs 3 = .pointer (some ⟨T, 0, none⟩) := e3
                    replace e5 : vs 5 = .string (strOfNums Z) := e5
                    replace e6 : vs 6 = .pointer (some ⟨T2, 0, none⟩) := e6
                    replace e7 : vs 7 = .slice da dn dc := e7
                    replace e8 : vs 8 = .int .i64 ((dn : Nat) : Int) := e8
                    replace e10 : vs 10 = .string (strOfNums Z) := e10
                    replace e11 : vs 11 = .bool false := e11
                    replace e12 : vs 12 = .bool false := e12
                    simp only [putAll, e0, e1, e2, e3, e5, e6, e7, e8, e10, e11, e12, Nat.reduceAdd, Nat.zero_add]
                    clear e0 e1 e2 e3 e5 e6 e7 e8 e10 e11 e12
                    try simp only [List.setIfInBounds_toArray, List.set_cons_succ, List.set_cons_zero]
                    go_wp2_with fail
                    go_meet
                    exact ⟨by first | rfl | simp, Lib.hid hR⟩
                · have hbr : ((r : Int) == 0) = false := by simp; omega
                  refine wp_region_K (by kernel_rfl) [.val (.int .i64 (r : Int)), .val (.bool false), .val (.bool false), .val (undef), .val (undef), .val (undef), .val (undef), .val (undef), .val (undef), .val (undef), .val (undef), .val (undef), .val ((.bool false))] [[(12, none)], [(247, some 0)], [(248, some 1)], [(249, some 2)], [(249, some 2)], [(249, some 2)], [(249, some 2)], [(249, some 2)], [(249, some 2)], [(249, some 2)], [(249, some 2)], [(249, some 2)], [(249, some 2), (258, some 11)]] rfl (by kernel_rfl) ?_ ?_
                  · refine ⟨?o0, ?o1, ?o2, ?o3, ?o4, ?o5, ?o6, ?o7, ?o8, ?o9, ?o10, ?o11, ?o12, trivial⟩
                    case o0 => intro aR wR hR; replace hR := hR.undrew; intro (h12 : aR.tmps[12]? = some (.int .i64 (r : Int))); exact exec_val (c := .int .i64 (r : Int)) (wanted_none rfl) (by go_simp) rfl
                    case o1 => intro aR wR hR; replace hR := hR.undrew; intro v247 h247 e247; replace e247 : v247 = .int .i64 (r : Int) := e247; subst e247; exact exec_val (c := .bool false) (wanted_none rfl) (by go_simp) rfl
                    case o2 => intro aR wR hR; replace hR := hR.undrew; intro v248 h248 e248; replace e248 : v248 = .bool false := e248; subst e248; exact exec_val (c := .bool false) (wanted_none rfl) (by go_simp) rfl
                    case o3 => intro aR wR hR; replace hR := hR.undrew; intro v249 h249 e249; replace e249 : v249 = .bool false := e249; subst e249; exact exec_pass (wanted_not (b := true) (t := 249) rfl rfl h249) rfl
                    case o4 => intro aR wR hR; replace hR := hR.undrew; intro v249 h249 e249; replace e249 : v249 = .bool false := e249; subst e249; exact exec_pass (wanted_not (b := true) (t := 249) rfl rfl h249) rfl
                    case o5 => intro aR wR hR; replace hR := hR.undrew; intro v249 h249 e249; replace e249 : v249 = .bool false := e249; subst e249; exact exec_pass (wanted_not (b := true) (t := 249) rfl rfl h249) rfl
                    case o6 => intro aR wR hR; replace hR := hR.undrew; intro v249 h249 e249; replace e249 : v249 = .bool false := e249; subst e249; exact exec_pass (wanted_not (b := true) (t := 249) rfl rfl h249) rfl
                    case o7 => intro aR wR hR; replace hR := hR.undrew; intro v249 h249 e249; replace e249 : v249 = .bool false := e249; subst e249; exact exec_pass (wanted_not (b := true) (t := 249) rfl rfl h249) rfl
                    case o8 => intro aR wR hR; replace hR := hR.undrew; intro v249 h249 e249; replace e249 : v249 = .bool false := e249; subst e249; exact exec_pass (wanted_not (b := true) (t := 249) rfl rfl h249) rfl
                    case o9 => intro aR wR hR; replace hR := hR.undrew; intro v249 h249 e249; replace e249 : v249 = .bool false := e249; subst e249; exact exec_pass (wanted_not (b := true) (t := 249) rfl rfl h249) rfl
                    case o10 => intro aR wR hR; replace hR := hR.undrew; intro v249 h249 e249; replace e249 : v249 = .bool false := e249; subst e249; exact exec_pass (wanted_not (b := true) (t := 249) rfl rfl h249) rfl
                    case o11 => intro aR wR hR; replace hR := hR.undrew; intro v249 h249 e249; replace e249 : v249 = .bool false := e249; subst e249; exact exec_pass (wanted_not (b := true) (t := 249) rfl rfl h249) rfl
                    case o12 => intro aR wR hR; replace hR := hR.undrew; intro v249 h249 e249; replace e249 : v249 = .bool false := e249; subst e249; intro v258 h258 e258; replace e258 : v258 = undef := e258; subst e258; exact exec_val (c := (.bool false)) (wanted_none rfl) (by go_simp) rfl
                  · intro vs wR hR hV
                    obtain ⟨e0, e1, e2, e3, e4, e5, e6, e7, e8, e9, e10, e11, e12, -⟩ := hV
                    replace e0 : vs 0 = .int .i64 (r : Int) := e0
                    replace e1 : vs 1 = .bool false := e1
                    replace e2 : vs 2 = .bool false := e2
                    replace e3 : vs 3 = undef := e3
                    replace e4 : vs 4 = undef := e4
                    replace e5 : vs 5 = undef := e5
                    replace e6 : vs 6 = undef := e6
                    replace e7 : vs 7 = undef := e7
                    replace e8 : vs 8 = undef := e8
                    replace e9 : vs 9 = undef := e9
                    replace e10 : vs 10 = undef := e10
                    replace e11 : vs 11 = undef := e11
                    replace e12 : vs 12 = (.bool false) := e12
                    simp only [putAll, e0, e1, e2, e3, e4, e5, e6, e7, e8, e9, e10, e11, e12, Nat.reduceAdd, Nat.zero_add]
                    clear e0 e1 e2 e3 e4 e5 e6 e7 e8 e9 e10 e11 e12
                    try simp only [List.setIfInBounds_toArray, List.set_cons_succ, List.set_cons_zero]
                    go_wp2_with fail
                    go_meet
                    exact ⟨by first | rfl | simp, Lib.hid hR⟩
              obtain ⟨rfl, HKc⟩ := hcut
              obtain ⟨wa, rfl⟩ : ∃ wa : World, wa = wc := ⟨_, rfl⟩
              have HKE := Lib.hid (HKi.out.tr HKc.out)
              clear c3
              go_wp2_with fail
              go_roundw
              case rel => exact ⟨r + 1, by omega, by go_num, HKE⟩
              case measure => simp [intOf]; omega
    · obtain rfl : r = 2 := by omega
      have HKE := Lib.hid (HK7.out.tr HKr.out)
      have HKW := Lib.hid (known19_any wp)
      go_wp2_with fail
      refine HKW.out.mono ?_
      rintro e w9 ⟨rfl, kp9⟩
      have HF := Lib.hid (HKE.out.tr kp9)
      clear kp9
      go_wp2_with fail
      go_ret
      exact ⟨rfl, HF.out⟩
end Go.Proofs.Ythmaobmgogmaoaa
