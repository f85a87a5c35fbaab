/-
  Finishing: the law of turning round.
-/
import Derived.Test.YtfacpfogdcefpaaFinI
namespace Go.Proofs.Ytfacpfogdcefpaa
open Go.RowKit Go.Shelf
set_option linter.unusedSimpArgs false
set_option linter.unusedVariables false
set_option maxRecDepth 100000

def SV.keys (n : Nat) (l : List Ky) : SV := ⟨fun v u => ∃ ad cap, v = .slice ad n cap ∧ RdK u ad cap l, fun _ _ _ ⟨ad, cap, h1, h2⟩ hk => ⟨ad, cap, h1, RdK.keep0 h2 hk⟩⟩

set_option maxHeartbeats 3200000 in
theorem finishTurns_any (ra : Option Addr) (rc m : Nat) (hs : List Hd) (hm : m = hs.length) (q o : Int) (w : World) (hr : RdR w ra rc hs) :
    Calls Try.prog 8 #[.slice ra m rc, .int .i64 q, .int .i64 o] w fun e w' => e = .returned (.bool true) ∧ Kp [] w w' := by
  have HM := Lib.hid hm
  have HR := Lib.hid hr
  clear hm hr
  go_enter Try.func8, Try.ntmps8
  go_wp2_with fail
  refine (fit27_any ra rc m hs HM.out 0 0 ⟨0, 0, ⟨#[]⟩⟩ w HR.out).mono ?_
  rintro e w1 ⟨⟨fb, rfl, hfit⟩, kp1⟩
  have K1 := Lib.hid kp1
  cases fb
  · go_wp2_with fail
    refine (known27_any w1).mono ?_
    rintro e w2 ⟨rfl, kp2⟩
    go_wp2_with fail
    go_ret
    exact ⟨rfl, K1.out.tr kp2⟩
  · have HFIT := Lib.hid (hfit rfl)
    have h60 := HFIT.out.1
    clear hfit kp1
    by_cases hm0 : m = 0
    · subst hm0
      go_wp2_with fail
      refine (known27_any w1).mono ?_
      rintro e w2 ⟨rfl, kp2⟩
      go_wp2_with fail
      go_ret
      exact ⟨rfl, K1.out.tr kp2⟩
    · have hmb : ((m : Int) == 0) = false := by simp; omega
      by_cases ho : o < 0
      · go_wp2_with fail
        refine (known27_any w1).mono ?_
        rintro e w2 ⟨rfl, kp2⟩
        go_wp2_with fail
        go_ret
        exact ⟨rfl, K1.out.tr kp2⟩
      · obtain ⟨b, off, xa, N, xc, rfl, c0, hN, hxr⟩ := (HR.out.keep0 K1.out).at' 0 (by rw [← HM.out]; omega)
        replace c0 : w1.cell? ⟨b, off, none⟩ = some (.slice xa N xc) := c0
        have HN : Hid (∀ x ∈ hs, x.row.length = N) := Lib.hid (fun x hx => by
          obtain ⟨j, hj, rfl⟩ := List.getElem_of_mem hx
          have := (HFIT.out.2 j (by rw [HM.out]; exact hj)).1
          rw [rowA_eq hs j hj] at this
          rw [this, hN])
        have HNB : Hid (N ≤ 20) := Lib.hid (by rw [hN]; exact (HFIT.out.2 0 (by omega)).2)
        clear hN hxr HFIT
        by_cases hoN : (N : Int) ≤ o
        · go_wp2_with fail
          refine (known27_any w1).mono ?_
          rintro e w2 ⟨rfl, kp2⟩
          go_wp2_with fail
          go_ret
          exact ⟨rfl, K1.out.tr kp2⟩
        · have FIN : Hid (∀ d W k0 c2, Kp [] w W → RdK W k0 c2 [⟨o, d⟩] → Calls Try.prog 27 #[.slice (some ⟨b, off, none⟩) m rc, .int .i64 q, tstV ⟨0, 0, 0, ⟨0, 0, ⟨#[]⟩⟩⟩, .slice k0 1 c2, .int .i64 (-1)] W fun e w' => Kp [] W w' ∧ ∃ oa oc R, e = .returned (.slice oa m oc) ∧ m = R.length ∧ RdR w' oa oc R ∧ Stab (ltK N q o d) (hs.map (·.row)) (R.map (·.row))) := Lib.hid (fun d W k0 c2 hW hks => by
            have := fiFinish_any (some ⟨b, off, none⟩) rc m hs HM.out q ⟨0, 0, 0, ⟨0, 0, ⟨#[]⟩⟩⟩ k0 c2 1 [⟨o, d⟩] rfl (-1) (fun _ => true) N W (HR.out.keep0 hW) (by omega) hks HN.out (by have := HNB.out; omega) (fun x hx V hV => passes0_any _ _ _ _ _ _ _) (by
              intro e
              rw [List.filter_eq_self.2 (by simp)] at e
              have h2 := congrArg List.length e
              rw [List.length_map, ← HM.out] at h2
              exact hm0 h2)
            refine this.mono fun e w' h => ?_
            rw [List.filter_eq_self.2 (by simp)] at h
            have := fin_all h
            simpa [← HM.out] using this)
          unfold tstV tstC at FIN
          dsimp only at FIN
          go_wp2_with fail
          refine (FIN.out false _ _ _ (K1.out.alloc _) (rdK_block (l := [⟨o, false⟩]) (t := 56) (heap_alloc_at rfl) rfl (by simp))).mono ?_
          rintro e w2 ⟨kp2, ua, uc, U, rfl, hUl, hU, hUst⟩
          have K2 := Lib.hid ((K1.out.alloc _).tr kp2)
          have HUL := Lib.hid hUl
          have HUR := Lib.hid hU
          have HUS := Lib.hid hUst
          clear kp2 hUl hU hUst c0
          go_wp2_with fail
          refine (FIN.out true _ _ _ (K2.out.alloc _) (rdK_block (l := [⟨o, true⟩]) (t := 56) (heap_alloc_at rfl) rfl (by simp))).mono ?_
          rintro e w3 ⟨kp3, da, dc, D, rfl, hDl, hD, hDst⟩
          have K3 := Lib.hid ((K2.out.alloc _).tr kp3)
          have HUR3 := Lib.hid ((HUR.out.keep0 ((Kp.refl [] w2).alloc _)).keep0 kp3)
          have HDL := Lib.hid hDl
          have HDR := Lib.hid hD
          have HDS := Lib.hid hDst
          clear kp3 hDl hD hDst HUR
          have hmm : ((m : Int) != (m : Int)) = false := by simp
          have hmpos : 1 ≤ m := by omega
          go_wp2_with fail
          go_loopw [9] (fun vi wr => ∃ i : Nat, 1 ≤ i ∧ i ≤ m ∧ vi = .int .i64 i ∧ Hid (∀ j, j + 1 < i → cmpW N 0 [⟨o, false⟩] (rowA U j) (rowA U (j + 1)) ≠ 0) ∧ Hid (Kp [] w3 wr)) (fun vi _ => m - (intOf vi).toNat)
          case atStart => exact ⟨1, by omega, hmpos, rfl, Lib.hid (fun j h => by omega), Lib.hid (Kp.refl _ _)⟩
          case round =>
            obtain ⟨i, hi1, hi, rfl, HX, HK⟩ := hrel
            obtain ⟨wo, rfl⟩ : ∃ wo : World, wo = wr := ⟨_, rfl⟩
            by_cases hlt : i < m
            · obtain ⟨ii, hii⟩ : ∃ ii : Nat, i = ii + 1 := ⟨i - 1, by omega⟩
              have hw1 : IntKind.i64.wrap ((i : Int) - 1) = (ii : Int) := by rw [IntWalk.i64_in _ (by omega)]; omega
              obtain ⟨b1, off1, xa1, xn1, xc1, rfl, d0, hx0, hr0⟩ := (HUR3.out.keep0 HK.out).at' ii (by rw [← HUL.out]; omega)
              obtain ⟨b2, off2, xa2, xn2, xc2, hq, d1, hx1, hr1⟩ := (HUR3.out.keep0 HK.out).at' i (by rw [← HUL.out]; omega)
              cases hq
              have D0 := Lib.hid d0
              have D1 := Lib.hid d1
              have HUN : Hid (∀ j, j < m → (rowA U j).length = N) := Lib.hid (fun j hj => by
                rw [rowA_eq U j (by rw [← HUL.out]; exact hj)]
                have h1 : U[j].row ∈ U.map (·.row) := List.mem_map_of_mem (List.getElem_mem _)
                have h2 := HUS.out.mem (ltK_swo N q o false) h1
                obtain ⟨y, hy, e⟩ := List.mem_map.1 h2
                rw [← e]; exact HN.out y hy)
              have HC : Hid (∀ W ka kc, Kp [] wo W → RdK W ka kc [⟨o, false⟩] → Calls Try.prog 24 #[.slice xa1 xn1 xc1, .slice xa2 xn2 xc2, .int .i64 0, .slice ka 1 kc] W fun e w' => e = .returned (.int .i64 (cmpW N 0 [⟨o, false⟩] (rowA U ii) (rowA U i))) ∧ Kp [] W w') := Lib.hid (fun W ka kc hW hks => by
                have := fiCompare_any xa1 xc1 xn1 _ hx0 xa2 xc2 xn2 _ hx1 0 ka kc 1 [⟨o, false⟩] rfl W (hr0.keep0 hW) (hr1.keep0 hW) hks
                rw [show min xn1 xn2 = N by rw [hx0, hx1, HUN.out ii (by omega), HUN.out i hlt, Nat.min_self]] at this
                exact this)
              have HST : Hid (cmpW N 0 [⟨o, false⟩] (rowA U ii) (rowA U i) ≠ 0 → ∀ j, j + 1 < i + 1 → cmpW N 0 [⟨o, false⟩] (rowA U j) (rowA U (j + 1)) ≠ 0) := Lib.hid (fun h j hj => by
                by_cases e : j = ii
                · rw [e, ← hii]; exact h
                · exact HX.out j (by omega))
              generalize cmpW N 0 [⟨o, false⟩] (rowA U ii) (rowA U i) = cv at *
              have hil : ii < m := by omega
              have HII := Lib.hid hii
              clear d0 d1 hx0 hr0 hx1 hr1 hii
              by_cases hcv : cv = 0
              · subst hcv
                go_upto_region 10 with (fail)
                refine wp_region_K (by kernel_rfl) [.val (.slice (some ⟨b1, off1, none⟩) m uc), .val (.int .i64 (i : Int)), .val (.int .i64 (ii : Int)), .val (.pointer (some ⟨b1, off1 + ii, none⟩)), .val (.slice xa1 xn1 xc1), .val (.slice (some ⟨b1, off1, none⟩) m uc), .val (.int .i64 (i : Int)), .val (.pointer (some ⟨b1, off1 + i, none⟩)), .val (.slice xa2 xn2 xc2), .val (.int .i64 o), .val (.agg #[.int .i64 o, .bool false]), .keys 1 [⟨o, false⟩], .val (.int .i64 0), .val (.bool true)] [[(7, none)], [(9, none)], [(66, some 1)], [(65, some 0), (67, some 2)], [(68, some 3)], [(7, none)], [(9, none)], [(70, some 5), (71, some 6)], [(72, some 7)], [(2, none)], [(74, some 9)], [(75, some 10)], [(69, some 4), (73, some 8), (76, some 11)], [(77, some 12)]] rfl (by kernel_rfl) ?_ ?_
                · refine ⟨?o0, ?o1, ?o2, ?o3, ?o4, ?o5, ?o6, ?o7, ?o8, ?o9, ?o10, ?o11, ?o12, ?o13, trivial⟩
                  case o0 => intro aR wR hR; replace hR := hR.undrew; intro (h7 : aR.tmps[7]? = some (.slice (some ⟨b1, off1, none⟩) m uc)); exact exec_val (c := .slice (some ⟨b1, off1, none⟩) m uc) (wanted_none rfl) (by go_simp) rfl
                  case o1 => intro aR wR hR; replace hR := hR.undrew; intro (h9 : aR.tmps[9]? = some (.int .i64 (i : Int))); exact exec_val (c := .int .i64 (i : Int)) (wanted_none rfl) (by go_simp) rfl
                  case o2 => intro aR wR hR; replace hR := hR.undrew; intro v66 h66 e66; replace e66 : v66 = .int .i64 (i : Int) := e66; subst e66; (skip); exact exec_val (c := .int .i64 (ii : Int)) (wanted_none rfl) (by go_simp) rfl
                  case o3 => intro aR wR hR; replace hR := hR.undrew; intro v65 h65 e65; replace e65 : v65 = .slice (some ⟨b1, off1, none⟩) m uc := e65; subst e65; intro v67 h67 e67; replace e67 : v67 = .int .i64 (ii : Int) := e67; subst e67; exact exec_val (c := .pointer (some ⟨b1, off1 + ii, none⟩)) (wanted_none rfl) (by go_simp) rfl
                  case o4 => intro aR wR hR; replace hR := hR.undrew; intro v68 h68 e68; replace e68 : v68 = .pointer (some ⟨b1, off1 + ii, none⟩) := e68; subst e68; (have h1 := hR.cell D0.out (by simp)); exact exec_val (c := .slice xa1 xn1 xc1) (wanted_none rfl) (by go_simp) rfl
                  case o5 => intro aR wR hR; replace hR := hR.undrew; intro (h7 : aR.tmps[7]? = some (.slice (some ⟨b1, off1, none⟩) m uc)); exact exec_val (c := .slice (some ⟨b1, off1, none⟩) m uc) (wanted_none rfl) (by go_simp) rfl
                  case o6 => intro aR wR hR; replace hR := hR.undrew; intro (h9 : aR.tmps[9]? = some (.int .i64 (i : Int))); exact exec_val (c := .int .i64 (i : Int)) (wanted_none rfl) (by go_simp) rfl
                  case o7 => intro aR wR hR; replace hR := hR.undrew; intro v70 h70 e70; replace e70 : v70 = .slice (some ⟨b1, off1, none⟩) m uc := e70; subst e70; intro v71 h71 e71; replace e71 : v71 = .int .i64 (i : Int) := e71; subst e71; exact exec_val (c := .pointer (some ⟨b1, off1 + i, none⟩)) (wanted_none rfl) (by go_simp) rfl
                  case o8 => intro aR wR hR; replace hR := hR.undrew; intro v72 h72 e72; replace e72 : v72 = .pointer (some ⟨b1, off1 + i, none⟩) := e72; subst e72; (have h1 := hR.cell D1.out (by simp)); exact exec_val (c := .slice xa2 xn2 xc2) (wanted_none rfl) (by go_simp) rfl
                  case o9 => intro aR wR hR; replace hR := hR.undrew; intro (h2 : aR.tmps[2]? = some (.int .i64 o)); exact exec_val (c := .int .i64 o) (wanted_none rfl) (by go_simp) rfl
                  case o10 => intro aR wR hR; replace hR := hR.undrew; intro v74 h74 e74; replace e74 : v74 = .int .i64 o := e74; subst e74; exact exec_val (c := .agg #[.int .i64 o, .bool false]) (wanted_none rfl) (by go_simp) rfl
                  case o11 => intro aR wR hR; replace hR := hR.undrew; intro v75 h75 e75; replace e75 : v75 = .agg #[.int .i64 o, .bool false] := e75; subst e75; exact exec_do (c := .slice (some ⟨wR.heap.size, 0, none⟩) 1 1) (w' := wR.alloc (.cells #[.int .i64 o, .bool false] 56)) (wanted_none rfl) (by go_simp) ⟨_, _, rfl, rdK_block (l := [⟨o, false⟩]) (t := 56) (heap_alloc_at rfl) rfl (by simp)⟩ ((Kp.refl [] _).alloc _)
                  case o12 => intro aR wR hR; replace hR := hR.undrew; intro v69 h69 e69; replace e69 : v69 = .slice xa1 xn1 xc1 := e69; subst e69; intro v73 h73 e73; replace e73 : v73 = .slice xa2 xn2 xc2 := e73; subst e73; intro v76 h76 e76; refine exec_call (wanted_none rfl) (by go_simp; exact ⟨rfl, rfl⟩) ?_; obtain ⟨ad, cap, rfl, ho5⟩ := e76; refine (HC.out wR ad cap hR ho5).mono ?_; rintro e7 w8 ⟨rfl, kp8⟩; exact ⟨_, rfl, rfl, kp8⟩
                  case o13 => intro aR wR hR; replace hR := hR.undrew; intro v77 h77 e77; replace e77 : v77 = .int .i64 0 := e77; subst e77; exact exec_val (c := .bool true) (wanted_none rfl) (by go_simp) rfl
                · intro vs wR hR hV
                  obtain ⟨e0, e1, e2, e3, e4, e5, e6, e7, e8, e9, e10, e11, e12, e13, -⟩ := hV
                  replace e0 : vs 0 = .slice (some ⟨b1, off1, none⟩) m uc := e0
                  replace e1 : vs 1 = .int .i64 (i : Int) := e1
                  replace e2 : vs 2 = .int .i64 (ii : Int) := e2
                  replace e3 : vs 3 = .pointer (some ⟨b1, off1 + ii, none⟩) := e3
                  replace e4 : vs 4 = .slice xa1 xn1 xc1 := e4
                  replace e5 : vs 5 = .slice (some ⟨b1, off1, none⟩) m uc := e5
                  replace e6 : vs 6 = .int .i64 (i : Int) := e6
                  replace e7 : vs 7 = .pointer (some ⟨b1, off1 + i, none⟩) := e7
                  replace e8 : vs 8 = .slice xa2 xn2 xc2 := e8
                  replace e9 : vs 9 = .int .i64 o := e9
                  replace e10 : vs 10 = .agg #[.int .i64 o, .bool false] := e10
                  replace e12 : vs 12 = .int .i64 0 := e12
                  replace e13 : vs 13 = .bool true := e13
                  simp only [putAll, e0, e1, e2, e3, e4, e5, e6, e7, e8, e9, e10, e12, e13, Nat.reduceAdd, Nat.zero_add]
                  clear e0 e1 e2 e3 e4 e5 e6 e7 e8 e9 e10 e12 e13
                  try simp only [List.setIfInBounds_toArray, List.set_cons_succ, List.set_cons_zero]
                  go_wp2_with fail
                  refine (known27_any _).mono ?_
                  rintro e w5 ⟨rfl, kp5⟩
                  go_wp2_with fail
                  go_ret
                  exact ⟨rfl, ((K3.out.tr HK.out).tr hR).tr kp5⟩
              · have hcb : ((cv : Int) == 0) = false := by simpa using hcv
                have HX2 := Lib.hid (HST.out hcv)
                clear HST hcv
                go_upto_region 10 with (fail)
                refine wp_region_K (by kernel_rfl) [.val (.slice (some ⟨b1, off1, none⟩) m uc), .val (.int .i64 (i : Int)), .val (.int .i64 (ii : Int)), .val (.pointer (some ⟨b1, off1 + ii, none⟩)), .val (.slice xa1 xn1 xc1), .val (.slice (some ⟨b1, off1, none⟩) m uc), .val (.int .i64 (i : Int)), .val (.pointer (some ⟨b1, off1 + i, none⟩)), .val (.slice xa2 xn2 xc2), .val (.int .i64 o), .val (.agg #[.int .i64 o, .bool false]), .keys 1 [⟨o, false⟩], .val (.int .i64 cv), .val (.bool false)] [[(7, none)], [(9, none)], [(66, some 1)], [(65, some 0), (67, some 2)], [(68, some 3)], [(7, none)], [(9, none)], [(70, some 5), (71, some 6)], [(72, some 7)], [(2, none)], [(74, some 9)], [(75, some 10)], [(69, some 4), (73, some 8), (76, some 11)], [(77, some 12)]] rfl (by kernel_rfl) ?_ ?_
                · refine ⟨?o0, ?o1, ?o2, ?o3, ?o4, ?o5, ?o6, ?o7, ?o8, ?o9, ?o10, ?o11, ?o12, ?o13, trivial⟩
                  case o0 => intro aR wR hR; replace hR := hR.undrew; intro (h7 : aR.tmps[7]? = some (.slice (some ⟨b1, off1, none⟩) m uc)); exact exec_val (c := .slice (some ⟨b1, off1, none⟩) m uc) (wanted_none rfl) (by go_simp) rfl
                  case o1 => intro aR wR hR; replace hR := hR.undrew; intro (h9 : aR.tmps[9]? = some (.int .i64 (i : Int))); exact exec_val (c := .int .i64 (i : Int)) (wanted_none rfl) (by go_simp) rfl
                  case o2 => intro aR wR hR; replace hR := hR.undrew; intro v66 h66 e66; replace e66 : v66 = .int .i64 (i : Int) := e66; subst e66; (skip); exact exec_val (c := .int .i64 (ii : Int)) (wanted_none rfl) (by go_simp) rfl
                  case o3 => intro aR wR hR; replace hR := hR.undrew; intro v65 h65 e65; replace e65 : v65 = .slice (some ⟨b1, off1, none⟩) m uc := e65; subst e65; intro v67 h67 e67; replace e67 : v67 = .int .i64 (ii : Int) := e67; subst e67; exact exec_val (c := .pointer (some ⟨b1, off1 + ii, none⟩)) (wanted_none rfl) (by go_simp) rfl
                  case o4 => intro aR wR hR; replace hR := hR.undrew; intro v68 h68 e68; replace e68 : v68 = .pointer (some ⟨b1, off1 + ii, none⟩) := e68; subst e68; (have h1 := hR.cell D0.out (by simp)); exact exec_val (c := .slice xa1 xn1 xc1) (wanted_none rfl) (by go_simp) rfl
                  case o5 => intro aR wR hR; replace hR := hR.undrew; intro (h7 : aR.tmps[7]? = some (.slice (some ⟨b1, off1, none⟩) m uc)); exact exec_val (c := .slice (some ⟨b1, off1, none⟩) m uc) (wanted_none rfl) (by go_simp) rfl
                  case o6 => intro aR wR hR; replace hR := hR.undrew; intro (h9 : aR.tmps[9]? = some (.int .i64 (i : Int))); exact exec_val (c := .int .i64 (i : Int)) (wanted_none rfl) (by go_simp) rfl
                  case o7 => intro aR wR hR; replace hR := hR.undrew; intro v70 h70 e70; replace e70 : v70 = .slice (some ⟨b1, off1, none⟩) m uc := e70; subst e70; intro v71 h71 e71; replace e71 : v71 = .int .i64 (i : Int) := e71; subst e71; exact exec_val (c := .pointer (some ⟨b1, off1 + i, none⟩)) (wanted_none rfl) (by go_simp) rfl
                  case o8 => intro aR wR hR; replace hR := hR.undrew; intro v72 h72 e72; replace e72 : v72 = .pointer (some ⟨b1, off1 + i, none⟩) := e72; subst e72; (have h1 := hR.cell D1.out (by simp)); exact exec_val (c := .slice xa2 xn2 xc2) (wanted_none rfl) (by go_simp) rfl
                  case o9 => intro aR wR hR; replace hR := hR.undrew; intro (h2 : aR.tmps[2]? = some (.int .i64 o)); exact exec_val (c := .int .i64 o) (wanted_none rfl) (by go_simp) rfl
                  case o10 => intro aR wR hR; replace hR := hR.undrew; intro v74 h74 e74; replace e74 : v74 = .int .i64 o := e74; subst e74; exact exec_val (c := .agg #[.int .i64 o, .bool false]) (wanted_none rfl) (by go_simp) rfl
                  case o11 => intro aR wR hR; replace hR := hR.undrew; intro v75 h75 e75; replace e75 : v75 = .agg #[.int .i64 o, .bool false] := e75; subst e75; exact exec_do (c := .slice (some ⟨wR.heap.size, 0, none⟩) 1 1) (w' := wR.alloc (.cells #[.int .i64 o, .bool false] 56)) (wanted_none rfl) (by go_simp) ⟨_, _, rfl, rdK_block (l := [⟨o, false⟩]) (t := 56) (heap_alloc_at rfl) rfl (by simp)⟩ ((Kp.refl [] _).alloc _)
                  case o12 => intro aR wR hR; replace hR := hR.undrew; intro v69 h69 e69; replace e69 : v69 = .slice xa1 xn1 xc1 := e69; subst e69; intro v73 h73 e73; replace e73 : v73 = .slice xa2 xn2 xc2 := e73; subst e73; intro v76 h76 e76; refine exec_call (wanted_none rfl) (by go_simp; exact ⟨rfl, rfl⟩) ?_; obtain ⟨ad, cap, rfl, ho5⟩ := e76; refine (HC.out wR ad cap hR ho5).mono ?_; rintro e7 w8 ⟨rfl, kp8⟩; exact ⟨_, rfl, rfl, kp8⟩
                  case o13 => intro aR wR hR; replace hR := hR.undrew; intro v77 h77 e77; replace e77 : v77 = .int .i64 cv := e77; subst e77; exact exec_val (c := .bool false) (wanted_none rfl) (by go_simp) rfl
                · intro vs wR hR hV
                  obtain ⟨e0, e1, e2, e3, e4, e5, e6, e7, e8, e9, e10, e11, e12, e13, -⟩ := hV
                  replace e0 : vs 0 = .slice (some ⟨b1, off1, none⟩) m uc := e0
                  replace e1 : vs 1 = .int .i64 (i : Int) := e1
                  replace e2 : vs 2 = .int .i64 (ii : Int) := e2
                  replace e3 : vs 3 = .pointer (some ⟨b1, off1 + ii, none⟩) := e3
                  replace e4 : vs 4 = .slice xa1 xn1 xc1 := e4
                  replace e5 : vs 5 = .slice (some ⟨b1, off1, none⟩) m uc := e5
                  replace e6 : vs 6 = .int .i64 (i : Int) := e6
                  replace e7 : vs 7 = .pointer (some ⟨b1, off1 + i, none⟩) := e7
                  replace e8 : vs 8 = .slice xa2 xn2 xc2 := e8
                  replace e9 : vs 9 = .int .i64 o := e9
                  replace e10 : vs 10 = .agg #[.int .i64 o, .bool false] := e10
                  replace e12 : vs 12 = .int .i64 cv := e12
                  replace e13 : vs 13 = .bool false := e13
                  simp only [putAll, e0, e1, e2, e3, e4, e5, e6, e7, e8, e9, e10, e12, e13, Nat.reduceAdd, Nat.zero_add]
                  clear e0 e1 e2 e3 e4 e5 e6 e7 e8 e9 e10 e12 e13
                  try simp only [List.setIfInBounds_toArray, List.set_cons_succ, List.set_cons_zero]
                  go_wp2_with fail
                  go_roundw
                  case rel => exact ⟨i + 1, by omega, hlt, by go_num, HX2, Lib.hid (HK.out.tr hR)⟩
                  case measure => simp [intOf]; omega
            · obtain rfl : i = m := by omega
              have HSAME : Hid (∀ j t, j + t + 1 = i → rowA U j = rowA D t) := Lib.hid (fun j t h => turned_same HUS.out HDS.out (by rw [← HUL.out]; exact HX.out) (by rw [← HUL.out, ← HDL.out]) j t (by rw [← HUL.out]; exact h))
              have HURo := Lib.hid (HUR3.out.keep0 HK.out)
              have HDRo := Lib.hid (HDR.out.keep0 HK.out)
              have KO := Lib.hid (K3.out.tr HK.out)
              go_wp2_with fail
              go_loopw [82] (fun vj wr => ∃ j : Nat, j ≤ i ∧ vj = .int .i64 j ∧ Hid (Kp [] wo wr)) (fun vj _ => i - (intOf vj).toNat)
              case atStart => exact ⟨0, Nat.zero_le _, rfl, Lib.hid (Kp.refl _ _)⟩
              case round =>
                obtain ⟨j, hj, rfl, HKI⟩ := hrel
                obtain ⟨wi, rfl⟩ : ∃ wi : World, wi = wr := ⟨_, rfl⟩
                by_cases hlj : j < i
                · obtain ⟨t, ht⟩ : ∃ t, j + t + 1 = i := ⟨i - j - 1, by omega⟩
                  have htm : t < i := by omega
                  obtain ⟨a1, p1, y1, hs1, rd1, re1⟩ := mid_rows wo ua uc i j U HUL.out hlj HURo.out
                  obtain ⟨a2, p2, y2, hs2, rd2, re2⟩ := mid_rows wo da dc i t D HDL.out htm HDRo.out
                  have hw1 : IntKind.i64.wrap ((j : Int) + 1) = (j : Int) + 1 := IntWalk.i64_in _ (by omega)
                  have hw2 : IntKind.i64.wrap ((i : Int) - 1) = (i : Int) - 1 := IntWalk.i64_in _ (by omega)
                  have hw3 : IntKind.i64.wrap ((i : Int) - 1 - (j : Int)) = (t : Int) := by rw [IntWalk.i64_in _ (by omega)]; omega
                  have hw4 : IntKind.i64.wrap ((i : Int) - (j : Int)) = (t : Int) + 1 := by rw [IntWalk.i64_in _ (by omega)]; omega
                  have HC : Hid (∀ W, Kp [] wi W → Calls Try.prog 28 #[.slice a1 1 p1, .slice a2 1 p2] W fun e w' => e = .returned (.bool true) ∧ Kp [] W w') := Lib.hid (fun W hW => by
                    have := r27Same_any a1 p1 1 [y1] rfl a2 p2 1 [y2] rfl W (rd1.keep0 (HKI.out.tr hW)) (rd2.keep0 (HKI.out.tr hW))
                    rwa [sameR_iff.2 (by simp [re1, re2, HSAME.out j t ht])] at this)
                  clear rd1 rd2 re1 re2
                  go_upto_region 15 with (fail)
                  refine wp_region_K (by kernel_rfl) [.val (.slice ua i uc), .val (.int .i64 (j : Int)), .val (.int .i64 (j : Int)), .val (.int .i64 ((j : Int) + 1)), .val (.slice a1 1 p1), .val (.slice da i dc), .val (.slice da i dc), .val (.int .i64 ((i : Nat) : Int)), .val (.int .i64 ((i : Int) - 1)), .val (.int .i64 (j : Int)), .val (.int .i64 (t : Int)), .val (.slice da i dc), .val (.int .i64 ((i : Nat) : Int)), .val (.int .i64 (j : Int)), .val (.int .i64 ((t : Int) + 1)), .val (.slice a2 1 p2), .val (.bool true), .val (.bool false)] [[(7, none)], [(10, none)], [(10, none)], [(87, some 2)], [(85, some 0), (86, some 1), (88, some 3)], [(8, none)], [(8, none)], [(91, some 6)], [(92, some 7)], [(10, none)], [(93, some 8), (94, some 9)], [(8, none)], [(96, some 11)], [(10, none)], [(97, some 12), (98, some 13)], [(90, some 5), (95, some 10), (99, some 14)], [(89, some 4), (100, some 15)], [(101, some 16)]] rfl (by kernel_rfl) ?_ ?_
                  · refine ⟨?o0, ?o1, ?o2, ?o3, ?o4, ?o5, ?o6, ?o7, ?o8, ?o9, ?o10, ?o11, ?o12, ?o13, ?o14, ?o15, ?o16, ?o17, trivial⟩
                    case o0 => intro aR wR hR; replace hR := hR.undrew; intro (h7 : aR.tmps[7]? = some (.slice ua i uc)); exact exec_val (c := .slice ua i uc) (wanted_none rfl) (by go_simp) rfl
                    case o1 => intro aR wR hR; replace hR := hR.undrew; intro (h10 : aR.tmps[10]? = some (.int .i64 (j : Int))); exact exec_val (c := .int .i64 (j : Int)) (wanted_none rfl) (by go_simp) rfl
                    case o2 => intro aR wR hR; replace hR := hR.undrew; intro (h10 : aR.tmps[10]? = some (.int .i64 (j : Int))); exact exec_val (c := .int .i64 (j : Int)) (wanted_none rfl) (by go_simp) rfl
                    case o3 => intro aR wR hR; replace hR := hR.undrew; intro v87 h87 e87; replace e87 : v87 = .int .i64 (j : Int) := e87; subst e87; (skip); exact exec_val (c := .int .i64 ((j : Int) + 1)) (wanted_none rfl) (by go_simp) rfl
                    case o4 => intro aR wR hR; replace hR := hR.undrew; intro v85 h85 e85; replace e85 : v85 = .slice ua i uc := e85; subst e85; intro v86 h86 e86; replace e86 : v86 = .int .i64 (j : Int) := e86; subst e86; intro v88 h88 e88; replace e88 : v88 = .int .i64 ((j : Int) + 1) := e88; subst e88; (have h1 := hs1 wR); exact exec_val (c := .slice a1 1 p1) (wanted_none rfl) (by go_simp) rfl
                    case o5 => intro aR wR hR; replace hR := hR.undrew; intro (h8 : aR.tmps[8]? = some (.slice da i dc)); exact exec_val (c := .slice da i dc) (wanted_none rfl) (by go_simp) rfl
                    case o6 => intro aR wR hR; replace hR := hR.undrew; intro (h8 : aR.tmps[8]? = some (.slice da i dc)); exact exec_val (c := .slice da i dc) (wanted_none rfl) (by go_simp) rfl
                    case o7 => intro aR wR hR; replace hR := hR.undrew; intro v91 h91 e91; replace e91 : v91 = .slice da i dc := e91; subst e91; exact exec_val (c := .int .i64 ((i : Nat) : Int)) (wanted_none rfl) (by go_simp) rfl
                    case o8 => intro aR wR hR; replace hR := hR.undrew; intro v92 h92 e92; replace e92 : v92 = .int .i64 ((i : Nat) : Int) := e92; subst e92; (skip); exact exec_val (c := .int .i64 ((i : Int) - 1)) (wanted_none rfl) (by go_simp) rfl
                    case o9 => intro aR wR hR; replace hR := hR.undrew; intro (h10 : aR.tmps[10]? = some (.int .i64 (j : Int))); exact exec_val (c := .int .i64 (j : Int)) (wanted_none rfl) (by go_simp) rfl
                    case o10 => intro aR wR hR; replace hR := hR.undrew; intro v93 h93 e93; replace e93 : v93 = .int .i64 ((i : Int) - 1) := e93; subst e93; intro v94 h94 e94; replace e94 : v94 = .int .i64 (j : Int) := e94; subst e94; (skip); exact exec_val (c := .int .i64 (t : Int)) (wanted_none rfl) (by go_simp) rfl
                    case o11 => intro aR wR hR; replace hR := hR.undrew; intro (h8 : aR.tmps[8]? = some (.slice da i dc)); exact exec_val (c := .slice da i dc) (wanted_none rfl) (by go_simp) rfl
                    case o12 => intro aR wR hR; replace hR := hR.undrew; intro v96 h96 e96; replace e96 : v96 = .slice da i dc := e96; subst e96; exact exec_val (c := .int .i64 ((i : Nat) : Int)) (wanted_none rfl) (by go_simp) rfl
                    case o13 => intro aR wR hR; replace hR := hR.undrew; intro (h10 : aR.tmps[10]? = some (.int .i64 (j : Int))); exact exec_val (c := .int .i64 (j : Int)) (wanted_none rfl) (by go_simp) rfl
                    case o14 => intro aR wR hR; replace hR := hR.undrew; intro v97 h97 e97; replace e97 : v97 = .int .i64 ((i : Nat) : Int) := e97; subst e97; intro v98 h98 e98; replace e98 : v98 = .int .i64 (j : Int) := e98; subst e98; (skip); exact exec_val (c := .int .i64 ((t : Int) + 1)) (wanted_none rfl) (by go_simp) rfl
                    case o15 => intro aR wR hR; replace hR := hR.undrew; intro v90 h90 e90; replace e90 : v90 = .slice da i dc := e90; subst e90; intro v95 h95 e95; replace e95 : v95 = .int .i64 (t : Int) := e95; subst e95; intro v99 h99 e99; replace e99 : v99 = .int .i64 ((t : Int) + 1) := e99; subst e99; (have h1 := hs2 wR); exact exec_val (c := .slice a2 1 p2) (wanted_none rfl) (by go_simp) rfl
                    case o16 => intro aR wR hR; replace hR := hR.undrew; intro v89 h89 e89; replace e89 : v89 = .slice a1 1 p1 := e89; subst e89; intro v100 h100 e100; replace e100 : v100 = .slice a2 1 p2 := e100; subst e100; refine exec_call (wanted_none rfl) (by go_simp; exact ⟨rfl, rfl⟩) ?_; refine (HC.out wR hR).mono ?_; rintro e7 w8 ⟨rfl, kp8⟩; exact ⟨_, rfl, rfl, kp8⟩
                    case o17 => intro aR wR hR; replace hR := hR.undrew; intro v101 h101 e101; replace e101 : v101 = .bool true := e101; subst e101; exact exec_val (c := .bool false) (wanted_none rfl) (by go_simp) rfl
                  · intro vs wR hR hV
                    obtain ⟨e0, e1, e2, e3, e4, e5, e6, e7, e8, e9, e10, e11, e12, e13, e14, e15, e16, e17, -⟩ := hV
                    replace e0 : vs 0 = .slice ua i uc := e0
                    replace e1 : vs 1 = .int .i64 (j : Int) := e1
                    replace e2 : vs 2 = .int .i64 (j : Int) := e2
                    replace e3 : vs 3 = .int .i64 ((j : Int) + 1) := e3
                    replace e4 : vs 4 = .slice a1 1 p1 := e4
                    replace e5 : vs 5 = .slice da i dc := e5
                    replace e6 : vs 6 = .slice da i dc := e6
                    replace e7 : vs 7 = .int .i64 ((i : Nat) : Int) := e7
                    replace e8 : vs 8 = .int .i64 ((i : Int) - 1) := e8
                    replace e9 : vs 9 = .int .i64 (j : Int) := e9
                    replace e10 : vs 10 = .int .i64 (t : Int) := e10
                    replace e11 : vs 11 = .slice da i dc := e11
                    replace e12 : vs 12 = .int .i64 ((i : Nat) : Int) := e12
                    replace e13 : vs 13 = .int .i64 (j : Int) := e13
                    replace e14 : vs 14 = .int .i64 ((t : Int) + 1) := e14
                    replace e15 : vs 15 = .slice a2 1 p2 := e15
                    replace e16 : vs 16 = .bool true := e16
                    replace e17 : vs 17 = .bool false := e17
                    simp only [putAll, e0, e1, e2, e3, e4, e5, e6, e7, e8, e9, e10, e11, e12, e13, e14, e15, e16, e17, Nat.reduceAdd, Nat.zero_add]
                    clear e0 e1 e2 e3 e4 e5 e6 e7 e8 e9 e10 e11 e12 e13 e14 e15 e16 e17
                    try simp only [List.setIfInBounds_toArray, List.set_cons_succ, List.set_cons_zero]
                    go_wp2_with fail
                    go_roundw
                    case rel => exact ⟨j + 1, hlj, by go_num, Lib.hid (HKI.out.tr hR)⟩
                    case measure => simp [intOf]; omega
                · obtain rfl : j = i := by omega
                  go_wp2_with fail
                  refine (known27_any _).mono ?_
                  rintro e w5 ⟨rfl, kp5⟩
                  go_wp2_with fail
                  go_ret
                  exact ⟨rfl, (KO.out.tr HKI.out).tr kp5⟩
end Go.Proofs.Ytfacpfogdcefpaa
