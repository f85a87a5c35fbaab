/-
  Star-trees: the document's May.
-/
import Derived.Test.YthmaobmgogmaoaaStbD
namespace Go.Proofs.Ythmaobmgogmaoaa
open Go.RowKit Go.Shelf
set_option linter.unusedSimpArgs false
set_option linter.unusedVariables false
set_option maxRecDepth 100000

theorem all_step {p : Nat → Bool} {j : Nat} (h : (List.range j).all p = true) (hj : p j = true) : (List.range (j + 1)).all p = true := by
  rw [List.range_succ, List.all_append, h]; simp [hj]
theorem all_miss {p : Nat → Bool} {n j : Nat} (hj : j < n) (h : p j = false) : (List.range n).all p = false := by
  rw [List.all_eq_false]
  exact ⟨j, by simpa using hj, by simp [h]⟩
theorem any_take {m : Int} {l : List Int} {k : Nat} (hk : k < l.length) (h : (l.take k).any (oddI m) = false) (hx : oddI m (nth l k) = false) : (l.take (k + 1)).any (oddI m) = false := by
  rw [take_nth1 l k hk, List.any_append, h]; simp [hx]
theorem any_here {m : Int} {l : List Int} {k : Nat} (hk : k < l.length) (hx : oddI m (nth l k) = true) : l.any (oddI m) = true :=
  List.any_eq_true.2 ⟨nth l k, nth_mem hk, hx⟩

set_option maxHeartbeats 3200000 in
theorem r19May_any (sa : Option Addr) (sn sc : Nat) (S : List Ih) (hS : sn = S.length) (ma : Option Addr) (mn mc : Nat) (many : List Int) (hM : mn = many.length) (da : Option Addr) (dn dc : Nat) (D : List Ih) (hD : dn = D.length) (leaf : Int) (w : World) (hs : RdI w sa sc S) (hm : Rd w .i64 ma mc many) (hd : RdI w da dc D) :
    Calls Try.prog 19 #[.slice sa sn sc, .slice ma mn mc, .slice da dn dc, .int .i64 leaf] w fun e w' => e = .returned (.bool (mayS (lis S) many (lis D) leaf)) ∧ Kp [] w w' := by
  have HS := Lib.hid hs
  have HM := Lib.hid hm
  have HD := Lib.hid hd
  have HSN := Lib.hid hS
  have HMN := Lib.hid hM
  have HDN := Lib.hid hD
  have hmc : mn ≤ mc := by rw [hM]; exact hm.1
  have hmc2 := hm.2.1
  have hsc : sn ≤ sc := by rw [hS]; exact hs.1.1
  have hsc2 := hs.1.2.1
  have hdc : dn ≤ dc := by rw [hD]; exact hd.1.1
  have hdc2 := hd.1.2.1
  have HV : Hid (mayS (lis S) many (lis D) leaf = (headOk sn mn dn leaf && ((List.range sn).all (colOk (lis S) many) && !(lis D).any (fun l => decide (l.length ≠ (rowP (lis S) 0).length))))) := Lib.hid (by
    unfold mayS
    rw [hS, hM, hD]; simp [lis])
  clear hs hm hd hS hM hD
  generalize mayS (lis S) many (lis D) leaf = v at *
  have HNO : Hid (¬ (1 ≤ sn ∧ sn ≤ 8 ∧ mn = sn ∧ dn ≤ 256 ∧ 1 ≤ leaf ∧ leaf ≤ 1000000) → v = false) := Lib.hid (fun h => by rw [HV.out, headOk, decide_eq_false h]; rfl)
  go_enter Try.func19, Try.ntmps19
  by_cases h1 : (sn : Int) < 1
  · have HF := Lib.hid (HNO.out (by omega))
    go_wp2_with fail
    go_ret
    exact ⟨by rw [HF.out]; rfl, Kp.refl _ _⟩
  by_cases h2 : (8 : Int) < (sn : Int)
  · have HF := Lib.hid (HNO.out (by omega))
    go_wp2_with fail
    go_ret
    exact ⟨by rw [HF.out]; rfl, Kp.refl _ _⟩
  by_cases h3 : mn = sn
  rotate_left
  · have HF := Lib.hid (HNO.out (by omega))
    have h3b : ((mn : Int) != (sn : Int)) = true := by simp; omega
    go_wp2_with fail
    go_ret
    exact ⟨by rw [HF.out]; rfl, Kp.refl _ _⟩
  subst h3
  have h3b : ((mn : Int) != (mn : Int)) = false := by simp
  by_cases h4 : (256 : Int) < (dn : Int)
  · have HF := Lib.hid (HNO.out (by omega))
    go_wp2_with fail
    go_ret
    exact ⟨by rw [HF.out]; rfl, Kp.refl _ _⟩
  by_cases h5 : leaf < 1
  · have HF := Lib.hid (HNO.out (by omega))
    go_wp2_with fail
    go_ret
    exact ⟨by rw [HF.out]; rfl, Kp.refl _ _⟩
  by_cases h6 : (1000000 : Int) < leaf
  · have HF := Lib.hid (HNO.out (by omega))
    go_wp2_with fail
    go_ret
    exact ⟨by rw [HF.out]; rfl, Kp.refl _ _⟩
  have HV2 : Hid (v = ((List.range mn).all (colOk (lis S) many) && !(lis D).any (fun l => decide (l.length ≠ (rowP (lis S) 0).length)))) := Lib.hid (by
    rw [HV.out, headOk, decide_eq_true (by omega)]; rfl)
  clear HNO HV
  have hSl : 0 < S.length := by have := HSN.out; omega
  obtain ⟨b, off, ra, r0, rc0, rfl, d00, hr0, -⟩ := HS.out.at' 0 hSl
  replace d00 : w.cell? ⟨b, off, none⟩ = some (.slice ra r0 rc0) := d00
  have D00 := Lib.hid d00
  have HR0 := Lib.hid hr0
  clear hr0 hSl d00
  go_wp2_with fail
  go_loopw [9] (fun vj wr => ∃ j : Nat, j ≤ mn ∧ vj = .int .i64 j ∧ Hid ((List.range j).all (colOk (lis S) many) = true) ∧ Hid (Kp [] w wr)) (fun vj _ => mn - (intOf vj).toNat)
  case atStart => exact ⟨0, Nat.zero_le _, rfl, Lib.hid rfl, Lib.hid (Kp.refl _ _)⟩
  case round =>
    obtain ⟨j, hj, rfl, HA, HK⟩ := hrel
    obtain ⟨wo, rfl⟩ : ∃ wo : World, wo = wr := ⟨_, rfl⟩
    by_cases hlt : j < mn
    · have hjS : j < S.length := by rw [← HSN.out]; exact hlt
      have hjM : j < many.length := by rw [← HMN.out]; exact hlt
      obtain ⟨b', off', xa, xn, xc, hq, d0, hxn, hxr⟩ := (HS.out.keep0 HK.out).at' j hjS
      cases hq
      obtain ⟨b2, off2, rfl, e0⟩ := (HM.out.keep0 HK.out).2.2 j hjM
      have d1 := HK.out.cell D00.out (by simp)
      have HXR := Lib.hid hxr
      have HSTEP : Hid (colOk (lis S) many j = true → (List.range (j + 1)).all (colOk (lis S) many) = true) := Lib.hid (all_step HA.out)
      have HBAD : Hid (colOk (lis S) many j = false → v = false) := Lib.hid (fun h => by rw [HV2.out, all_miss hlt h]; rfl)
      have HCO : Hid (colOk (lis S) many j = (decide (0 ≤ nth many j) && (decide (nth many j ≤ 16777216) && (decide (xn = r0) && !(rowP (lis S) j).any (oddI (nth many j)))))) := Lib.hid (by
        unfold colOk; rw [← hxn, ← HR0.out])
      obtain ⟨m, hm⟩ : ∃ m, m = nth many j := ⟨_, rfl⟩
      rw [← hm] at e0 HCO
      have HXN := Lib.hid hxn
      have hxc : xn ≤ xc := by rw [hxn]; exact hxr.1
      have hxc2 := hxr.2.1
      have E0 := Lib.hid e0
      have D0 := Lib.hid d0
      clear hxn hxr hm hjS hjM
      by_cases g3 : xn = r0
      rotate_left
      · have HF := Lib.hid (HBAD.out (by rw [HCO.out, decide_eq_false g3]; simp))
        have g3b : ((xn : Int) != (r0 : Int)) = true := by simp; omega
        go_wp2_with go_quiet (fail)
        go_ret
        exact ⟨by rw [HF.out]; rfl, HK.out.tr (kdNs _ _)⟩
      have g3b : ((xn : Int) != (r0 : Int)) = false := by simp [g3]
      by_cases g1 : m < 0
      · have HF := Lib.hid (HBAD.out (by rw [HCO.out, decide_eq_false (by omega)]; rfl))
        have g1b : decide (m < 0) = true := decide_eq_true g1
        go_wp2_with go_quiet (fail)
        go_ret
        exact ⟨by rw [HF.out]; rfl, HK.out.tr (kdNs _ _)⟩
      have g1b : decide (m < 0) = false := decide_eq_false g1
      by_cases g2 : (16777216 : Int) < m
      · have HF := Lib.hid (HBAD.out (by rw [HCO.out, decide_eq_false (p := m ≤ 16777216) (by omega)]; simp))
        have g2b : decide ((16777216 : Int) < m) = true := decide_eq_true g2
        go_wp2_with go_quiet (fail)
        go_ret
        exact ⟨by rw [HF.out]; rfl, HK.out.tr (kdNs _ _)⟩
      have g2b : decide ((16777216 : Int) < m) = false := decide_eq_false g2
      have HCO2 : Hid (colOk (lis S) many j = !(rowP (lis S) j).any (oddI m)) := Lib.hid (by
        rw [HCO.out, decide_eq_true (by omega), decide_eq_true (by omega), decide_eq_true g3]; rfl)
      clear HCO g3
      obtain ⟨l, hl⟩ : ∃ l, l = rowP (lis S) j := ⟨_, rfl⟩
      rw [← hl] at HCO2 HXN HXR
      go_upto_region 6 with (fail)
      go_cut [69] (fun v69 wx => v69 = .bool false ∧ Hid (Kp [] wo wx))
      case first =>
        go_wp2_with go_quiet (fail)
        go_meet
        exact ⟨by first | rfl | simp_all, Lib.hid (kdNs _ _)⟩
      obtain ⟨rfl, HK6⟩ := hcut
      obtain ⟨w6, rfl⟩ : ∃ w6 : World, w6 = wc := ⟨_, rfl⟩
      clear d0 d1 e0
      go_wp2_with fail
      go_loopw [10] (fun vi wr => ∃ i : Nat, i ≤ xn ∧ vi = .int .i64 i ∧ Hid ((l.take i).any (oddI m) = false) ∧ Hid (Kp [] wo wr)) (fun vi _ => xn - (intOf vi).toNat)
      case atStart => exact ⟨0, Nat.zero_le _, rfl, Lib.hid (by simp), HK6⟩
      case round =>
        obtain ⟨i, hi, rfl, HB, HKI⟩ := hrel
        obtain ⟨wi, rfl⟩ : ∃ wi : World, wi = wr := ⟨_, rfl⟩
        have d0 := HKI.out.cell D0.out (by simp)
        have e0 := HKI.out.cell E0.out (by simp)
        by_cases hli : i < xn
        · have hil : i < l.length := by rw [← HXN.out]; exact hli
          obtain ⟨b3, off3, rfl, f0⟩ := (HXR.out.keep0 HKI.out).2.2 i hil
          have HNX : Hid (oddI m (nth l i) = false → (l.take (i + 1)).any (oddI m) = false) := Lib.hid (any_take hil HB.out)
          have HYS : Hid (oddI m (nth l i) = true → v = false) := Lib.hid (fun h => HBAD.out (by rw [HCO2.out, any_here hil h]; rfl))
          obtain ⟨x, hx⟩ : ∃ x, x = nth l i := ⟨_, rfl⟩
          rw [← hx] at f0 HNX HYS
          clear hx hil
          by_cases k1 : x < 0
          · have HF := Lib.hid (HYS.out (by simp [oddI, k1]))
            have k1b : decide (x < 0) = true := decide_eq_true k1
            go_wp2_with go_quiet (fail)
            go_ret
            exact ⟨by rw [HF.out]; rfl, (HK.out.tr HKI.out).tr (kdNs _ _)⟩
          have k1b : decide (x < 0) = false := decide_eq_false k1
          by_cases k2 : m ≤ x
          · have HF := Lib.hid (HYS.out (by simp [oddI, k2]))
            have k2b : decide (m ≤ x) = true := decide_eq_true k2
            go_wp2_with go_quiet (fail)
            go_ret
            exact ⟨by rw [HF.out]; rfl, (HK.out.tr HKI.out).tr (kdNs _ _)⟩
          have k2b : decide (m ≤ x) = false := decide_eq_false k2
          have HN2 := Lib.hid (HNX.out (by simp [oddI]; omega))
          clear k1 k2
          go_wp2_with go_quiet (fail)
          go_roundw
          case rel => exact ⟨i + 1, hli, by go_num, HN2, Lib.hid (HKI.out.tr (kdNs _ _))⟩
          case measure => simp [intOf]; omega
        · obtain rfl : i = xn := by omega
          have HN2 : Hid ((List.range (j + 1)).all (colOk (lis S) many) = true) := Lib.hid (HSTEP.out (by
            have := HB.out
            rw [List.take_of_length_le (by rw [HXN.out]; exact Nat.le_refl _)] at this
            rw [HCO2.out, this]; rfl))
          go_wp2_with fail
          go_roundw
          case rel => exact ⟨j + 1, hlt, by go_num, HN2, Lib.hid (HK.out.tr HKI.out)⟩
          case measure => simp [intOf]; omega
    · obtain rfl : j = mn := by omega
      have HV3 : Hid (v = !(lis D).any (fun l => decide (l.length ≠ r0))) := Lib.hid (by rw [HV2.out, HA.out, ← HR0.out]; rfl)
      go_wp2_with fail
      go_loopw [11] (fun vt wr => ∃ t : Nat, t ≤ dn ∧ vt = .int .i64 t ∧ Hid (((lis D).take t).any (fun l => decide (l.length ≠ r0)) = false) ∧ Hid (Kp [] wo wr)) (fun vt _ => dn - (intOf vt).toNat)
      case atStart => exact ⟨0, Nat.zero_le _, rfl, Lib.hid (by simp), Lib.hid (Kp.refl _ _)⟩
      case round =>
        obtain ⟨t, ht, rfl, HB, HKT⟩ := hrel
        obtain ⟨wt, rfl⟩ : ∃ wt : World, wt = wr := ⟨_, rfl⟩
        by_cases hlt2 : t < dn
        · have htD : t < D.length := by rw [← HDN.out]; exact hlt2
          have hkw := HK.out.tr HKT.out
          obtain ⟨b3, off3, xa, xn, xc, rfl, e0, hxn, hxr⟩ := (HD.out.keep0 hkw).at' t htD
          have d1 := hkw.cell D00.out (by simp)
          have HG := Lib.hid (lis_get D htD)
          have hxc : xn ≤ xc := by rw [hxn]; exact hxr.1
          have hxc2 := hxr.2.1
          have HXN := Lib.hid hxn
          clear hxn hxr htD hkw
          by_cases g3 : xn = r0
          · have g3b : ((xn : Int) != (r0 : Int)) = false := by simp [g3]
            have HN2 := Lib.hid (any_step HG.out HB.out (decide_eq_false (by rw [← HXN.out]; omega)))
            clear g3
            go_wp2_with go_quiet (fail)
            go_roundw
            case rel => exact ⟨t + 1, hlt2, by go_num, HN2, Lib.hid (HKT.out.tr (kdNs _ _))⟩
            case measure => simp [intOf]; omega
          · have g3b : ((xn : Int) != (r0 : Int)) = true := by simp; omega
            have HF : Hid (v = false) := Lib.hid (by rw [HV3.out, any_hit HG.out (decide_eq_true (by rw [← HXN.out]; omega))]; rfl)
            go_wp2_with go_quiet (fail)
            go_ret
            exact ⟨by rw [HF.out]; rfl, (HK.out.tr HKT.out).tr (kdNs _ _)⟩
        · obtain rfl : t = dn := by omega
          have HF : Hid (v = true) := Lib.hid (by
            have := HB.out
            rw [List.take_of_length_le (by rw [HDN.out]; simp [lis])] at this
            rw [HV3.out, this]; rfl)
          go_wp2_with fail
          go_ret
          exact ⟨by rw [HF.out]; rfl, HK.out.tr HKT.out⟩
end Go.Proofs.Ythmaobmgogmaoaa
