/-
  Star-trees: whether one may be made, walked.
-/
import Derived.Test.YthmaobmgogmaoaaStaI
namespace Go.Proofs.Ythmaobmgogmaoaa
open Go.RowKit Go.Shelf
set_option linter.unusedSimpArgs false
set_option linter.unusedVariables false
set_option maxRecDepth 100000

def colOk (S : List (List Int)) (many : List Int) (j : Nat) : Bool := decide (0 ≤ nth many j) && (decide (nth many j ≤ 16777216) && (decide ((rowP S j).length = (rowP S 0).length) && !(rowP S j).any (oddI (nth many j))))
/-- What of the whole may be. -/
def headOk (sn mn dn : Nat) (leaf : Int) : Bool := decide (1 ≤ sn ∧ sn ≤ 8 ∧ mn = sn ∧ dn ≤ 256 ∧ 1 ≤ leaf ∧ leaf ≤ 1000000)
def mayS (S : List (List Int)) (many : List Int) (M : List (List Int)) (leaf : Int) : Bool := headOk S.length many.length M.length leaf && ((List.range S.length).all (colOk S many) && !M.any (fun l => decide (l.length ≠ (rowP S 0).length)))

theorem any_len (r0 : Nat) : ∀ (L : List Ih), (∀ x ∈ L, x.n = x.l.length) → L.any (fun x => decide ((x.n : Int) ≠ (r0 : Int))) = L.any ((fun l => decide (l.length ≠ r0)) ∘ fun x => x.l)
  | [], _ => rfl
  | x :: L, h => by
    rw [List.any_cons, List.any_cons, any_len r0 L (fun y hy => h y (by simp [hy]))]
    have e : decide ((x.n : Int) ≠ (r0 : Int)) = decide (x.l.length ≠ r0) := by rw [h x (by simp)]; exact decide_eq_decide.2 (by omega)
    rw [e]; rfl

set_option maxHeartbeats 3200000 in
theorem stMay_any (sa : Option Addr) (sn sc : Nat) (S : List Ih) (hS : sn = S.length) (ma : Option Addr) (mn mc : Nat) (many : List Int) (hM : mn = many.length) (da : Option Addr) (dn dc : Nat) (D : List Ih) (hD : dn = D.length) (leaf : Int) (w : World) (hs : RdI w sa sc S) (hm : Rd w .i64 ma mc many) (hd : RdI w da dc D) :
    Calls Try.prog 35 #[.slice sa sn sc, .slice ma mn mc, .slice da dn dc, .int .i64 leaf] w fun e w' => e = .returned (.bool (mayS (lis S) many (lis D) leaf)) ∧ Kp [] w w' := by
  have HS := Lib.hid hs
  have HM := Lib.hid hm
  have HD := Lib.hid hd
  have HSN := Lib.hid hS
  have HMN := Lib.hid hM
  have HDN := Lib.hid hD
  have hmc : mn ≤ mc := by rw [hM]; exact hm.1
  have hmc2 := hm.2.1
  have HV : Hid (mayS (lis S) many (lis D) leaf = (headOk sn mn dn leaf && ((List.range sn).all (colOk (lis S) many) && !(lis D).any (fun l => decide (l.length ≠ (rowP (lis S) 0).length))))) := Lib.hid (by
    unfold mayS
    rw [hS, hM, hD]; simp [lis])
  clear hs hm hd hS hM hD
  generalize mayS (lis S) many (lis D) leaf = v at *
  have HNO : Hid (¬ (1 ≤ sn ∧ sn ≤ 8 ∧ mn = sn ∧ dn ≤ 256 ∧ 1 ≤ leaf ∧ leaf ≤ 1000000) → v = false) := Lib.hid (fun h => by rw [HV.out, headOk, decide_eq_false h]; rfl)
  go_enter Try.func35, Try.ntmps35
  by_cases h1 : (sn : Int) < 1
  · have HF := Lib.hid (HNO.out (by omega))
    go_wp2_with fail
    go_ret
    exact ⟨by rw [HF.out]; rfl, (Kp.refl [] w).alloc _⟩
  by_cases h2 : (8 : Int) < (sn : Int)
  · have HF := Lib.hid (HNO.out (by omega))
    go_wp2_with fail
    go_ret
    exact ⟨by rw [HF.out]; rfl, (Kp.refl [] w).alloc _⟩
  by_cases h3 : mn = sn
  · subst h3
    have h3b : ((mn : Int) != (mn : Int)) = false := by simp
    by_cases h4 : (256 : Int) < (dn : Int)
    · have HF := Lib.hid (HNO.out (by omega))
      go_wp2_with fail
      go_ret
      exact ⟨by rw [HF.out]; rfl, (Kp.refl [] w).alloc _⟩
    by_cases h5 : leaf < 1
    · have HF := Lib.hid (HNO.out (by omega))
      go_wp2_with fail
      go_ret
      exact ⟨by rw [HF.out]; rfl, (Kp.refl [] w).alloc _⟩
    by_cases h6 : (1000000 : Int) < leaf
    · have HF := Lib.hid (HNO.out (by omega))
      go_wp2_with fail
      go_ret
      exact ⟨by rw [HF.out]; rfl, (Kp.refl [] w).alloc _⟩
    have HV2 : Hid (v = ((List.range mn).all (colOk (lis S) many) && !(lis D).any (fun l => decide (l.length ≠ (rowP (lis S) 0).length)))) := Lib.hid (by
      rw [HV.out, headOk, decide_eq_true (by omega)]; rfl)
    clear HNO HV
    go_upto_region 3 with (fail)
    obtain ⟨p, hp⟩ : ∃ p, p = w.heap.size := ⟨_, rfl⟩
    obtain ⟨w1, hw1⟩ : ∃ w1, w1 = w.alloc (Obj.cells #[Value.slice ma mn mc] 23) := ⟨_, rfl⟩
    have k1 : Kp [] w w1 := by rw [hw1]; exact (Kp.refl [] w).alloc _
    have hp1 : w1.heap[p]? = some (.cells #[Value.slice ma mn mc] 23) := by rw [hw1]; exact heap_alloc_at hp
    rw [← hw1, ← hp]
    have hSl : 0 < S.length := by have := HSN.out; omega
    obtain ⟨b, off, ra, r0, rc0, rfl, d0, hr0, -⟩ := (HS.out.keep0 k1).at' 0 hSl
    replace d0 : w1.cell? ⟨b, off, none⟩ = some (.slice ra r0 rc0) := d0
    have K1 := Lib.hid k1
    have HP1 := Lib.hid hp1
    have HR0 := Lib.hid hr0
    clear hw1 hp k1 hp1 hr0 hSl
    go_upto_region 4 with (fail)
    obtain ⟨r, hr⟩ : ∃ r, r = w1.heap.size := ⟨_, rfl⟩
    rw [← hr]
    generalize hz : w1.alloc (Obj.cells _ _) = w2
    have hr2 : w2.cell? ⟨r, 0, none⟩ = some (.int .i64 (r0 : Int)) := by
      rw [← hz, cell_of_row _ r 0 _ _ _ (heap_alloc_at hr)]; rfl
    have k2 : Kp [] w1 w2 := by rw [← hz]; exact (Kp.refl [] w1).alloc _
    have HR2 := Lib.hid hr2
    have K2 := Lib.hid (K1.out.tr k2)
    have HP2 : Hid (w2.cell? ⟨p, 0, none⟩ = some (.slice ma mn mc)) := Lib.hid (by rw [cell_of_row w2 p 0 _ _ _ (k2.get HP1.out (by simp))]; rfl)
    clear hz hr2 k2 d0 hr HP1
    go_wp2_with fail
    go_loopw [47] (fun vj wr => ∃ j : Nat, j ≤ mn ∧ vj = .int .i64 j ∧ Hid ((List.range j).all (colOk (lis S) many) = true) ∧ Hid (Kp [] w2 wr)) (fun vj _ => mn - (intOf vj).toNat)
    case atStart => exact ⟨0, Nat.zero_le _, rfl, Lib.hid rfl, Lib.hid (Kp.refl _ _)⟩
    case round =>
      obtain ⟨j, hj, rfl, HA, HK⟩ := hrel
      obtain ⟨wo, rfl⟩ : ∃ wo : World, wo = wr := ⟨_, rfl⟩
      by_cases hlt : j < mn
      · have hjS : j < S.length := by rw [← HSN.out]; exact hlt
        have hjM : j < many.length := by rw [← HMN.out]; exact hlt
        obtain ⟨b', off', xa, xn, xc, hq, d0, hxn, hxr⟩ := (HS.out.keep0 (K2.out.tr HK.out)).at' j hjS
        cases hq
        obtain ⟨b2, off2, rfl, e0⟩ := (HM.out.keep0 (K2.out.tr HK.out)).2.2 j hjM
        have HXR := Lib.hid hxr
        have HSTEP : Hid (colOk (lis S) many j = true → (List.range (j + 1)).all (colOk (lis S) many) = true) := Lib.hid (fun h => by
          rw [List.range_succ, List.all_append, HA.out]; simp [h])
        have HBAD : Hid (colOk (lis S) many j = false → v = false) := Lib.hid (fun h => by
          rw [HV2.out]
          have : (List.range mn).all (colOk (lis S) many) = false := by
            rw [List.all_eq_false]
            exact ⟨j, by simpa using hlt, by simp [h]⟩
          rw [this]; rfl)
        have HCO : Hid (colOk (lis S) many j = (decide (0 ≤ nth many j) && (decide (nth many j ≤ 16777216) && (decide (xn = r0) && !(rowP (lis S) j).any (oddI (nth many j)))))) := Lib.hid (by
          unfold colOk; rw [← hxn, ← HR0.out])
        obtain ⟨m, hm⟩ : ∃ m, m = nth many j := ⟨_, rfl⟩
        have HMJ := Lib.hid hm
        rw [← hm] at e0 HCO
        have hpc := HK.out.cell HP2.out (by simp)
        have hrc := HK.out.cell HR2.out (by simp)
        have HXN := Lib.hid hxn
        have HKW := Lib.hid (K2.out.tr HK.out)
        have hxc : xn ≤ xc := by rw [hxn]; exact hxr.1
        clear hxn hxr hm hjS hjM
        go_upto_region 8 with (fail)
        obtain ⟨q, hq⟩ : ∃ q, q = wo.heap.size := ⟨_, rfl⟩
        rw [← hq]
        generalize hz : wo.alloc (Obj.cells _ _) = w4
        have hq4 : w4.cell? ⟨q, 0, none⟩ = some (.int .i64 (j : Int)) := by
          rw [← hz, cell_of_row _ q 0 _ _ _ (heap_alloc_at hq)]; rfl
        have k4 : Kp [] wo w4 := by rw [← hz]; exact (Kp.refl [] wo).alloc _
        have hpc4 := k4.cell hpc (by simp)
        have hrc4 := k4.cell hrc (by simp)
        have e04 := k4.cell e0 (by simp)
        have K4 := Lib.hid k4
        have HQ4 := Lib.hid hq4
        have HPC := Lib.hid hpc4
        clear hz hq k4 hpc hrc e0 d0
        by_cases g1 : m < 0
        · have HF := Lib.hid (HBAD.out (by rw [HCO.out, decide_eq_false (by omega)]; rfl))
          go_wp2_with fail
          go_ret
          exact ⟨by rw [HF.out]; rfl, HKW.out.tr K4.out⟩
        by_cases g2 : (16777216 : Int) < m
        · have HF := Lib.hid (HBAD.out (by rw [HCO.out, decide_eq_false (p := m ≤ 16777216) (by omega)]; simp))
          go_wp2_with fail
          go_ret
          exact ⟨by rw [HF.out]; rfl, HKW.out.tr K4.out⟩
        by_cases g3 : xn = r0
        · have HCO2 : Hid (colOk (lis S) many j = !(rowP (lis S) j).any (oddI m)) := Lib.hid (by
            rw [HCO.out, decide_eq_true (by omega), decide_eq_true (by omega), decide_eq_true g3]; rfl)
          have g3b : ((xn : Int) != (r0 : Int)) = false := by simp [g3]
          have hct := Lib.hid (contI_any xa xc xn _ HXN.out 52 #[.pointer (some ⟨p, 0, none⟩), .pointer (some ⟨q, 0, none⟩)] (oddI m) w4 (HXR.out.keep0 K4.out) (enters_of (P := Try.prog) Try.func52 (by kernel_rfl) rfl) (fun x hx W hW => by
            have := stMay1_any x (some ⟨b2, off2, none⟩) mc mn many HMN.out j p q hlt W (HM.out.keep0 ((HKW.out.tr K4.out).tr hW)) (hW.cell HPC.out (by simp)) (hW.cell HQ4.out (by simp))
            rw [← HMJ.out] at this
            exact this))
          generalize (rowP (lis S) j).any (oddI m) = od at *
          clear g3 HXN HCO
          go_wp2_with fail
          refine hct.out.mono ?_
          rintro e w5 ⟨rfl, kp5⟩
          cases od
          · have HX2 := Lib.hid (HSTEP.out (by rw [HCO2.out]; rfl))
            go_wp2_with fail
            go_roundw
            case rel => exact ⟨j + 1, hlt, by go_num, HX2, Lib.hid ((HK.out.tr K4.out).tr kp5)⟩
            case measure => simp [intOf]; omega
          · have HF := Lib.hid (HBAD.out (by rw [HCO2.out]; rfl))
            go_wp2_with fail
            go_ret
            exact ⟨by rw [HF.out]; rfl, (HKW.out.tr K4.out).tr kp5⟩
        · have HF := Lib.hid (HBAD.out (by rw [HCO.out, decide_eq_false g3]; simp))
          have g3b : ((xn : Int) != (r0 : Int)) = true := by simp; omega
          go_wp2_with fail
          go_ret
          exact ⟨by rw [HF.out]; rfl, HKW.out.tr K4.out⟩
      · obtain rfl : j = mn := by omega
        have HF : Hid (v = !(lis D).any (fun l => decide (l.length ≠ r0))) := Lib.hid (by rw [HV2.out, HA.out, ← HR0.out]; rfl)
        have HKW := Lib.hid (K2.out.tr HK.out)
        have hct := Lib.hid (contM_any da dc dn D HDN.out 55 #[.pointer (some ⟨r, 0, none⟩)] (fun x => decide ((x.n : Int) ≠ (r0 : Int))) wo (HD.out.keep0 HKW.out).1 (enters_of (P := Try.prog) Try.func55 (by kernel_rfl) rfl) (fun x hx W hW => stMay2_any x.ad x.n x.cap (r0 : Int) r W (hW.cell (HK.out.cell HR2.out (by simp)) (by simp))))
        have HE : Hid (D.any (fun x => decide ((x.n : Int) ≠ (r0 : Int))) = (lis D).any (fun l => decide (l.length ≠ r0))) := Lib.hid (by
          unfold lis
          rw [List.any_map]
          exact any_len r0 D (fun x hx => (HD.out.2 x hx).1))
        rw [HE.out] at hct
        generalize (lis D).any (fun l => decide (l.length ≠ r0)) = od at *
        go_wp2_with fail
        refine hct.out.mono ?_
        rintro e w5 ⟨rfl, kp5⟩
        go_wp2_with fail
        go_ret
        exact ⟨by rw [HF.out]; rfl, HKW.out.tr kp5⟩
  · have HF := Lib.hid (HNO.out (by omega))
    have h3b : ((mn : Int) != (sn : Int)) = true := by simp; omega
    go_wp2_with fail
    go_ret
    exact ⟨by rw [HF.out]; rfl, (Kp.refl [] w).alloc _⟩
end Go.Proofs.Ythmaobmgogmaoaa
