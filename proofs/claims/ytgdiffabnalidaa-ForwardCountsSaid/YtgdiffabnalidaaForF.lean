/-
  ForwardCounts.
-/
import Derived.Test.YtgdiffabnalidaaForE
namespace Go.Proofs.Ytgdiffabnalidaa
open Go.RowKit
set_option linter.unusedSimpArgs false
set_option linter.unusedVariables false

set_option maxRecDepth 100000 in
set_option maxHeartbeats 2000000 in
theorem counts12_walk (a0 : Option Addr) (cap0 n : Nat) (l : List Int) (hn : n = l.length) (m : Int) (w : World) (r0 : Rd w .i64 a0 cap0 l) :
    Calls Try.prog 7 #[.slice a0 n cap0, .int .i64 m] w fun e w' => e = .returned (.bool true) ∧ Kp [] w w' := by
  have HR := Lib.hid r0
  have HN := Lib.hid hn
  clear r0 hn
  by_cases h1 : 300 < n
  · go_enter Try.func7, Try.ntmps7
    go_wp2_with (go_at_call 23; refine (known12 _).mono ?_; rintro e w' ⟨rfl, kp⟩)
    go_ret
    exact ⟨rfl, kp⟩
  by_cases h2 : 2000 < m
  · go_enter Try.func7, Try.ntmps7
    go_wp2_with (go_at_call 23; refine (known12 _).mono ?_; rintro e w' ⟨rfl, kp⟩)
    go_ret
    exact ⟨rfl, kp⟩
  go_enter Try.func7, Try.ntmps7
  go_wp2_with fail
  refine (fOf_any a0 cap0 n l m HN.out w HR.out (by omega)).mono ?_
  intro e w1 hpo
  obtain ⟨kp1, ⟨p, q, rfl, rfl, hp, ho, hx⟩ | ⟨hbad, rfl⟩⟩ := ofPost_fx (by rw [← HN.out]; omega) hpo
  · have HO := Lib.hid ho
    have HX := Lib.hid hx
    have HK := Lib.hid kp1
    have hq2 : q ≤ 2000 := by omega
    clear hpo kp1 ho hx hp h2
    go_wp2_with fail
    go_loopw [7, 8, 28] (fun vn _ vi wr => ∃ k : Nat, k ≤ q ∧ vi = .int .i64 k ∧ vn = .int .i64 (cL l k : Nat) ∧ Hid (FX wr p l q) ∧ Hid (Kp [] w wr)) (fun _ _ vi _ => q - (intOf vi).toNat)
    case atStart => exact ⟨0, Nat.zero_le _, rfl, by rw [cL_zero]; rfl, HX, HK⟩
    case round =>
      obtain ⟨k, hk, rfl, rfl, HXR, HKR⟩ := hrel
      by_cases hlt : k < q
      · obtain ⟨c, hc⟩ : ∃ c, c = cL l k := ⟨_, rfl⟩
        have hcl := cL_le l k
        have hst := cL_step l k
        rw [← HN.out] at hcl
        rw [← hc] at hcl hst ⊢
        obtain ⟨d, hd⟩ : ∃ d, d = cI (k : Int) l := ⟨_, rfl⟩
        have hdl := cI_le l (k : Int)
        rw [← HN.out] at hdl
        rw [← hd] at hdl hst
        have HST := Lib.hid hst
        have hct := HXR.out.count HO.out (k : Int)
        rw [← hd] at hct
        have HCT := Lib.hid hct
        clear hc hd hst hct
        go_wp2_with fail
        refine HCT.out.mono ?_
        rintro e w2 ⟨rfl, kp2⟩
        have HX2 := Lib.hid (HXR.out.keep kp2)
        have HK2 := Lib.hid (HKR.out.tr kp2)
        clear kp2
        go_wp2_with fail
        go_roundw
        case rel => exact ⟨k + 1, hlt, by go_num, by rw [HST.out]; go_num, HX2, HK2⟩
        case measure => simp [intOf]; omega
      · obtain rfl : k = q := by omega
        have hall := cL_all l k HO.out.mem
        rw [← HN.out] at hall
        rw [hall]
        clear hall
        have hw2 := HO.out.rng
        obtain ⟨wd, hwd⟩ : ∃ wd, wd = wdF k := ⟨_, rfl⟩
        have HWI := HXR.out.width HO.out
        rw [← hwd] at hw2 HWI
        have HWD := Lib.hid hwd
        have HW := Lib.hid HWI
        clear hwd HWI
        go_wp2_with fail
        refine HW.out.mono ?_
        rintro e w2 ⟨rfl, h2⟩
        subst w2
        go_wp2_with fail
        refine (HXR.out.count HO.out (k : Int)).mono ?_
        rw [cI_none l k (fun x hx => by have := HO.out.mem x hx; omega)]
        rintro e w3 ⟨rfl, kp3⟩
        have HX3 := Lib.hid (HXR.out.keep kp3)
        have HK3 := Lib.hid (HKR.out.tr kp3)
        clear kp3
        go_wp2_with fail
        refine (HX3.out.count HO.out (-1)).mono ?_
        rw [cI_none l (-1) (fun x hx => by have := HO.out.mem x hx; omega)]
        rintro e w4 ⟨rfl, kp4⟩
        have HX4 := Lib.hid (HX3.out.keep kp4)
        have HK4 := Lib.hid (HK3.out.tr kp4)
        clear kp4
        obtain ⟨u, hu⟩ : ∃ u, u = n * wd := ⟨_, rfl⟩
        have hu2 : u ≤ 7200 := by rw [hu]; exact Nat.le_trans (Nat.mul_le_mul (show n ≤ 300 by omega) hw2.2) (by omega)
        obtain ⟨v, hv⟩ : ∃ v, v = sizeN n wd := ⟨_, rfl⟩
        have hv2 : v = (u + 7) / 8 := by rw [hv, hu]; rfl
        have eu : (n : Int) * (wd : Int) = (u : Int) := by rw [hu]; simp
        have eu2 : ((u : Int) + 7).tdiv 8 = (v : Int) := by rw [hv2, Int.tdiv_eq_ediv_of_nonneg (by omega)]; omega
        have hv3 : v ≤ 1000 := by omega
        have HV := Lib.hid hv
        clear hu hv hv2
        by_cases hk1 : k ≤ 1
        · have hki : (k : Int) ≤ 1 := by omega
          go_wp2_with fail
          refine (HX4.out.bytes HO.out).mono ?_
          rintro e w5 ⟨ad5, cap5, rfl, ho5, kp5⟩
          have HX5 := Lib.hid (HX4.out.keep kp5)
          have HK5 := Lib.hid (HK4.out.tr kp5)
          clear ho5 kp5
          rw [← HN.out, ← HWD.out, ← HV.out]
          go_wp2_with fail
          refine (r12Width_any k w5 (by omega)).mono ?_
          rw [← HWD.out]
          rintro e w6 ⟨rfl, h6⟩
          subst w6
          go_wp2_with (go_at_call 23; refine (known12 _).mono ?_; rintro e w' ⟨rfl, kp⟩)
          go_ret
          exact ⟨rfl, HK5.out.tr kp⟩
        · have htw := widthN_two (k - 1) (by omega) (by omega)
          have hki : ¬ (k : Int) ≤ 1 := by omega
          have h24 : 2 ^ wd ≤ 2 ^ 24 := Nat.pow_le_pow_right (by omega) hw2.2
          rw [show widthN (k - 1) = wd by rw [HWD.out]; rfl] at htw
          obtain ⟨t, ht⟩ : ∃ t, t = 2 ^ wd := ⟨_, rfl⟩
          obtain ⟨s, hs⟩ : ∃ s, s = 2 ^ (wd - 1) := ⟨_, rfl⟩
          rw [← ht] at h24
          rw [← ht, ← hs] at htw
          have et : (2 : Int) ^ wd = (t : Int) := by rw [ht]; simp
          have es : (2 : Int) ^ (wd - 1) = (s : Int) := by rw [hs]; simp
          have g1 : (k : Int) ≤ (t : Int) := by omega
          have g2 : (s : Int) < (k : Int) := by omega
          have g3 : t ≤ 16777216 := by omega
          have g4 : s ≤ 16777216 := by omega
          have e1 : IntKind.i64.wrap (t : Int) = (t : Int) := IntWalk.i64_in _ (by omega)
          have e2 : IntKind.i64.wrap (s : Int) = (s : Int) := IntWalk.i64_in _ (by omega)
          clear ht hs h24 htw hk1
          go_wp2_with fail
          refine (HX4.out.bytes HO.out).mono ?_
          rintro e w5 ⟨ad5, cap5, rfl, ho5, kp5⟩
          have HX5 := Lib.hid (HX4.out.keep kp5)
          have HK5 := Lib.hid (HK4.out.tr kp5)
          clear ho5 kp5
          rw [← HN.out, ← HWD.out, ← HV.out]
          go_wp2_with fail
          refine (r12Width_any k w5 (by omega)).mono ?_
          rw [← HWD.out]
          rintro e w6 ⟨rfl, h6⟩
          subst w6
          go_wp2_with (go_at_call 23; refine (known12 _).mono ?_; rintro e w' ⟨rfl, kp⟩)
          go_ret
          exact ⟨rfl, HK5.out.tr kp⟩
  · have HB := Lib.hid hbad
    go_wp2_with (go_at_call 23; refine (known12 _).mono ?_; rintro e w' ⟨rfl, kp⟩)
    go_ret
    exact ⟨rfl, kp1.tr kp⟩
end Go.Proofs.Ytgdiffabnalidaa
