/-
  Schema: the same configuration, as the document has it.
-/
import Derived.Test.YtegnobdablbahaaSch7
import Derived.Deep.DeepCutAuto
namespace Go.Proofs.Ytegnobdablbahaa
open Go.RowKit
set_option linter.unusedSimpArgs false
set_option linter.unusedVariables false

set_option maxHeartbeats 1600000 in
set_option maxRecDepth 100000 in
theorem r17Same_any (c d : Cfg) (w : World) (hc : RdCfg w c) (hd : RdCfg w d) :
    Calls Try.prog 25 #[cfgV c, cfgV d] w fun e w' => e = .returned (.bool (sameC c d)) ∧ Kp [] w w' := by
  have HC := Lib.hid hc
  have HD := Lib.hid hd
  clear hc hd
  have HV : Hid (sameC c d = (!upto (maxF c d) (difF c d) && (decide (c.srt = d.srt) && (eqI c.spl d.spl && decide (c.leaf = d.leaf))))) := Lib.hid rfl
  generalize sameC c d = v at *
  have HDF : ∀ i, Hid (difF c d i = ((hasB c.inv (i : Nat) != hasB d.inv (i : Nat)) || (hasB c.rng (i : Nat) != hasB d.rng (i : Nat)))) := fun i => Lib.hid rfl
  have HMX : Hid (maxF c d = max (max (max c.inv.length d.inv.length) c.rng.length) d.rng.length) := Lib.hid rfl
  have HC1 := Lib.hid HC.out.1
  have HC2 := Lib.hid HC.out.2.1
  have HC3 := Lib.hid HC.out.2.2
  have HD1 := Lib.hid HD.out.1
  have HD2 := Lib.hid HD.out.2.1
  have HD3 := Lib.hid HD.out.2.2
  clear HC HD
  generalize hDF : difF c d = DF at *
  generalize hMX : maxF c d = MX at *
  clear hDF hMX
  obtain ⟨srt, ia, ic, inv, ra, rc, rng, sa, sc, spl, leaf⟩ := c
  obtain ⟨srt', ia', ic', inv', ra', rc', rng', sa', sc', spl', leaf'⟩ := d
  dsimp only at HV HDF HMX HC1 HC2 HC3 HD1 HD2 HD3
  simp only [cfgV]
  obtain ⟨ni, hni⟩ : ∃ n, n = inv.length := ⟨_, rfl⟩
  obtain ⟨nr, hnr⟩ : ∃ n, n = rng.length := ⟨_, rfl⟩
  obtain ⟨ns, hns⟩ : ∃ n, n = spl.length := ⟨_, rfl⟩
  obtain ⟨ni', hni'⟩ : ∃ n, n = inv'.length := ⟨_, rfl⟩
  obtain ⟨nr', hnr'⟩ : ∃ n, n = rng'.length := ⟨_, rfl⟩
  obtain ⟨ns', hns'⟩ : ∃ n, n = spl'.length := ⟨_, rfl⟩
  rw [← hni, ← hnr, ← hns, ← hni', ← hnr', ← hns']
  rw [← hni, ← hnr, ← hni', ← hnr'] at HMX
  have Hni := Lib.hid hni
  clear hni
  have Hnr := Lib.hid hnr
  clear hnr
  have Hns := Lib.hid hns
  clear hns
  have Hni' := Lib.hid hni'
  clear hni'
  have Hnr' := Lib.hid hnr'
  clear hnr'
  have Hns' := Lib.hid hns'
  clear hns'
  have HEQ : Hid (eqI spl spl' = (decide (ns = ns') && !upto ns (difI spl spl'))) := Lib.hid (by rw [eqI, ← Hns.out, ← Hns'.out])
  have hs1 := HC3.out.1
  have hs2 := HC3.out.2.1
  have hs3 := HD3.out.1
  have hs4 := HD3.out.2.1
  rw [← Hns.out] at hs1
  rw [← Hns'.out] at hs3
  go_enter Try.func25, Try.ntmps25
  go_upto_region 1 with (fail)
  generalize hw2 : (w.alloc _).alloc _ = w2
  have p0 : w2.cell? ⟨w.heap.size, 0, none⟩ = some (.int .i64 srt) := by rw [← hw2]; simp
  have p1 : w2.cell? ⟨w.heap.size, 1, none⟩ = some (.slice ia ni ic) := by rw [← hw2]; simp
  have p2 : w2.cell? ⟨w.heap.size, 2, none⟩ = some (.slice ra nr rc) := by rw [← hw2]; simp
  have p3 : w2.cell? ⟨w.heap.size, 3, none⟩ = some (.slice sa ns sc) := by rw [← hw2]; simp
  have p4 : w2.cell? ⟨w.heap.size, 4, none⟩ = some (.int .i64 leaf) := by rw [← hw2]; simp
  have q0 : w2.cell? ⟨(w.heap.size + 1), 0, none⟩ = some (.int .i64 srt') := by rw [← hw2]; simp
  have q1 : w2.cell? ⟨(w.heap.size + 1), 1, none⟩ = some (.slice ia' ni' ic') := by rw [← hw2]; simp
  have q2 : w2.cell? ⟨(w.heap.size + 1), 2, none⟩ = some (.slice ra' nr' rc') := by rw [← hw2]; simp
  have q3 : w2.cell? ⟨(w.heap.size + 1), 3, none⟩ = some (.slice sa' ns' sc') := by rw [← hw2]; simp
  have q4 : w2.cell? ⟨(w.heap.size + 1), 4, none⟩ = some (.int .i64 leaf') := by rw [← hw2]; simp
  have HK := Lib.hid (show Kp [] w w2 by rw [← hw2]; exact ((Kp.refl [] w).alloc _).alloc _)
  clear hw2
  cases hx : srt != srt' with
  | true =>
    have HX1 : Hid (decide (srt = srt') = false) := Lib.hid (decide_eq_false (by simpa using hx))
    go_wp2_with fail
    go_ret
    exact ⟨by rw [HV.out, HX1.out]; simp, HK.out⟩
  | false =>
  have HX1 : Hid (decide (srt = srt') = true) := Lib.hid (decide_eq_true (by simpa using hx))
  cases hy : leaf != leaf' with
  | true =>
    have HX2 : Hid (decide (leaf = leaf') = false) := Lib.hid (decide_eq_false (by simpa using hy))
    go_wp2_with fail
    go_ret
    exact ⟨by rw [HV.out, HX2.out]; simp, HK.out⟩
  | false =>
  have HX2 : Hid (decide (leaf = leaf') = true) := Lib.hid (decide_eq_true (by simpa using hy))
  cases hz : (ns : Int) != (ns' : Int) with
  | true =>
    have HX3 : Hid (decide (ns = ns') = false) := Lib.hid (decide_eq_false (by simp at hz; omega))
    go_wp2_with fail
    go_ret
    exact ⟨by rw [HV.out, HEQ.out, HX3.out]; simp, HK.out⟩
  | false =>
  have HX3 : Hid (decide (ns = ns') = true) := Lib.hid (decide_eq_true (by simp at hz; omega))
  have HLE : Hid (ns = ns') := Lib.hid (by simp at hz; omega)
  have HV2 : Hid (v = (!upto MX DF && !upto ns (difI spl spl'))) := Lib.hid (by rw [HV.out, HEQ.out, HX1.out, HX2.out, HX3.out]; simp)
  go_wp2_with fail
  clear hx hy hz
  go_loopw [5] (fun vi wr => ∃ k : Nat, k ≤ ns ∧ vi = .int .i64 k ∧ Hid (upto k (difI spl spl') = false) ∧ Kp [] w2 wr) (fun vi _ => ns - (intOf vi).toNat)
  case atStart => exact ⟨0, Nat.zero_le _, rfl, Lib.hid rfl, Kp.refl _ _⟩
  case round =>
    obtain ⟨k, hk, rfl, HX, kp⟩ := hrel
    obtain ⟨w3, rfl⟩ : ∃ w3, w3 = wr := ⟨_, rfl⟩
    have p0' := kp.cell p0 (by simp)
    have p1' := kp.cell p1 (by simp)
    have p2' := kp.cell p2 (by simp)
    have p3' := kp.cell p3 (by simp)
    have p4' := kp.cell p4 (by simp)
    have q0' := kp.cell q0 (by simp)
    have q1' := kp.cell q1 (by simp)
    have q2' := kp.cell q2 (by simp)
    have q3' := kp.cell q3 (by simp)
    have q4' := kp.cell q4 (by simp)
    have HK3 := Lib.hid kp
    have HKA := Lib.hid (HK.out.tr kp)
    clear kp p0 p1 p2 p3 p4 q0 q1 q2 q3 q4
    by_cases hlt : k < ns
    · obtain ⟨g0, o0, hab, d0⟩ := (HC3.out.keep0 HKA.out).2.2 k (by rw [← Hns.out]; exact hlt)
      subst hab
      obtain ⟨g1, o1, hab, d1⟩ := (HD3.out.keep0 HKA.out).2.2 k (by rw [← Hns'.out, ← HLE.out]; exact hlt)
      subst hab
      have hlt' : k < ns' := by have := HLE.out; omega
      have HS : Hid (difI spl spl' k = (nth spl k != nth spl' k)) := Lib.hid rfl
      have HBAD : Hid (difI spl spl' k = true → v = false) := Lib.hid fun hb => by rw [HV2.out, upto_yes (k := k) hlt hb]; simp
      generalize nth spl k = x at *
      generalize nth spl' k = y at *
      cases he : x != y with
      | true =>
        have HEQ := Lib.hid he
        go_wp2_with go_quiet (fail)
        go_ret
        exact ⟨by rw [HBAD.out (by rw [HS.out, HEQ.out])]; rfl, HKA.out.tr (kdN _ _)⟩
      | false =>
        have HEQ := Lib.hid he
        go_wp2_with go_quiet (fail)
        go_roundw
        case rel => exact ⟨k + 1, hlt, by go_num, Lib.hid (by rw [upto_step, HX.out, HS.out, HEQ.out]; rfl), HK3.out.tr (kdN _ _)⟩
        case measure => simp [intOf]; omega
    · obtain rfl : k = ns := by omega
      have HV3 : Hid (v = (!upto MX DF)) := Lib.hid (by rw [HV2.out, HX.out]; simp)
      clear HV HV2 HX HEQ HLE hs1 hs2 hs3 hs4 hk hlt
      go_wp2_with fail
      have HMAX : Hid (ni ≤ MX ∧ ni' ≤ MX ∧ nr ≤ MX ∧ nr' ≤ MX) := Lib.hid (by have := HMX.out; omega)
      have hmm : MX ≤ 9223372036854775807 := by
        have h1 := HMX.out
        have h2 := HC1.out.1
        have h3 := HC1.out.2.1
        have h4 := HC2.out.1
        have h5 := HC2.out.2.1
        have h6 := HD1.out.1
        have h7 := HD1.out.2.1
        have h8 := HD2.out.1
        have h9 := HD2.out.2.1
        have g1 := Hni.out
        have g2 := Hnr.out
        have g3 := Hni'.out
        have g4 := Hnr'.out
        omega
      go_loopw [6] (fun vi wr => ∃ j : Nat, j ≤ MX ∧ vi = .int .i64 j ∧ Hid (upto j DF = false) ∧ Kp [] w3 wr) (fun vi _ => MX - (intOf vi).toNat)
      case atStart => exact ⟨0, Nat.zero_le _, rfl, Lib.hid rfl, Kp.refl _ _⟩
      case round =>
        obtain ⟨j, hj, rfl, HX, kp⟩ := hrel
        obtain ⟨w4, rfl⟩ : ∃ w4, w4 = wr := ⟨_, rfl⟩
        have HKB := Lib.hid (HKA.out.tr kp)
        have rp1 := kp.cell p1' (by simp)
        have rp2 := kp.cell p2' (by simp)
        have rq1 := kp.cell q1' (by simp)
        have rq2 := kp.cell q2' (by simp)
        have HK4 := Lib.hid kp
        clear kp p0' p1' p2' p3' p4' q0' q1' q2' q3' q4'
        go_upto_region 9 with (fail)
        go_cut [71] (fun v71 wx => v71 = .bool (decide ((j : Int) < (MX : Int))) ∧ w4 = wx)
        case first =>
          by_cases a1 : (j : Int) < (ni : Int)
          · go_wp2_with fail
            go_meet
            exact ⟨by rw [decide_eq_true (show (j : Int) < (MX : Int) by have := HMAX.out; omega)], rfl⟩
          · by_cases a2 : (j : Int) < (ni' : Int)
            · go_wp2_with fail
              go_meet
              exact ⟨by rw [decide_eq_true (show (j : Int) < (MX : Int) by have := HMAX.out; omega)], rfl⟩
            · by_cases a3 : (j : Int) < (nr : Int)
              · go_wp2_with fail
                go_meet
                exact ⟨by rw [decide_eq_true (show (j : Int) < (MX : Int) by have := HMAX.out; omega)], rfl⟩
              · by_cases a4 : (j : Int) < (nr' : Int)
                · go_wp2_with fail
                  go_meet
                  exact ⟨by rw [decide_eq_true (show (j : Int) < (MX : Int) by have := HMAX.out; omega)], rfl⟩
                · go_wp2_with fail
                  go_meet
                  exact ⟨by rw [decide_eq_false (show ¬ (j : Int) < (MX : Int) by have := HMX.out; omega)], rfl⟩
        obtain ⟨rfl, rfl⟩ := hcut
        by_cases hlt : (j : Int) < (MX : Int)
        · have HBAD : Hid (DF j = true → v = false) := Lib.hid fun hb => by rw [HV3.out, upto_yes (k := j) (by omega) hb]; rfl
          have HSTEP : Hid (DF j = false → upto (j + 1) DF = false) := Lib.hid fun hb => by rw [upto_step, HX.out, hb]; rfl
          have HDK := HDF j
          have HA1 := Lib.hid (HC1.out.keep0 HKB.out)
          have HA2 := Lib.hid (HC2.out.keep0 HKB.out)
          have HB1 := Lib.hid (HD1.out.keep0 HKB.out)
          have HB2 := Lib.hid (HD2.out.keep0 HKB.out)
          obtain ⟨b1, hb1⟩ : ∃ b, b = hasB inv (j : Nat) := ⟨_, rfl⟩
          obtain ⟨b2, hb2⟩ : ∃ b, b = hasB inv' (j : Nat) := ⟨_, rfl⟩
          obtain ⟨b3, hb3⟩ : ∃ b, b = hasB rng (j : Nat) := ⟨_, rfl⟩
          obtain ⟨b4, hb4⟩ : ∃ b, b = hasB rng' (j : Nat) := ⟨_, rfl⟩
          rw [← hb1, ← hb2, ← hb3, ← hb4] at HDK
          have B1 := Lib.hid hb1
          have B2 := Lib.hid hb2
          have B3 := Lib.hid hb3
          have B4 := Lib.hid hb4
          clear hb1 hb2 hb3 hb4
          have c1 : ∀ q, Calls Try.prog 23 #[.slice ia ni ic, .int .i64 (j : Int)] (w4.drewN q) fun e w' => e = .returned (.bool b1) ∧ w' = w4.drewN q := fun q => by rw [B1.out]; exact r17Has_any _ _ _ inv _ Hni.out _ (HA1.out.keep0 (kdN _ _))
          have c2 : ∀ q, Calls Try.prog 23 #[.slice ia' ni' ic', .int .i64 (j : Int)] (w4.drewN q) fun e w' => e = .returned (.bool b2) ∧ w' = w4.drewN q := fun q => by rw [B2.out]; exact r17Has_any _ _ _ inv' _ Hni'.out _ (HB1.out.keep0 (kdN _ _))
          have c3 : ∀ q, Calls Try.prog 23 #[.slice ra nr rc, .int .i64 (j : Int)] (w4.drewN q) fun e w' => e = .returned (.bool b3) ∧ w' = w4.drewN q := fun q => by rw [B3.out]; exact r17Has_any _ _ _ rng _ Hnr.out _ (HA2.out.keep0 (kdN _ _))
          have c4 : ∀ q, Calls Try.prog 23 #[.slice ra' nr' rc', .int .i64 (j : Int)] (w4.drewN q) fun e w' => e = .returned (.bool b4) ∧ w' = w4.drewN q := fun q => by rw [B4.out]; exact r17Has_any _ _ _ rng' _ Hnr'.out _ (HB2.out.keep0 (kdN _ _))
          have C1 := Lib.hid c1
          have C2 := Lib.hid c2
          have C3 := Lib.hid c3
          have C4 := Lib.hid c4
          clear c1 c2 c3 c4
          cases b1 with
          | true =>
            cases b2 with
            | true =>
              cases b3 with
              | true =>
                cases b4 with
                | true =>
                  go_wp2_with go_quiet ((go_at_call 23; first | with_reducible exact Calls.quiet_of_same (C1.out _) | with_reducible exact Calls.quiet_of_same (C2.out _) | with_reducible exact Calls.quiet_of_same (C3.out _) | with_reducible exact Calls.quiet_of_same (C4.out _)))
                  go_roundw
                  case rel => exact ⟨j + 1, by omega, by go_num, Lib.hid (HSTEP.out (by rw [HDK.out]; rfl)), HK4.out.tr (kdN _ _)⟩
                  case measure => simp [intOf]; omega
                | false =>
                  go_wp2_with go_quiet ((go_at_call 23; first | with_reducible exact Calls.quiet_of_same (C1.out _) | with_reducible exact Calls.quiet_of_same (C2.out _) | with_reducible exact Calls.quiet_of_same (C3.out _) | with_reducible exact Calls.quiet_of_same (C4.out _)))
                  go_ret
                  exact ⟨by rw [HBAD.out (by rw [HDK.out]; rfl)]; rfl, HKB.out.tr (kdN _ _)⟩
              | false =>
                cases b4 with
                | true =>
                  go_wp2_with go_quiet ((go_at_call 23; first | with_reducible exact Calls.quiet_of_same (C1.out _) | with_reducible exact Calls.quiet_of_same (C2.out _) | with_reducible exact Calls.quiet_of_same (C3.out _) | with_reducible exact Calls.quiet_of_same (C4.out _)))
                  go_ret
                  exact ⟨by rw [HBAD.out (by rw [HDK.out]; rfl)]; rfl, HKB.out.tr (kdN _ _)⟩
                | false =>
                  go_wp2_with go_quiet ((go_at_call 23; first | with_reducible exact Calls.quiet_of_same (C1.out _) | with_reducible exact Calls.quiet_of_same (C2.out _) | with_reducible exact Calls.quiet_of_same (C3.out _) | with_reducible exact Calls.quiet_of_same (C4.out _)))
                  go_roundw
                  case rel => exact ⟨j + 1, by omega, by go_num, Lib.hid (HSTEP.out (by rw [HDK.out]; rfl)), HK4.out.tr (kdN _ _)⟩
                  case measure => simp [intOf]; omega
            | false =>
              go_wp2_with go_quiet ((go_at_call 23; first | with_reducible exact Calls.quiet_of_same (C1.out _) | with_reducible exact Calls.quiet_of_same (C2.out _) | with_reducible exact Calls.quiet_of_same (C3.out _) | with_reducible exact Calls.quiet_of_same (C4.out _)))
              go_ret
              exact ⟨by rw [HBAD.out (by rw [HDK.out]; rfl)]; rfl, HKB.out.tr (kdN _ _)⟩
          | false =>
            cases b2 with
            | true =>
              go_wp2_with go_quiet ((go_at_call 23; first | with_reducible exact Calls.quiet_of_same (C1.out _) | with_reducible exact Calls.quiet_of_same (C2.out _) | with_reducible exact Calls.quiet_of_same (C3.out _) | with_reducible exact Calls.quiet_of_same (C4.out _)))
              go_ret
              exact ⟨by rw [HBAD.out (by rw [HDK.out]; rfl)]; rfl, HKB.out.tr (kdN _ _)⟩
            | false =>
              cases b3 with
              | true =>
                cases b4 with
                | true =>
                  go_wp2_with go_quiet ((go_at_call 23; first | with_reducible exact Calls.quiet_of_same (C1.out _) | with_reducible exact Calls.quiet_of_same (C2.out _) | with_reducible exact Calls.quiet_of_same (C3.out _) | with_reducible exact Calls.quiet_of_same (C4.out _)))
                  go_roundw
                  case rel => exact ⟨j + 1, by omega, by go_num, Lib.hid (HSTEP.out (by rw [HDK.out]; rfl)), HK4.out.tr (kdN _ _)⟩
                  case measure => simp [intOf]; omega
                | false =>
                  go_wp2_with go_quiet ((go_at_call 23; first | with_reducible exact Calls.quiet_of_same (C1.out _) | with_reducible exact Calls.quiet_of_same (C2.out _) | with_reducible exact Calls.quiet_of_same (C3.out _) | with_reducible exact Calls.quiet_of_same (C4.out _)))
                  go_ret
                  exact ⟨by rw [HBAD.out (by rw [HDK.out]; rfl)]; rfl, HKB.out.tr (kdN _ _)⟩
              | false =>
                cases b4 with
                | true =>
                  go_wp2_with go_quiet ((go_at_call 23; first | with_reducible exact Calls.quiet_of_same (C1.out _) | with_reducible exact Calls.quiet_of_same (C2.out _) | with_reducible exact Calls.quiet_of_same (C3.out _) | with_reducible exact Calls.quiet_of_same (C4.out _)))
                  go_ret
                  exact ⟨by rw [HBAD.out (by rw [HDK.out]; rfl)]; rfl, HKB.out.tr (kdN _ _)⟩
                | false =>
                  go_wp2_with go_quiet ((go_at_call 23; first | with_reducible exact Calls.quiet_of_same (C1.out _) | with_reducible exact Calls.quiet_of_same (C2.out _) | with_reducible exact Calls.quiet_of_same (C3.out _) | with_reducible exact Calls.quiet_of_same (C4.out _)))
                  go_roundw
                  case rel => exact ⟨j + 1, by omega, by go_num, Lib.hid (HSTEP.out (by rw [HDK.out]; rfl)), HK4.out.tr (kdN _ _)⟩
                  case measure => simp [intOf]; omega
        · go_wp2_with fail
          go_ret
          have hjm : j = MX := by omega
          have HJ := Lib.hid hjm
          exact ⟨by rw [HV3.out, ← HJ.out, HX.out]; rfl, HKB.out⟩

end Go.Proofs.Ytegnobdablbahaa
