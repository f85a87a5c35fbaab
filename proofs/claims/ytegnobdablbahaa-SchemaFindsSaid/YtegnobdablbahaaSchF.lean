/-
  Schema: the law of what is found.
-/
import Derived.Test.YtegnobdablbahaaSchE
namespace Go.Proofs.Ytegnobdablbahaa
open Go.RowKit
set_option linter.unusedSimpArgs false
set_option linter.unusedVariables false

/-- A copy of a configuration. -/
def SV.cfg (c : Cfg) : SV := ⟨fun v u => ∃ d, v = cfgV d ∧ RdCfg u d ∧ alike c d, fun _ _ _ ⟨d, h1, h2, h3⟩ hk => ⟨d, h1, h2.keep0 hk, h3⟩⟩
def bare (s f : Int) : Cfg := ⟨s, none, 0, [], none, 0, [], none, 0, [], f⟩
theorem bare_rd (w : World) (s f : Int) : RdCfg w (bare s f) := ⟨RdS.nil _ _ _, RdS.nil _ _ _, by simp [Rd, bare]⟩
theorem fits_bare (l : List Col) (s f : Int) : fitsC l (bare s f) = (mayC l && (srtC l s && decide (1 ≤ f ∧ f ≤ 1000000))) := by
  have h1 : flagC l [] = true := by simp [flagC, upto]
  have h2 : upto 0 (badS l []) = false := by simp [upto]
  show (mayC l && (srtC l s && (flagC l [] && (flagC l [] && (!upto 0 (badS l []) && tailC (bare s f)))))) = _
  rw [h1, h2]
  simp [tailC, bare]
theorem fits_may {l : List Col} {c : Cfg} (h : fitsC l c = true) : mayC l = true := by rw [fitsC, Bool.and_eq_true] at h; exact h.1
theorem fits_b1 {l : List Col} {c : Cfg} (h : fitsC l c = true) : fitsC l (bare (-1) c.leaf) = true := by
  rw [fits_bare, fits_may h, decide_eq_true (fitsC_ok h).leaf]; simp [srtC]
theorem fits_b2 (l : List Col) : fitsC l (bare (-1) 0) = false := by rw [fits_bare]; simp
theorem fits_b3 (l : List Col) : fitsC l (bare (l.length : Int) 1) = false := by
  rw [fits_bare, srtC, dimC_out (by omega), decide_eq_false (by omega)]; simp

set_option maxHeartbeats 3200000 in
set_option maxRecDepth 100000 in
theorem schemaFinds_any (a0 : Option Addr) (cap0 n : Nat) (l : List Col) (hn : n = l.length) (c : Cfg) (w : World) (h : RdC w a0 cap0 l) (ho : COk l) (hc : RdCfg w c) :
    Calls Try.prog 4 #[.slice a0 n cap0, cfgV c] w fun e w' => e = .returned (.bool true) ∧ Kp [] w w' := by
  have H := Lib.hid h
  have HN := Lib.hid hn
  have HO := Lib.hid ho
  have HC := Lib.hid hc
  have hcap := h.1
  rw [← hn] at hcap
  have hcap2 := h.2.1
  clear h hn ho hc
  obtain ⟨ni, hni⟩ : ∃ ni, ni = c.inv.length := ⟨_, rfl⟩
  obtain ⟨nr, hnr⟩ : ∃ nr, nr = c.rng.length := ⟨_, rfl⟩
  obtain ⟨ns, hns⟩ : ∃ ns, ns = c.spl.length := ⟨_, rfl⟩
  have HVL : Hid (cfgV c = .agg #[.int .i64 c.srt, .slice c.ia ni c.ic, .slice c.ra nr c.rc, .slice c.sa ns c.sc, .int .i64 c.leaf]) := Lib.hid (by rw [hni, hnr, hns]; rfl)
  have HNI := Lib.hid hni
  have HNR := Lib.hid hnr
  have HNS := Lib.hid hns
  clear hni hnr hns
  rw [HVL.out]
  go_enter Try.func4, Try.ntmps4
  go_upto_region 1 with (fail)
  generalize hw2 : w.alloc _ = w2
  have p0 : w2.cell? ⟨w.heap.size, 0, none⟩ = some (.int .i64 c.srt) := by rw [← hw2]; simp
  have p1 : w2.cell? ⟨w.heap.size, 1, none⟩ = some (.slice c.ia ni c.ic) := by rw [← hw2]; simp
  have p2 : w2.cell? ⟨w.heap.size, 2, none⟩ = some (.slice c.ra nr c.rc) := by rw [← hw2]; simp
  have p3 : w2.cell? ⟨w.heap.size, 3, none⟩ = some (.slice c.sa ns c.sc) := by rw [← hw2]; simp
  have p4 : w2.cell? ⟨w.heap.size, 4, none⟩ = some (.int .i64 c.leaf) := by rw [← hw2]; simp
  have HK2 := Lib.hid (show Kp [] w w2 by rw [← hw2]; exact (Kp.refl [] w).alloc _)
  clear hw2
  go_wp2_with fail
  refine (great_w HVL.out HN.out (H.out.keep0 HK2.out) HO.out).mono ?_
  rintro e w3 ⟨rfl, kp3⟩
  replace p0 := kp3.cell p0 (by simp)
  replace p1 := kp3.cell p1 (by simp)
  replace p2 := kp3.cell p2 (by simp)
  replace p3 := kp3.cell p3 (by simp)
  replace p4 := kp3.cell p4 (by simp)
  have HK3 := Lib.hid (HK2.out.tr kp3)
  clear kp3
  cases hg : greatC l c with
  | true =>
    go_wp2_with fail
    refine (known17_any _).mono ?_
    rintro e w4 ⟨rfl, kp4⟩
    go_wp2_with fail
    go_ret
    exact ⟨rfl, HK3.out.tr kp4⟩
  | false =>
  have HGN := Lib.hid (great_no hg)
  clear hg
  go_wp2_with fail
  refine (sMay_any a0 cap0 n l HN.out _ (H.out.keep0 HK3.out) HO.out).mono ?_
  rintro e w4 ⟨rfl, kp4⟩
  replace p0 := kp4.cell p0 (by simp)
  replace p1 := kp4.cell p1 (by simp)
  replace p2 := kp4.cell p2 (by simp)
  replace p3 := kp4.cell p3 (by simp)
  replace p4 := kp4.cell p4 (by simp)
  have HK4 := Lib.hid (HK3.out.tr kp4)
  clear kp4
  cases hm : mayC l with
  | false =>
    go_wp2_with fail
    refine (known17_any _).mono ?_
    rintro e w5 ⟨rfl, kp5⟩
    go_wp2_with fail
    go_ret
    exact ⟨rfl, HK4.out.tr kp5⟩
  | true =>
  have HMAY := Lib.hid (mayC_ok hm)
  have HM := Lib.hid hm
  clear hm
  have HP0 := Lib.hid p0
  have HP1 := Lib.hid p1
  have HP2 := Lib.hid p2
  have HP3 := Lib.hid p3
  have HP4 := Lib.hid p4
  clear p0 p1 p2 p3 p4
  go_wp2_with fail
  go_loopw [5, 17] (fun _ vi wr => ∃ k : Nat, k ≤ n ∧ vi = .int .i64 k ∧ Hid (Kp [] w4 wr)) (fun _ vi _ => n - (intOf vi).toNat)
  case atStart => exact ⟨0, Nat.zero_le _, rfl, Lib.hid (Kp.refl _ _)⟩
  case round =>
    obtain ⟨k, hk, rfl, HK⟩ := hrel
    obtain ⟨w5, rfl⟩ : ∃ w5, w5 = wr := ⟨_, rfl⟩
    have HKA := Lib.hid (HK4.out.tr HK.out)
    by_cases hlt : k < n
    · have hkl : k < l.length := by rw [← HN.out]; exact hlt
      obtain ⟨b, off, rfl, c0, c1⟩ := (H.out.keep0 HKA.out).atC k hkl
      obtain ⟨hi1, hi2, hi3, hi4⟩ := HMAY.out.2 k hkl
      have hdim : dimC l (k : Nat) = !decide ((atC l k).kd = 3) := by
        rw [dimC_in (by omega), Int.toNat_natCast]
        have : (atC l k).kd = 1 ∨ (atC l k).kd = 2 ∨ (atC l k).kd = 3 := by omega
        rcases this with h | h | h <;> rw [h] <;> decide
      obtain ⟨x, hx⟩ : ∃ x, x = atC l k := ⟨_, rfl⟩
      rw [← hx] at c0 c1 hi1 hi2 hi3 hi4 hdim
      have HF := Lib.hid hi4
      have HD0 := Lib.hid c0
      have HD1 := Lib.hid c1
      have HDIM := Lib.hid hdim
      have hk1 : (k : Int) < (n : Int) := by omega
      clear hx hkl hi1 hi2 hi3 hi4 hdim c0 c1
      go_upto_region 6 with (fail)
      cases h3 : x.kd == 3 with
      | true =>
        have HDD : Hid (dimC l (k : Nat) = false) := Lib.hid (by rw [HDIM.out, decide_eq_true (by simpa using h3)]; rfl)
        have h3' : x.kd = 3 := by simpa using h3
        refine wp_region_K (by kernel_rfl) [.val (.slice (some ⟨b, off, none⟩) n cap0), .val (.slice (some ⟨b, off, none⟩) n cap0), .val (.int .i64 (k : Int)), .val (.pointer (some ⟨b, off + k * 2, none⟩)), .val (.pointer (some ⟨b, off + k * 2, none⟩)), .val (.string x.nm), .val (.int .i64 (k : Int)), .val (.int .i64 (k : Int)), .val (.bool false), .val (.bool false), .val (.slice (some ⟨b, off, none⟩) n cap0), .val (.int .i64 (k : Int)), .val (.bool false), .val (.slice (some ⟨b, off, none⟩) n cap0), .val (.int .i64 (k : Int)), .val (.pointer (some ⟨b, off + k * 2, none⟩)), .val (.pointer (some ⟨b, off + k * 2 + 1, none⟩)), .val (.int .u8 x.kd), .val (.bool true), .val (.bool false), .val (.bool false)] [[(0, none)], [(0, none)], [(5, none)], [(21, some 1), (22, some 2)], [(23, some 3)], [(24, some 4)], [(20, some 0), (25, some 5)], [(5, none)], [(26, some 6), (27, some 7)], [(28, some 8)], [(29, some 9), (0, none)], [(29, some 9), (5, none)], [(29, some 9), (30, some 10), (31, some 11)], [(29, some 9), (0, none)], [(29, some 9), (5, none)], [(29, some 9), (33, some 13), (34, some 14)], [(29, some 9), (35, some 15)], [(29, some 9), (36, some 16)], [(29, some 9), (37, some 17)], [(29, some 9), (32, some 12), (38, some 18)], [(29, some 9), (39, some 19)]] rfl (by kernel_rfl) ?_ ?_
        · refine ⟨?o0, ?o1, ?o2, ?o3, ?o4, ?o5, ?o6, ?o7, ?o8, ?o9, ?o10, ?o11, ?o12, ?o13, ?o14, ?o15, ?o16, ?o17, ?o18, ?o19, ?o20, trivial⟩
          case o0 => intro aR wR hR; replace hR := hR.undrew; intro (h0 : aR.tmps[0]? = some (.slice (some ⟨b, off, none⟩) n cap0)); exact exec_val (c := .slice (some ⟨b, off, none⟩) n cap0) (wanted_none rfl) (by go_simp) rfl
          case o1 => intro aR wR hR; replace hR := hR.undrew; intro (h0 : aR.tmps[0]? = some (.slice (some ⟨b, off, none⟩) n cap0)); exact exec_val (c := .slice (some ⟨b, off, none⟩) n cap0) (wanted_none rfl) (by go_simp) rfl
          case o2 => intro aR wR hR; replace hR := hR.undrew; intro (h5 : aR.tmps[5]? = some (.int .i64 (k : Int))); exact exec_val (c := .int .i64 (k : Int)) (wanted_none rfl) (by go_simp) rfl
          case o3 => intro aR wR hR; replace hR := hR.undrew; intro v21 h21 e21; replace e21 : v21 = .slice (some ⟨b, off, none⟩) n cap0 := e21; subst e21; intro v22 h22 e22; replace e22 : v22 = .int .i64 (k : Int) := e22; subst e22; (skip); exact exec_val (c := .pointer (some ⟨b, off + k * 2, none⟩)) (wanted_none rfl) (by go_simp) rfl
          case o4 => intro aR wR hR; replace hR := hR.undrew; intro v23 h23 e23; replace e23 : v23 = .pointer (some ⟨b, off + k * 2, none⟩) := e23; subst e23; (skip); exact exec_val (c := .pointer (some ⟨b, off + k * 2, none⟩)) (wanted_none rfl) (by go_simp) rfl
          case o5 => intro aR wR hR; replace hR := hR.undrew; intro v24 h24 e24; replace e24 : v24 = .pointer (some ⟨b, off + k * 2, none⟩) := e24; subst e24; (have hc := hR.cell HD0.out (by simp)); exact exec_val (c := .string x.nm) (wanted_none rfl) (by go_simp) rfl
          case o6 => intro aR wR hR; replace hR := hR.undrew; intro v20 h20 e20; replace e20 : v20 = .slice (some ⟨b, off, none⟩) n cap0 := e20; subst e20; intro v25 h25 e25; replace e25 : v25 = .string x.nm := e25; subst e25; refine exec_call (wanted_none rfl) (by go_simp; exact ⟨rfl, rfl⟩) ?_; refine (sFind_any (some ⟨b, off, none⟩) cap0 n l x.nm HN.out _ ((H.out.keep0 HKA.out).keep0 hR)).mono ?_; rintro e7 w7 ⟨rfl, kp7⟩; exact ⟨_, rfl, congrArg (Value.int .i64) HF.out, kp7⟩
          case o7 => intro aR wR hR; replace hR := hR.undrew; intro (h5 : aR.tmps[5]? = some (.int .i64 (k : Int))); exact exec_val (c := .int .i64 (k : Int)) (wanted_none rfl) (by go_simp) rfl
          case o8 => intro aR wR hR; replace hR := hR.undrew; intro v26 h26 e26; replace e26 : v26 = .int .i64 (k : Int) := e26; subst e26; intro v27 h27 e27; replace e27 : v27 = .int .i64 (k : Int) := e27; subst e27; exact exec_val (c := .bool false) (wanted_none rfl) (by go_simp) rfl
          case o9 => intro aR wR hR; replace hR := hR.undrew; intro v28 h28 e28; replace e28 : v28 = .bool false := e28; subst e28; exact exec_val (c := .bool false) (wanted_none rfl) (by go_simp) rfl
          case o10 => intro aR wR hR; replace hR := hR.undrew; intro v29 h29 e29; replace e29 : v29 = .bool false := e29; subst e29; intro (h0 : aR.tmps[0]? = some (.slice (some ⟨b, off, none⟩) n cap0)); exact exec_val (c := .slice (some ⟨b, off, none⟩) n cap0) (wanted_yes (b := false) (t := 29) rfl rfl h29) (by go_simp) rfl
          case o11 => intro aR wR hR; replace hR := hR.undrew; intro v29 h29 e29; replace e29 : v29 = .bool false := e29; subst e29; intro (h5 : aR.tmps[5]? = some (.int .i64 (k : Int))); exact exec_val (c := .int .i64 (k : Int)) (wanted_yes (b := false) (t := 29) rfl rfl h29) (by go_simp) rfl
          case o12 => intro aR wR hR; replace hR := hR.undrew; intro v29 h29 e29; replace e29 : v29 = .bool false := e29; subst e29; intro v30 h30 e30; replace e30 : v30 = .slice (some ⟨b, off, none⟩) n cap0 := e30; subst e30; intro v31 h31 e31; replace e31 : v31 = .int .i64 (k : Int) := e31; subst e31; refine exec_call (wanted_yes (b := false) (t := 29) rfl rfl h29) (by go_simp; exact ⟨rfl, rfl⟩) ?_; refine (sDim_any (some ⟨b, off, none⟩) cap0 n l (k : Int) HN.out _ ((H.out.keep0 HKA.out).keep0 hR)).mono ?_; rintro e7 w7 ⟨rfl, h7⟩; subst w7; exact ⟨_, rfl, congrArg Value.bool HDD.out, Kp.refl _ _⟩
          case o13 => intro aR wR hR; replace hR := hR.undrew; intro v29 h29 e29; replace e29 : v29 = .bool false := e29; subst e29; intro (h0 : aR.tmps[0]? = some (.slice (some ⟨b, off, none⟩) n cap0)); exact exec_val (c := .slice (some ⟨b, off, none⟩) n cap0) (wanted_yes (b := false) (t := 29) rfl rfl h29) (by go_simp) rfl
          case o14 => intro aR wR hR; replace hR := hR.undrew; intro v29 h29 e29; replace e29 : v29 = .bool false := e29; subst e29; intro (h5 : aR.tmps[5]? = some (.int .i64 (k : Int))); exact exec_val (c := .int .i64 (k : Int)) (wanted_yes (b := false) (t := 29) rfl rfl h29) (by go_simp) rfl
          case o15 => intro aR wR hR; replace hR := hR.undrew; intro v29 h29 e29; replace e29 : v29 = .bool false := e29; subst e29; intro v33 h33 e33; replace e33 : v33 = .slice (some ⟨b, off, none⟩) n cap0 := e33; subst e33; intro v34 h34 e34; replace e34 : v34 = .int .i64 (k : Int) := e34; subst e34; (skip); exact exec_val (c := .pointer (some ⟨b, off + k * 2, none⟩)) (wanted_yes (b := false) (t := 29) rfl rfl h29) (by go_simp) rfl
          case o16 => intro aR wR hR; replace hR := hR.undrew; intro v29 h29 e29; replace e29 : v29 = .bool false := e29; subst e29; intro v35 h35 e35; replace e35 : v35 = .pointer (some ⟨b, off + k * 2, none⟩) := e35; subst e35; (skip); exact exec_val (c := .pointer (some ⟨b, off + k * 2 + 1, none⟩)) (wanted_yes (b := false) (t := 29) rfl rfl h29) (by go_simp) rfl
          case o17 => intro aR wR hR; replace hR := hR.undrew; intro v29 h29 e29; replace e29 : v29 = .bool false := e29; subst e29; intro v36 h36 e36; replace e36 : v36 = .pointer (some ⟨b, off + k * 2 + 1, none⟩) := e36; subst e36; (have hc := hR.cell HD1.out (by simp)); exact exec_val (c := .int .u8 x.kd) (wanted_yes (b := false) (t := 29) rfl rfl h29) (by go_simp) rfl
          case o18 => intro aR wR hR; replace hR := hR.undrew; intro v29 h29 e29; replace e29 : v29 = .bool false := e29; subst e29; intro v37 h37 e37; replace e37 : v37 = .int .u8 x.kd := e37; subst e37; exact exec_val (c := .bool true) (wanted_yes (b := false) (t := 29) rfl rfl h29) (by go_simp) rfl
          case o19 => intro aR wR hR; replace hR := hR.undrew; intro v29 h29 e29; replace e29 : v29 = .bool false := e29; subst e29; intro v32 h32 e32; replace e32 : v32 = .bool false := e32; subst e32; intro v38 h38 e38; replace e38 : v38 = .bool true := e38; subst e38; exact exec_val (c := .bool false) (wanted_yes (b := false) (t := 29) rfl rfl h29) (by go_simp) rfl
          case o20 => intro aR wR hR; replace hR := hR.undrew; intro v29 h29 e29; replace e29 : v29 = .bool false := e29; subst e29; intro v39 h39 e39; replace e39 : v39 = .bool false := e39; subst e39; exact exec_val (c := .bool false) (wanted_none rfl) (by go_simp) rfl
        · intro vs wR hR hV
          obtain ⟨e0, e1, e2, e3, e4, e5, e6, e7, e8, e9, e10, e11, e12, e13, e14, e15, e16, e17, e18, e19, e20, -⟩ := hV
          replace e0 : vs 0 = .slice (some ⟨b, off, none⟩) n cap0 := e0
          replace e1 : vs 1 = .slice (some ⟨b, off, none⟩) n cap0 := e1
          replace e2 : vs 2 = .int .i64 (k : Int) := e2
          replace e3 : vs 3 = .pointer (some ⟨b, off + k * 2, none⟩) := e3
          replace e4 : vs 4 = .pointer (some ⟨b, off + k * 2, none⟩) := e4
          replace e5 : vs 5 = .string x.nm := e5
          replace e6 : vs 6 = .int .i64 (k : Int) := e6
          replace e7 : vs 7 = .int .i64 (k : Int) := e7
          replace e8 : vs 8 = .bool false := e8
          replace e9 : vs 9 = .bool false := e9
          replace e10 : vs 10 = .slice (some ⟨b, off, none⟩) n cap0 := e10
          replace e11 : vs 11 = .int .i64 (k : Int) := e11
          replace e12 : vs 12 = .bool false := e12
          replace e13 : vs 13 = .slice (some ⟨b, off, none⟩) n cap0 := e13
          replace e14 : vs 14 = .int .i64 (k : Int) := e14
          replace e15 : vs 15 = .pointer (some ⟨b, off + k * 2, none⟩) := e15
          replace e16 : vs 16 = .pointer (some ⟨b, off + k * 2 + 1, none⟩) := e16
          replace e17 : vs 17 = .int .u8 x.kd := e17
          replace e18 : vs 18 = .bool true := e18
          replace e19 : vs 19 = .bool false := e19
          replace e20 : vs 20 = .bool false := e20
          simp only [putAll, e0, e1, e2, e3, e4, e5, e6, e7, e8, e9, e10, e11, e12, e13, e14, e15, e16, e17, e18, e19, e20, Nat.reduceAdd, Nat.zero_add]
          clear e0 e1 e2 e3 e4 e5 e6 e7 e8 e9 e10 e11 e12 e13 e14 e15 e16 e17 e18 e19 e20
          try simp only [List.setIfInBounds_toArray, List.set_cons_succ, List.set_cons_zero]
          have HKR := Lib.hid (HK.out.tr hR)
          clear hR
          go_wp2_with fail
          go_roundw
          case rel => exact ⟨k + 1, hlt, by go_num, HKR⟩
          case measure => simp [intOf]; omega
      | false =>
        have HDD : Hid (dimC l (k : Nat) = true) := Lib.hid (by rw [HDIM.out, decide_eq_false (by simpa using h3)]; rfl)
        refine wp_region_K (by kernel_rfl) [.val (.slice (some ⟨b, off, none⟩) n cap0), .val (.slice (some ⟨b, off, none⟩) n cap0), .val (.int .i64 (k : Int)), .val (.pointer (some ⟨b, off + k * 2, none⟩)), .val (.pointer (some ⟨b, off + k * 2, none⟩)), .val (.string x.nm), .val (.int .i64 (k : Int)), .val (.int .i64 (k : Int)), .val (.bool false), .val (.bool false), .val (.slice (some ⟨b, off, none⟩) n cap0), .val (.int .i64 (k : Int)), .val (.bool true), .val (.slice (some ⟨b, off, none⟩) n cap0), .val (.int .i64 (k : Int)), .val (.pointer (some ⟨b, off + k * 2, none⟩)), .val (.pointer (some ⟨b, off + k * 2 + 1, none⟩)), .val (.int .u8 x.kd), .val (.bool false), .val (.bool false), .val (.bool false)] [[(0, none)], [(0, none)], [(5, none)], [(21, some 1), (22, some 2)], [(23, some 3)], [(24, some 4)], [(20, some 0), (25, some 5)], [(5, none)], [(26, some 6), (27, some 7)], [(28, some 8)], [(29, some 9), (0, none)], [(29, some 9), (5, none)], [(29, some 9), (30, some 10), (31, some 11)], [(29, some 9), (0, none)], [(29, some 9), (5, none)], [(29, some 9), (33, some 13), (34, some 14)], [(29, some 9), (35, some 15)], [(29, some 9), (36, some 16)], [(29, some 9), (37, some 17)], [(29, some 9), (32, some 12), (38, some 18)], [(29, some 9), (39, some 19)]] rfl (by kernel_rfl) ?_ ?_
        · refine ⟨?o0, ?o1, ?o2, ?o3, ?o4, ?o5, ?o6, ?o7, ?o8, ?o9, ?o10, ?o11, ?o12, ?o13, ?o14, ?o15, ?o16, ?o17, ?o18, ?o19, ?o20, trivial⟩
          case o0 => intro aR wR hR; replace hR := hR.undrew; intro (h0 : aR.tmps[0]? = some (.slice (some ⟨b, off, none⟩) n cap0)); exact exec_val (c := .slice (some ⟨b, off, none⟩) n cap0) (wanted_none rfl) (by go_simp) rfl
          case o1 => intro aR wR hR; replace hR := hR.undrew; intro (h0 : aR.tmps[0]? = some (.slice (some ⟨b, off, none⟩) n cap0)); exact exec_val (c := .slice (some ⟨b, off, none⟩) n cap0) (wanted_none rfl) (by go_simp) rfl
          case o2 => intro aR wR hR; replace hR := hR.undrew; intro (h5 : aR.tmps[5]? = some (.int .i64 (k : Int))); exact exec_val (c := .int .i64 (k : Int)) (wanted_none rfl) (by go_simp) rfl
          case o3 => intro aR wR hR; replace hR := hR.undrew; intro v21 h21 e21; replace e21 : v21 = .slice (some ⟨b, off, none⟩) n cap0 := e21; subst e21; intro v22 h22 e22; replace e22 : v22 = .int .i64 (k : Int) := e22; subst e22; (skip); exact exec_val (c := .pointer (some ⟨b, off + k * 2, none⟩)) (wanted_none rfl) (by go_simp) rfl
          case o4 => intro aR wR hR; replace hR := hR.undrew; intro v23 h23 e23; replace e23 : v23 = .pointer (some ⟨b, off + k * 2, none⟩) := e23; subst e23; (skip); exact exec_val (c := .pointer (some ⟨b, off + k * 2, none⟩)) (wanted_none rfl) (by go_simp) rfl
          case o5 => intro aR wR hR; replace hR := hR.undrew; intro v24 h24 e24; replace e24 : v24 = .pointer (some ⟨b, off + k * 2, none⟩) := e24; subst e24; (have hc := hR.cell HD0.out (by simp)); exact exec_val (c := .string x.nm) (wanted_none rfl) (by go_simp) rfl
          case o6 => intro aR wR hR; replace hR := hR.undrew; intro v20 h20 e20; replace e20 : v20 = .slice (some ⟨b, off, none⟩) n cap0 := e20; subst e20; intro v25 h25 e25; replace e25 : v25 = .string x.nm := e25; subst e25; refine exec_call (wanted_none rfl) (by go_simp; exact ⟨rfl, rfl⟩) ?_; refine (sFind_any (some ⟨b, off, none⟩) cap0 n l x.nm HN.out _ ((H.out.keep0 HKA.out).keep0 hR)).mono ?_; rintro e7 w7 ⟨rfl, kp7⟩; exact ⟨_, rfl, congrArg (Value.int .i64) HF.out, kp7⟩
          case o7 => intro aR wR hR; replace hR := hR.undrew; intro (h5 : aR.tmps[5]? = some (.int .i64 (k : Int))); exact exec_val (c := .int .i64 (k : Int)) (wanted_none rfl) (by go_simp) rfl
          case o8 => intro aR wR hR; replace hR := hR.undrew; intro v26 h26 e26; replace e26 : v26 = .int .i64 (k : Int) := e26; subst e26; intro v27 h27 e27; replace e27 : v27 = .int .i64 (k : Int) := e27; subst e27; exact exec_val (c := .bool false) (wanted_none rfl) (by go_simp) rfl
          case o9 => intro aR wR hR; replace hR := hR.undrew; intro v28 h28 e28; replace e28 : v28 = .bool false := e28; subst e28; exact exec_val (c := .bool false) (wanted_none rfl) (by go_simp) rfl
          case o10 => intro aR wR hR; replace hR := hR.undrew; intro v29 h29 e29; replace e29 : v29 = .bool false := e29; subst e29; intro (h0 : aR.tmps[0]? = some (.slice (some ⟨b, off, none⟩) n cap0)); exact exec_val (c := .slice (some ⟨b, off, none⟩) n cap0) (wanted_yes (b := false) (t := 29) rfl rfl h29) (by go_simp) rfl
          case o11 => intro aR wR hR; replace hR := hR.undrew; intro v29 h29 e29; replace e29 : v29 = .bool false := e29; subst e29; intro (h5 : aR.tmps[5]? = some (.int .i64 (k : Int))); exact exec_val (c := .int .i64 (k : Int)) (wanted_yes (b := false) (t := 29) rfl rfl h29) (by go_simp) rfl
          case o12 => intro aR wR hR; replace hR := hR.undrew; intro v29 h29 e29; replace e29 : v29 = .bool false := e29; subst e29; intro v30 h30 e30; replace e30 : v30 = .slice (some ⟨b, off, none⟩) n cap0 := e30; subst e30; intro v31 h31 e31; replace e31 : v31 = .int .i64 (k : Int) := e31; subst e31; refine exec_call (wanted_yes (b := false) (t := 29) rfl rfl h29) (by go_simp; exact ⟨rfl, rfl⟩) ?_; refine (sDim_any (some ⟨b, off, none⟩) cap0 n l (k : Int) HN.out _ ((H.out.keep0 HKA.out).keep0 hR)).mono ?_; rintro e7 w7 ⟨rfl, h7⟩; subst w7; exact ⟨_, rfl, congrArg Value.bool HDD.out, Kp.refl _ _⟩
          case o13 => intro aR wR hR; replace hR := hR.undrew; intro v29 h29 e29; replace e29 : v29 = .bool false := e29; subst e29; intro (h0 : aR.tmps[0]? = some (.slice (some ⟨b, off, none⟩) n cap0)); exact exec_val (c := .slice (some ⟨b, off, none⟩) n cap0) (wanted_yes (b := false) (t := 29) rfl rfl h29) (by go_simp) rfl
          case o14 => intro aR wR hR; replace hR := hR.undrew; intro v29 h29 e29; replace e29 : v29 = .bool false := e29; subst e29; intro (h5 : aR.tmps[5]? = some (.int .i64 (k : Int))); exact exec_val (c := .int .i64 (k : Int)) (wanted_yes (b := false) (t := 29) rfl rfl h29) (by go_simp) rfl
          case o15 => intro aR wR hR; replace hR := hR.undrew; intro v29 h29 e29; replace e29 : v29 = .bool false := e29; subst e29; intro v33 h33 e33; replace e33 : v33 = .slice (some ⟨b, off, none⟩) n cap0 := e33; subst e33; intro v34 h34 e34; replace e34 : v34 = .int .i64 (k : Int) := e34; subst e34; (skip); exact exec_val (c := .pointer (some ⟨b, off + k * 2, none⟩)) (wanted_yes (b := false) (t := 29) rfl rfl h29) (by go_simp) rfl
          case o16 => intro aR wR hR; replace hR := hR.undrew; intro v29 h29 e29; replace e29 : v29 = .bool false := e29; subst e29; intro v35 h35 e35; replace e35 : v35 = .pointer (some ⟨b, off + k * 2, none⟩) := e35; subst e35; (skip); exact exec_val (c := .pointer (some ⟨b, off + k * 2 + 1, none⟩)) (wanted_yes (b := false) (t := 29) rfl rfl h29) (by go_simp) rfl
          case o17 => intro aR wR hR; replace hR := hR.undrew; intro v29 h29 e29; replace e29 : v29 = .bool false := e29; subst e29; intro v36 h36 e36; replace e36 : v36 = .pointer (some ⟨b, off + k * 2 + 1, none⟩) := e36; subst e36; (have hc := hR.cell HD1.out (by simp)); exact exec_val (c := .int .u8 x.kd) (wanted_yes (b := false) (t := 29) rfl rfl h29) (by go_simp) rfl
          case o18 => intro aR wR hR; replace hR := hR.undrew; intro v29 h29 e29; replace e29 : v29 = .bool false := e29; subst e29; intro v37 h37 e37; replace e37 : v37 = .int .u8 x.kd := e37; subst e37; exact exec_val (c := .bool false) (wanted_yes (b := false) (t := 29) rfl rfl h29) (by go_simp) rfl
          case o19 => intro aR wR hR; replace hR := hR.undrew; intro v29 h29 e29; replace e29 : v29 = .bool false := e29; subst e29; intro v32 h32 e32; replace e32 : v32 = .bool true := e32; subst e32; intro v38 h38 e38; replace e38 : v38 = .bool false := e38; subst e38; exact exec_val (c := .bool false) (wanted_yes (b := false) (t := 29) rfl rfl h29) (by go_simp) rfl
          case o20 => intro aR wR hR; replace hR := hR.undrew; intro v29 h29 e29; replace e29 : v29 = .bool false := e29; subst e29; intro v39 h39 e39; replace e39 : v39 = .bool false := e39; subst e39; exact exec_val (c := .bool false) (wanted_none rfl) (by go_simp) rfl
        · intro vs wR hR hV
          obtain ⟨e0, e1, e2, e3, e4, e5, e6, e7, e8, e9, e10, e11, e12, e13, e14, e15, e16, e17, e18, e19, e20, -⟩ := hV
          replace e0 : vs 0 = .slice (some ⟨b, off, none⟩) n cap0 := e0
          replace e1 : vs 1 = .slice (some ⟨b, off, none⟩) n cap0 := e1
          replace e2 : vs 2 = .int .i64 (k : Int) := e2
          replace e3 : vs 3 = .pointer (some ⟨b, off + k * 2, none⟩) := e3
          replace e4 : vs 4 = .pointer (some ⟨b, off + k * 2, none⟩) := e4
          replace e5 : vs 5 = .string x.nm := e5
          replace e6 : vs 6 = .int .i64 (k : Int) := e6
          replace e7 : vs 7 = .int .i64 (k : Int) := e7
          replace e8 : vs 8 = .bool false := e8
          replace e9 : vs 9 = .bool false := e9
          replace e10 : vs 10 = .slice (some ⟨b, off, none⟩) n cap0 := e10
          replace e11 : vs 11 = .int .i64 (k : Int) := e11
          replace e12 : vs 12 = .bool true := e12
          replace e13 : vs 13 = .slice (some ⟨b, off, none⟩) n cap0 := e13
          replace e14 : vs 14 = .int .i64 (k : Int) := e14
          replace e15 : vs 15 = .pointer (some ⟨b, off + k * 2, none⟩) := e15
          replace e16 : vs 16 = .pointer (some ⟨b, off + k * 2 + 1, none⟩) := e16
          replace e17 : vs 17 = .int .u8 x.kd := e17
          replace e18 : vs 18 = .bool false := e18
          replace e19 : vs 19 = .bool false := e19
          replace e20 : vs 20 = .bool false := e20
          simp only [putAll, e0, e1, e2, e3, e4, e5, e6, e7, e8, e9, e10, e11, e12, e13, e14, e15, e16, e17, e18, e19, e20, Nat.reduceAdd, Nat.zero_add]
          clear e0 e1 e2 e3 e4 e5 e6 e7 e8 e9 e10 e11 e12 e13 e14 e15 e16 e17 e18 e19 e20
          try simp only [List.setIfInBounds_toArray, List.set_cons_succ, List.set_cons_zero]
          have HKR := Lib.hid (HK.out.tr hR)
          clear hR
          go_wp2_with fail
          go_roundw
          case rel => exact ⟨k + 1, hlt, by go_num, HKR⟩
          case measure => simp [intOf]; omega
    · obtain rfl : k = n := by omega
      have p0 := HK.out.cell HP0.out (by simp)
      have p1 := HK.out.cell HP1.out (by simp)
      have p2 := HK.out.cell HP2.out (by simp)
      have p3 := HK.out.cell HP3.out (by simp)
      have p4 := HK.out.cell HP4.out (by simp)
      go_wp2_with fail
      refine (sfits_w HVL.out HN.out (H.out.keep0 HKA.out) HO.out (HC.out.keep0 HKA.out)).mono ?_
      rintro e w8 ⟨rfl, kp8⟩
      have HK8 := Lib.hid (HKA.out.tr kp8)
      have HQ0 := Lib.hid (kp8.cell p0 (by simp))
      have HQ1 := Lib.hid (kp8.cell p1 (by simp))
      have HQ2 := Lib.hid (kp8.cell p2 (by simp))
      have HQ3 := Lib.hid (kp8.cell p3 (by simp))
      have HQ4 := Lib.hid (kp8.cell p4 (by simp))
      clear kp8 p0 p1 p2 p3 p4
      cases hf : fitsC l c with
      | false =>
        go_wp2_with fail
        refine (known17_any _).mono ?_
        rintro e w9 ⟨rfl, kp9⟩
        go_wp2_with fail
        go_ret
        exact ⟨rfl, HK8.out.tr kp9⟩
      | true =>
      have HB1 := Lib.hid (fits_b1 hf)
      have HB3 : Hid (fitsC l (bare (k : Int) 1) = false) := Lib.hid (by rw [HN.out]; exact fits_b3 l)
      clear hf
      go_upto_region 11 with (fail)
      refine wp_region_K (by kernel_rfl) [.val (.slice a0 k cap0), .val (.pointer (some ⟨w.heap.size, 4, none⟩)), .val (.int .i64 c.leaf), .val (.agg #[.int .i64 (-1), .slice none 0 0, .slice none 0 0, .slice none 0 0, .int .i64 c.leaf]), .val (.bool true), .val (.bool true), .val (.slice a0 k cap0), .val (.agg #[.int .i64 (-1), .slice none 0 0, .slice none 0 0, .slice none 0 0, .int .i64 0]), .val (.bool false), .val (.bool true), .val (.bool true), .val (.bool true), .val (.slice a0 k cap0), .val (.slice a0 k cap0), .val (.int .i64 ((k : Nat) : Int)), .val (.agg #[.int .i64 (k : Int), .slice none 0 0, .slice none 0 0, .slice none 0 0, .int .i64 1]), .val (.bool false), .val (.bool true), .val (.bool true), .val (.bool true), .val (.agg #[.int .i64 c.srt, .slice c.ia ni c.ic, .slice c.ra nr c.rc, .slice c.sa ns c.sc, .int .i64 c.leaf]), .val (.agg #[.int .i64 c.srt, .slice c.ia ni c.ic, .slice c.ra nr c.rc, .slice c.sa ns c.sc, .int .i64 c.leaf]), .cfg c, .val (.bool true), .val (.bool true), .val (.bool true), .val (.bool true), .val (.bool true), .val (.bool true)] [[(0, none)], [(3, none)], [(48, some 1)], [(49, some 2)], [(47, some 0), (50, some 3)], [(51, some 4)], [(52, some 5), (0, none)], [(52, some 5)], [(52, some 5), (53, some 6), (54, some 7)], [(52, some 5), (55, some 8)], [(52, some 5), (56, some 9)], [(57, some 10)], [(58, some 11), (0, none)], [(58, some 11), (0, none)], [(58, some 11), (60, some 13)], [(58, some 11), (61, some 14)], [(58, some 11), (59, some 12), (62, some 15)], [(58, some 11), (63, some 16)], [(58, some 11), (64, some 17)], [(65, some 18)], [(66, some 19), (3, none)], [(66, some 19), (3, none)], [(66, some 19), (68, some 21)], [(66, some 19), (67, some 20), (69, some 22)], [(66, some 19), (70, some 23)], [(71, some 24)], [(72, some 25)], [(72, some 25), (73, some 26)], [(74, some 27)]] rfl (by kernel_rfl) ?_ ?_
      · refine ⟨?o0, ?o1, ?o2, ?o3, ?o4, ?o5, ?o6, ?o7, ?o8, ?o9, ?o10, ?o11, ?o12, ?o13, ?o14, ?o15, ?o16, ?o17, ?o18, ?o19, ?o20, ?o21, ?o22, ?o23, ?o24, ?o25, ?o26, ?o27, ?o28, trivial⟩
        case o0 => intro aR wR hR; replace hR := hR.undrew; intro (h0 : aR.tmps[0]? = some (.slice a0 k cap0)); exact exec_val (c := .slice a0 k cap0) (wanted_none rfl) (by go_simp) rfl
        case o1 => intro aR wR hR; replace hR := hR.undrew; intro (h3 : aR.tmps[3]? = some (.pointer (some ⟨w.heap.size, 0, none⟩))); exact exec_val (c := .pointer (some ⟨w.heap.size, 4, none⟩)) (wanted_none rfl) (by go_simp) rfl
        case o2 => intro aR wR hR; replace hR := hR.undrew; intro v48 h48 e48; replace e48 : v48 = .pointer (some ⟨w.heap.size, 4, none⟩) := e48; subst e48; (have h4 := hR.cell HQ4.out (by simp)); exact exec_val (c := .int .i64 c.leaf) (wanted_none rfl) (by go_simp) rfl
        case o3 => intro aR wR hR; replace hR := hR.undrew; intro v49 h49 e49; replace e49 : v49 = .int .i64 c.leaf := e49; subst e49; (skip); exact exec_val (c := .agg #[.int .i64 (-1), .slice none 0 0, .slice none 0 0, .slice none 0 0, .int .i64 c.leaf]) (wanted_none rfl) (by go_simp) rfl
        case o4 => intro aR wR hR; replace hR := hR.undrew; intro v47 h47 e47; replace e47 : v47 = .slice a0 k cap0 := e47; subst e47; intro v50 h50 e50; replace e50 : v50 = .agg #[.int .i64 (-1), .slice none 0 0, .slice none 0 0, .slice none 0 0, .int .i64 c.leaf] := e50; subst e50; refine exec_call (wanted_none rfl) (by go_simp; exact ⟨rfl, rfl⟩) ?_; refine (sfits_w (c := bare (-1) c.leaf) rfl HN.out ((H.out.keep0 HK8.out).keep0 hR) HO.out (bare_rd _ _ _)).mono ?_; rintro e7 w7 ⟨rfl, kp7⟩; exact ⟨_, rfl, congrArg Value.bool HB1.out, kp7⟩
        case o5 => intro aR wR hR; replace hR := hR.undrew; intro v51 h51 e51; replace e51 : v51 = .bool true := e51; subst e51; exact exec_val (c := .bool true) (wanted_none rfl) (by go_simp) rfl
        case o6 => intro aR wR hR; replace hR := hR.undrew; intro v52 h52 e52; replace e52 : v52 = .bool true := e52; subst e52; intro (h0 : aR.tmps[0]? = some (.slice a0 k cap0)); exact exec_val (c := .slice a0 k cap0) (wanted_yes (b := true) (t := 52) rfl rfl h52) (by go_simp) rfl
        case o7 => intro aR wR hR; replace hR := hR.undrew; intro v52 h52 e52; replace e52 : v52 = .bool true := e52; subst e52; (skip); exact exec_val (c := .agg #[.int .i64 (-1), .slice none 0 0, .slice none 0 0, .slice none 0 0, .int .i64 0]) (wanted_yes (b := true) (t := 52) rfl rfl h52) (by go_simp) rfl
        case o8 => intro aR wR hR; replace hR := hR.undrew; intro v52 h52 e52; replace e52 : v52 = .bool true := e52; subst e52; intro v53 h53 e53; replace e53 : v53 = .slice a0 k cap0 := e53; subst e53; intro v54 h54 e54; replace e54 : v54 = .agg #[.int .i64 (-1), .slice none 0 0, .slice none 0 0, .slice none 0 0, .int .i64 0] := e54; subst e54; refine exec_call (wanted_yes (b := true) (t := 52) rfl rfl h52) (by go_simp; exact ⟨rfl, rfl⟩) ?_; refine (sfits_w (c := bare (-1) 0) rfl HN.out ((H.out.keep0 HK8.out).keep0 hR) HO.out (bare_rd _ _ _)).mono ?_; rintro e7 w7 ⟨rfl, kp7⟩; exact ⟨_, rfl, congrArg Value.bool (fits_b2 l), kp7⟩
        case o9 => intro aR wR hR; replace hR := hR.undrew; intro v52 h52 e52; replace e52 : v52 = .bool true := e52; subst e52; intro v55 h55 e55; replace e55 : v55 = .bool false := e55; subst e55; exact exec_val (c := .bool true) (wanted_yes (b := true) (t := 52) rfl rfl h52) (by go_simp) rfl
        case o10 => intro aR wR hR; replace hR := hR.undrew; intro v52 h52 e52; replace e52 : v52 = .bool true := e52; subst e52; intro v56 h56 e56; replace e56 : v56 = .bool true := e56; subst e56; exact exec_val (c := .bool true) (wanted_none rfl) (by go_simp) rfl
        case o11 => intro aR wR hR; replace hR := hR.undrew; intro v57 h57 e57; replace e57 : v57 = .bool true := e57; subst e57; exact exec_val (c := .bool true) (wanted_none rfl) (by go_simp) rfl
        case o12 => intro aR wR hR; replace hR := hR.undrew; intro v58 h58 e58; replace e58 : v58 = .bool true := e58; subst e58; intro (h0 : aR.tmps[0]? = some (.slice a0 k cap0)); exact exec_val (c := .slice a0 k cap0) (wanted_yes (b := true) (t := 58) rfl rfl h58) (by go_simp) rfl
        case o13 => intro aR wR hR; replace hR := hR.undrew; intro v58 h58 e58; replace e58 : v58 = .bool true := e58; subst e58; intro (h0 : aR.tmps[0]? = some (.slice a0 k cap0)); exact exec_val (c := .slice a0 k cap0) (wanted_yes (b := true) (t := 58) rfl rfl h58) (by go_simp) rfl
        case o14 => intro aR wR hR; replace hR := hR.undrew; intro v58 h58 e58; replace e58 : v58 = .bool true := e58; subst e58; intro v60 h60 e60; replace e60 : v60 = .slice a0 k cap0 := e60; subst e60; exact exec_val (c := .int .i64 ((k : Nat) : Int)) (wanted_yes (b := true) (t := 58) rfl rfl h58) (by go_simp) rfl
        case o15 => intro aR wR hR; replace hR := hR.undrew; intro v58 h58 e58; replace e58 : v58 = .bool true := e58; subst e58; intro v61 h61 e61; replace e61 : v61 = .int .i64 ((k : Nat) : Int) := e61; subst e61; (skip); exact exec_val (c := .agg #[.int .i64 (k : Int), .slice none 0 0, .slice none 0 0, .slice none 0 0, .int .i64 1]) (wanted_yes (b := true) (t := 58) rfl rfl h58) (by go_simp) rfl
        case o16 => intro aR wR hR; replace hR := hR.undrew; intro v58 h58 e58; replace e58 : v58 = .bool true := e58; subst e58; intro v59 h59 e59; replace e59 : v59 = .slice a0 k cap0 := e59; subst e59; intro v62 h62 e62; replace e62 : v62 = .agg #[.int .i64 (k : Int), .slice none 0 0, .slice none 0 0, .slice none 0 0, .int .i64 1] := e62; subst e62; refine exec_call (wanted_yes (b := true) (t := 58) rfl rfl h58) (by go_simp; exact ⟨rfl, rfl⟩) ?_; refine (sfits_w (c := bare (k : Int) 1) rfl HN.out ((H.out.keep0 HK8.out).keep0 hR) HO.out (bare_rd _ _ _)).mono ?_; rintro e7 w7 ⟨rfl, kp7⟩; exact ⟨_, rfl, congrArg Value.bool HB3.out, kp7⟩
        case o17 => intro aR wR hR; replace hR := hR.undrew; intro v58 h58 e58; replace e58 : v58 = .bool true := e58; subst e58; intro v63 h63 e63; replace e63 : v63 = .bool false := e63; subst e63; exact exec_val (c := .bool true) (wanted_yes (b := true) (t := 58) rfl rfl h58) (by go_simp) rfl
        case o18 => intro aR wR hR; replace hR := hR.undrew; intro v58 h58 e58; replace e58 : v58 = .bool true := e58; subst e58; intro v64 h64 e64; replace e64 : v64 = .bool true := e64; subst e64; exact exec_val (c := .bool true) (wanted_none rfl) (by go_simp) rfl
        case o19 => intro aR wR hR; replace hR := hR.undrew; intro v65 h65 e65; replace e65 : v65 = .bool true := e65; subst e65; exact exec_val (c := .bool true) (wanted_none rfl) (by go_simp) rfl
        case o20 => intro aR wR hR; replace hR := hR.undrew; intro v66 h66 e66; replace e66 : v66 = .bool true := e66; subst e66; intro (h3 : aR.tmps[3]? = some (.pointer (some ⟨w.heap.size, 0, none⟩))); (have h0 := hR.cell HQ0.out (by simp); have h1 := hR.cell HQ1.out (by simp); have h2 := hR.cell HQ2.out (by simp); have h3 := hR.cell HQ3.out (by simp); have h4 := hR.cell HQ4.out (by simp)); exact exec_val (c := .agg #[.int .i64 c.srt, .slice c.ia ni c.ic, .slice c.ra nr c.rc, .slice c.sa ns c.sc, .int .i64 c.leaf]) (wanted_yes (b := true) (t := 66) rfl rfl h66) (by go_simp) rfl
        case o21 => intro aR wR hR; replace hR := hR.undrew; intro v66 h66 e66; replace e66 : v66 = .bool true := e66; subst e66; intro (h3 : aR.tmps[3]? = some (.pointer (some ⟨w.heap.size, 0, none⟩))); (have h0 := hR.cell HQ0.out (by simp); have h1 := hR.cell HQ1.out (by simp); have h2 := hR.cell HQ2.out (by simp); have h3 := hR.cell HQ3.out (by simp); have h4 := hR.cell HQ4.out (by simp)); exact exec_val (c := .agg #[.int .i64 c.srt, .slice c.ia ni c.ic, .slice c.ra nr c.rc, .slice c.sa ns c.sc, .int .i64 c.leaf]) (wanted_yes (b := true) (t := 66) rfl rfl h66) (by go_simp) rfl
        case o22 => intro aR wR hR; replace hR := hR.undrew; intro v66 h66 e66; replace e66 : v66 = .bool true := e66; subst e66; intro v68 h68 e68; replace e68 : v68 = .agg #[.int .i64 c.srt, .slice c.ia ni c.ic, .slice c.ra nr c.rc, .slice c.sa ns c.sc, .int .i64 c.leaf] := e68; subst e68; refine exec_call (wanted_yes (b := true) (t := 66) rfl rfl h66) (by go_simp; exact ⟨rfl, rfl⟩) ?_; refine (copy_w HVL.out ((HC.out.keep0 HK8.out).keep0 hR) (by have := HGN.out; omega) (by have := HGN.out; omega) (by have := HGN.out; omega)).mono ?_; rintro e7 w7 ⟨d7, rfl, hd7, ha7, kp7⟩; exact ⟨_, rfl, ⟨d7, rfl, hd7, ha7⟩, kp7⟩
        case o23 => intro aR wR hR; replace hR := hR.undrew; intro v66 h66 e66; replace e66 : v66 = .bool true := e66; subst e66; intro v67 h67 e67; replace e67 : v67 = .agg #[.int .i64 c.srt, .slice c.ia ni c.ic, .slice c.ra nr c.rc, .slice c.sa ns c.sc, .int .i64 c.leaf] := e67; subst e67; intro v69 h69 e69; refine exec_call (wanted_yes (b := true) (t := 66) rfl rfl h66) (by go_simp; exact ⟨rfl, rfl⟩) ?_; obtain ⟨d9, rfl, hd9, ha9⟩ := e69; refine (ssame_w HVL.out rfl ((HC.out.keep0 HK8.out).keep0 hR) hd9).mono ?_; rintro e7 w7 ⟨rfl, kp7⟩; exact ⟨_, rfl, congrArg Value.bool (alike_same ha9), kp7⟩
        case o24 => intro aR wR hR; replace hR := hR.undrew; intro v66 h66 e66; replace e66 : v66 = .bool true := e66; subst e66; intro v70 h70 e70; replace e70 : v70 = .bool true := e70; subst e70; exact exec_val (c := .bool true) (wanted_none rfl) (by go_simp) rfl
        case o25 => intro aR wR hR; replace hR := hR.undrew; intro v71 h71 e71; replace e71 : v71 = .bool true := e71; subst e71; exact exec_val (c := .bool true) (wanted_none rfl) (by go_simp) rfl
        case o26 => intro aR wR hR; replace hR := hR.undrew; intro v72 h72 e72; replace e72 : v72 = .bool true := e72; subst e72; refine exec_call (wanted_yes (b := true) (t := 72) rfl rfl h72) (by go_simp; exact ⟨rfl, rfl⟩) ?_; refine (known17_any _).mono ?_; rintro e7 w7 ⟨rfl, kp7⟩; exact ⟨_, rfl, rfl, kp7⟩
        case o27 => intro aR wR hR; replace hR := hR.undrew; intro v72 h72 e72; replace e72 : v72 = .bool true := e72; subst e72; intro v73 h73 e73; replace e73 : v73 = .bool true := e73; subst e73; exact exec_val (c := .bool true) (wanted_none rfl) (by go_simp) rfl
        case o28 => intro aR wR hR; replace hR := hR.undrew; intro v74 h74 e74; replace e74 : v74 = .bool true := e74; subst e74; exact exec_val (c := .bool true) (wanted_none rfl) (by go_simp) rfl
      · intro vs wR hR hV
        obtain ⟨e0, e1, e2, e3, e4, e5, e6, e7, e8, e9, e10, e11, e12, e13, e14, e15, e16, e17, e18, e19, e20, e21, e22, e23, e24, e25, e26, e27, e28, -⟩ := hV
        replace e0 : vs 0 = .slice a0 k cap0 := e0
        replace e1 : vs 1 = .pointer (some ⟨w.heap.size, 4, none⟩) := e1
        replace e2 : vs 2 = .int .i64 c.leaf := e2
        replace e3 : vs 3 = .agg #[.int .i64 (-1), .slice none 0 0, .slice none 0 0, .slice none 0 0, .int .i64 c.leaf] := e3
        replace e4 : vs 4 = .bool true := e4
        replace e5 : vs 5 = .bool true := e5
        replace e6 : vs 6 = .slice a0 k cap0 := e6
        replace e7 : vs 7 = .agg #[.int .i64 (-1), .slice none 0 0, .slice none 0 0, .slice none 0 0, .int .i64 0] := e7
        replace e8 : vs 8 = .bool false := e8
        replace e9 : vs 9 = .bool true := e9
        replace e10 : vs 10 = .bool true := e10
        replace e11 : vs 11 = .bool true := e11
        replace e12 : vs 12 = .slice a0 k cap0 := e12
        replace e13 : vs 13 = .slice a0 k cap0 := e13
        replace e14 : vs 14 = .int .i64 ((k : Nat) : Int) := e14
        replace e15 : vs 15 = .agg #[.int .i64 (k : Int), .slice none 0 0, .slice none 0 0, .slice none 0 0, .int .i64 1] := e15
        replace e16 : vs 16 = .bool false := e16
        replace e17 : vs 17 = .bool true := e17
        replace e18 : vs 18 = .bool true := e18
        replace e19 : vs 19 = .bool true := e19
        replace e20 : vs 20 = .agg #[.int .i64 c.srt, .slice c.ia ni c.ic, .slice c.ra nr c.rc, .slice c.sa ns c.sc, .int .i64 c.leaf] := e20
        replace e21 : vs 21 = .agg #[.int .i64 c.srt, .slice c.ia ni c.ic, .slice c.ra nr c.rc, .slice c.sa ns c.sc, .int .i64 c.leaf] := e21
        replace e23 : vs 23 = .bool true := e23
        replace e24 : vs 24 = .bool true := e24
        replace e25 : vs 25 = .bool true := e25
        replace e26 : vs 26 = .bool true := e26
        replace e27 : vs 27 = .bool true := e27
        replace e28 : vs 28 = .bool true := e28
        simp only [putAll, e0, e1, e2, e3, e4, e5, e6, e7, e8, e9, e10, e11, e12, e13, e14, e15, e16, e17, e18, e19, e20, e21, e23, e24, e25, e26, e27, e28, Nat.reduceAdd, Nat.zero_add]
        clear e0 e1 e2 e3 e4 e5 e6 e7 e8 e9 e10 e11 e12 e13 e14 e15 e16 e17 e18 e19 e20 e21 e23 e24 e25 e26 e27 e28
        try simp only [List.setIfInBounds_toArray, List.set_cons_succ, List.set_cons_zero]
        go_wp2_with fail
        go_ret
        exact ⟨rfl, HK8.out.tr hR⟩
end Go.Proofs.Ytegnobdablbahaa
