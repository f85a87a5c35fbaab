/-
  Schema: whether a configuration fits.
-/
import Derived.Test.YtfacpfogdcefpaaSch3
namespace Go.Proofs.Ytfacpfogdcefpaa
open Go.RowKit
set_option linter.unusedSimpArgs false
set_option linter.unusedVariables false

/-- A configuration, as it lies in memory. -/
structure Cfg where
  srt : Int
  ia : Option Addr
  ic : Nat
  inv : List Bool
  ra : Option Addr
  rc : Nat
  rng : List Bool
  sa : Option Addr
  sc : Nat
  spl : List Int
  leaf : Int
def cfgV (c : Cfg) : Value := .agg #[.int .i64 c.srt, .slice c.ia c.inv.length c.ic, .slice c.ra c.rng.length c.rc, .slice c.sa c.spl.length c.sc, .int .i64 c.leaf]
def RdCfg (w : World) (c : Cfg) : Prop := RdB w c.ia c.ic c.inv ∧ RdB w c.ra c.rc c.rng ∧ Rd w .i64 c.sa c.sc c.spl
theorem RdCfg.keep0 {w w' : World} {c : Cfg} (h : RdCfg w c) (k : Kp [] w w') : RdCfg w' c := ⟨h.1.keep0 k, h.2.1.keep0 k, h.2.2.keep0 k⟩

/-- May flags be? -/
def flagC (l : List Col) (f : List Bool) : Bool := !upto f.length (fun i => at0 f i && !dimC l (i : Nat)) && (decide (f.length = 0) || decide (f.length = l.length))
def badS (l : List Col) (s : List Int) (i : Nat) : Bool := !dimC l (nth s i) || (sub s 0 i).contains (nth s i)
def tailC (c : Cfg) : Bool := decide (c.spl.length ≤ 8 ∧ 1 ≤ c.leaf ∧ c.leaf ≤ 1000000)
def srtC (l : List Col) (p : Int) : Bool := decide (p = -1) || dimC l p
/-- Does a configuration fit? -/
def fitsC (l : List Col) (c : Cfg) : Bool := mayC l && (srtC l c.srt && (flagC l c.inv && (flagC l c.rng && (!upto c.spl.length (badS l c.spl) && tailC c))))

set_option maxHeartbeats 400000 in
theorem sflagged_any (ad : Option Addr) (cap n : Nat) (l : List Col) (hn : n = l.length) (fa : Option Addr) (fc nf : Nat) (f : List Bool) (hf : nf = f.length) (w : World) (h : RdC w ad cap l) (hr : RdB w fa fc f) :
    Calls Try.prog 56 #[.slice ad n cap, .slice fa nf fc] w fun e w' => e = .returned (.bool (flagC l f)) ∧ w' = w := by
  have H := Lib.hid h
  have HR := Lib.hid hr
  have HN := Lib.hid hn
  have HF := Lib.hid hf
  have hcap := hr.1
  rw [← hf] at hcap
  have hcap2 := hr.2.1
  clear h hn hr hf
  go_enter Try.func56, Try.ntmps56
  go_wp2_with fail
  go_loopw [5, 6, 9] (fun _ _ vi wr => ∃ k : Nat, k ≤ nf ∧ vi = .int .i64 k ∧ Hid (upto k (fun i => at0 f i && !dimC l (i : Nat)) = false) ∧ wr = w) (fun _ _ vi _ => nf - (intOf vi).toNat)
  case atStart => exact ⟨0, Nat.zero_le _, rfl, Lib.hid rfl, rfl⟩
  case round =>
    obtain ⟨k, hk, rfl, HX, rfl⟩ := hrel
    by_cases hlt : k < nf
    · have hkl : k < f.length := by rw [← HF.out]; exact hlt
      obtain ⟨b, off, rfl, c0⟩ := HR.out.at' k hkl
      have HBAD : Hid ((at0 f k && !dimC l (k : Nat)) = true → flagC l f = false) := Lib.hid fun hb => by
        rw [flagC, upto_yes (k := k) hkl hb]; rfl
      have HSTEP : Hid ((at0 f k && !dimC l (k : Nat)) = false → upto (k + 1) (fun i => at0 f i && !dimC l (i : Nat)) = false) := Lib.hid fun hb => by rw [upto_step, HX.out, hb]; rfl
      clear hkl
      cases hv : at0 f k with
      | false =>
        rw [hv] at c0
        have HV := Lib.hid hv
        clear hv
        go_wp2_with fail
        go_roundw
        case rel => exact ⟨k + 1, hlt, by go_num, Lib.hid (HSTEP.out (by rw [HV.out]; rfl)), by first | rfl | trivial⟩
        case measure => simp [intOf]; omega
      | true =>
        rw [hv] at c0
        have HV := Lib.hid hv
        clear hv
        cases hd : dimC l (k : Nat) with
        | true =>
          have HD := Lib.hid hd
          clear hd
          go_wp2_with (go_at_call 55; refine (sDim_any _ _ _ l _ HN.out _ H.out).mono ?_; rintro e w7 ⟨rfl, rfl⟩; rw [HD.out])
          go_roundw
          case rel => exact ⟨k + 1, hlt, by go_num, Lib.hid (HSTEP.out (by rw [HD.out]; simp)), by first | rfl | trivial⟩
          case measure => simp [intOf]; omega
        | false =>
          have HD := Lib.hid hd
          clear hd
          go_wp2_with (go_at_call 55; refine (sDim_any _ _ _ l _ HN.out _ H.out).mono ?_; rintro e w7 ⟨rfl, rfl⟩; rw [HD.out])
          go_ret
          exact ⟨by rw [HBAD.out (by rw [HV.out, HD.out]; rfl)]; rfl, rfl⟩
    · obtain rfl : k = nf := by omega
      have HM : Hid (flagC l f = (decide (k = 0) || decide (k = n))) := Lib.hid (by rw [flagC, ← HF.out, ← HN.out, HX.out]; rfl)
      cases h1 : (k : Int) == 0
      · cases h2 : (k : Int) == (n : Int)
        · go_wp2_with fail
          go_ret
          refine ⟨?_, rfl⟩
          rw [HM.out, decide_eq_false (by intro e; subst e; simp at h1), decide_eq_false (by intro e; subst e; simp at h2)]; rfl
        · go_wp2_with fail
          go_ret
          refine ⟨?_, rfl⟩
          rw [HM.out, decide_eq_true (p := k = n) (by have := beq_iff_eq.1 h2; omega)]; simp
      · go_wp2_with fail
        go_ret
        refine ⟨?_, rfl⟩
        rw [HM.out, decide_eq_true (p := k = 0) (by have := beq_iff_eq.1 h1; omega)]; rfl

set_option maxHeartbeats 1600000 in
theorem sFits_any (ad : Option Addr) (cap n : Nat) (l : List Col) (hn : n = l.length) (c : Cfg) (w : World) (h : RdC w ad cap l) (ho : COk l) (hc : RdCfg w c) :
    Calls Try.prog 32 #[.slice ad n cap, cfgV c] w fun e w' => e = .returned (.bool (fitsC l c)) ∧ Kp [] w w' := by
  have H := Lib.hid h
  have HN := Lib.hid hn
  have HO := Lib.hid ho
  have HC := Lib.hid hc
  have hcap := h.1
  rw [← hn] at hcap
  have hcap2 := h.2.1
  clear h hn ho hc
  have HV : Hid (fitsC l c = (mayC l && (srtC l c.srt && (flagC l c.inv && (flagC l c.rng && (!upto c.spl.length (badS l c.spl) && tailC c)))))) := Lib.hid rfl
  generalize fitsC l c = v at *
  obtain ⟨srt, ia, ic, inv, ra, rc, rng, sa, sc, spl, leaf⟩ := c
  simp only [cfgV]
  obtain ⟨ni, hni⟩ : ∃ ni, ni = inv.length := ⟨_, rfl⟩
  obtain ⟨nr, hnr⟩ : ∃ nr, nr = rng.length := ⟨_, rfl⟩
  obtain ⟨ns, hns⟩ : ∃ ns, ns = spl.length := ⟨_, rfl⟩
  rw [← hni, ← hnr, ← hns]
  have HNI := Lib.hid hni
  have HNR := Lib.hid hnr
  have HNS := Lib.hid hns
  have hsc := HC.out.2.2.1
  have hsc2 := HC.out.2.2.2.1
  dsimp only at hsc hsc2
  rw [← hns] at hsc
  clear hni hnr hns
  go_enter Try.func32, Try.ntmps32
  go_wp2_with fail
  refine (sMay_any _ _ _ l HN.out _ (H.out.keep0 ((Kp.refl [] w).alloc _)) HO.out).mono ?_
  rintro e w2 ⟨rfl, kp2⟩
  have p0 : w2.cell? ⟨w.heap.size, 0, none⟩ = some (.int .i64 srt) := kp2.cell (by simp) (by simp)
  have p1 : w2.cell? ⟨w.heap.size, 1, none⟩ = some (.slice ia ni ic) := kp2.cell (by simp) (by simp)
  have p2 : w2.cell? ⟨w.heap.size, 2, none⟩ = some (.slice ra nr rc) := kp2.cell (by simp) (by simp)
  have p3 : w2.cell? ⟨w.heap.size, 3, none⟩ = some (.slice sa ns sc) := kp2.cell (by simp) (by simp)
  have p4 : w2.cell? ⟨w.heap.size, 4, none⟩ = some (.int .i64 leaf) := kp2.cell (by simp) (by simp)
  have HK2 := Lib.hid (((Kp.refl [] w).alloc _).tr kp2)
  clear kp2
  have HL := Lib.hid (H.out.keep0 HK2.out)
  have HC2 := Lib.hid (HC.out.keep0 HK2.out)
  clear H HC
  cases hm : mayC l with
  | false =>
    go_wp2_with fail
    go_ret
    exact ⟨by rw [HV.out, hm]; rfl, HK2.out⟩
  | true =>
  have HM := Lib.hid hm
  clear hm
  cases he : srt != -1 with
  | false =>
    have HS : Hid (srtC l srt = true) := Lib.hid (by rw [srtC, decide_eq_true (p := srt = -1) (by simpa using he)]; rfl)
    go_wp2_with fail
    refine (sflagged_any _ _ _ l HN.out _ _ _ inv HNI.out _ HL.out HC2.out.1).mono ?_
    rintro e w7 ⟨rfl, h7⟩
    subst w7
    cases hfi : flagC l inv with
    | false =>
      have HFI := Lib.hid hfi
      clear hfi
      go_wp2_with fail
      go_ret
      exact ⟨by rw [HV.out, HFI.out]; simp, HK2.out⟩
    | true =>
    have HFI := Lib.hid hfi
    clear hfi
    go_wp2_with fail
    refine (sflagged_any _ _ _ l HN.out _ _ _ rng HNR.out _ HL.out HC2.out.2.1).mono ?_
    rintro e w7 ⟨rfl, h7⟩
    subst w7
    cases hfr : flagC l rng with
    | false =>
      have HFR := Lib.hid hfr
      clear hfr
      go_wp2_with fail
      go_ret
      exact ⟨by rw [HV.out, HFR.out]; simp, HK2.out⟩
    | true =>
    have HFR := Lib.hid hfr
    clear hfr
    go_wp2_with fail
    have HV2 : Hid (v = (!upto ns (badS l spl) && decide (ns ≤ 8 ∧ 1 ≤ leaf ∧ leaf ≤ 1000000))) := Lib.hid (by rw [HV.out, HM.out, HS.out, HFI.out, HFR.out, HNS.out]; rfl)
    go_loopw [5, 6, 39] (fun _ _ vi wr => ∃ k : Nat, k ≤ ns ∧ vi = .int .i64 k ∧ Hid (upto k (badS l spl) = false) ∧ wr = w2) (fun _ _ vi _ => ns - (intOf vi).toNat)
    case atStart => exact ⟨0, Nat.zero_le _, rfl, Lib.hid rfl, rfl⟩
    case round =>
      obtain ⟨k, hk, rfl, HX, rfl⟩ := hrel
      by_cases hlt : k < ns
      · have hkl : k < spl.length := by rw [← HNS.out]; exact hlt
        obtain ⟨b, off, hab, c0⟩ := HC2.out.2.2.2.2 k hkl
        dsimp only at hab
        subst hab
        have HBAD : Hid (badS l spl k = true → v = false) := Lib.hid fun hb => by
          rw [HV2.out, upto_yes (k := k) hlt hb]; rfl
        have HSTEP : Hid (badS l spl k = false → upto (k + 1) (badS l spl) = false) := Lib.hid fun hb => by rw [upto_step, HX.out, hb]; rfl
        have HB : Hid (badS l spl k = (!dimC l (nth spl k) || (sub spl 0 k).contains (nth spl k))) := Lib.hid rfl
        have HSUB := Lib.hid (Rd.head HC2.out.2.2 (b := k) (by dsimp only; omega))
        have hsl : (sub spl 0 k).length = k := by rw [sub_length _ _ _ (by omega)]; omega
        have HSL := Lib.hid hsl.symm
        have hkc : k ≤ sc := by omega
        clear hkl hsl
        dsimp only at c0
        generalize nth spl k = z at *
        go_wp2_with fail
        refine (sDim_any _ _ _ l _ HN.out _ HL.out).mono ?_
        rintro e w7 ⟨rfl, h7⟩
        subst w7
        cases hz : dimC l z with
        | false =>
          have HZ := Lib.hid hz
          clear hz
          go_wp2_with fail
          go_ret
          exact ⟨by rw [HBAD.out (by rw [HB.out, HZ.out]; rfl)]; rfl, HK2.out⟩
        | true =>
          have HZ := Lib.hid hz
          clear hz
          go_wp2_with fail
          refine (slContains_any _ _ _ (sub spl 0 k) _ HSL.out _ HSUB.out).mono ?_
          rintro e w7 ⟨rfl, h7⟩
          subst w7
          cases hc : (sub spl 0 k).contains z with
          | true =>
            have HCT := Lib.hid hc
            clear hc
            go_wp2_with fail
            go_ret
            exact ⟨by rw [HBAD.out (by rw [HB.out, HCT.out]; simp)]; rfl, HK2.out⟩
          | false =>
            have HCT := Lib.hid hc
            clear hc
            go_wp2_with fail
            go_roundw
            case rel => exact ⟨k + 1, hlt, by go_num, Lib.hid (HSTEP.out (by rw [HB.out, HZ.out, HCT.out]; rfl)), by first | rfl | trivial⟩
            case measure => simp [intOf]; omega
      · obtain rfl : k = ns := by omega
        have HV3 : Hid (v = decide (k ≤ 8 ∧ 1 ≤ leaf ∧ leaf ≤ 1000000)) := Lib.hid (by rw [HV2.out, HX.out]; rfl)
        by_cases h1 : (k : Int) ≤ 8
        · by_cases h2 : 1 ≤ leaf
          · by_cases h3 : leaf ≤ 1000000
            · go_wp2_with fail
              go_ret
              exact ⟨by rw [HV3.out, decide_eq_true ⟨by omega, h2, h3⟩]; rfl, HK2.out⟩
            · go_wp2_with fail
              go_ret
              exact ⟨by rw [HV3.out, decide_eq_false (by omega)]; rfl, HK2.out⟩
          · go_wp2_with fail
            go_ret
            exact ⟨by rw [HV3.out, decide_eq_false (by omega)]; rfl, HK2.out⟩
        · go_wp2_with fail
          go_ret
          exact ⟨by rw [HV3.out, decide_eq_false (by omega)]; rfl, HK2.out⟩
  | true =>
    have hne : srt ≠ -1 := by simpa using he
    have HE := Lib.hid hne
    clear hne
    go_wp2_with fail
    refine (sDim_any _ _ _ l _ HN.out _ HL.out).mono ?_
    rintro e w7 ⟨rfl, h7⟩
    subst w7
    cases hd : dimC l srt with
    | false =>
      have HS : Hid (srtC l srt = false) := Lib.hid (by rw [srtC, hd, decide_eq_false HE.out]; rfl)
      clear hd
      go_wp2_with fail
      go_ret
      exact ⟨by rw [HV.out, HS.out]; simp, HK2.out⟩
    | true =>
      have HS : Hid (srtC l srt = true) := Lib.hid (by rw [srtC, hd]; simp)
      clear hd
      go_wp2_with fail
      refine (sflagged_any _ _ _ l HN.out _ _ _ inv HNI.out _ HL.out HC2.out.1).mono ?_
      rintro e w7 ⟨rfl, h7⟩
      subst w7
      cases hfi : flagC l inv with
      | false =>
        have HFI := Lib.hid hfi
        clear hfi
        go_wp2_with fail
        go_ret
        exact ⟨by rw [HV.out, HFI.out]; simp, HK2.out⟩
      | true =>
      have HFI := Lib.hid hfi
      clear hfi
      go_wp2_with fail
      refine (sflagged_any _ _ _ l HN.out _ _ _ rng HNR.out _ HL.out HC2.out.2.1).mono ?_
      rintro e w7 ⟨rfl, h7⟩
      subst w7
      cases hfr : flagC l rng with
      | false =>
        have HFR := Lib.hid hfr
        clear hfr
        go_wp2_with fail
        go_ret
        exact ⟨by rw [HV.out, HFR.out]; simp, HK2.out⟩
      | true =>
      have HFR := Lib.hid hfr
      clear hfr
      go_wp2_with fail
      have HV2 : Hid (v = (!upto ns (badS l spl) && decide (ns ≤ 8 ∧ 1 ≤ leaf ∧ leaf ≤ 1000000))) := Lib.hid (by rw [HV.out, HM.out, HS.out, HFI.out, HFR.out, HNS.out]; rfl)
      go_loopw [5, 6, 39] (fun _ _ vi wr => ∃ k : Nat, k ≤ ns ∧ vi = .int .i64 k ∧ Hid (upto k (badS l spl) = false) ∧ wr = w2) (fun _ _ vi _ => ns - (intOf vi).toNat)
      case atStart => exact ⟨0, Nat.zero_le _, rfl, Lib.hid rfl, rfl⟩
      case round =>
        obtain ⟨k, hk, rfl, HX, rfl⟩ := hrel
        by_cases hlt : k < ns
        · have hkl : k < spl.length := by rw [← HNS.out]; exact hlt
          obtain ⟨b, off, hab, c0⟩ := HC2.out.2.2.2.2 k hkl
          dsimp only at hab
          subst hab
          have HBAD : Hid (badS l spl k = true → v = false) := Lib.hid fun hb => by
            rw [HV2.out, upto_yes (k := k) hlt hb]; rfl
          have HSTEP : Hid (badS l spl k = false → upto (k + 1) (badS l spl) = false) := Lib.hid fun hb => by rw [upto_step, HX.out, hb]; rfl
          have HB : Hid (badS l spl k = (!dimC l (nth spl k) || (sub spl 0 k).contains (nth spl k))) := Lib.hid rfl
          have HSUB := Lib.hid (Rd.head HC2.out.2.2 (b := k) (by dsimp only; omega))
          have hsl : (sub spl 0 k).length = k := by rw [sub_length _ _ _ (by omega)]; omega
          have HSL := Lib.hid hsl.symm
          have hkc : k ≤ sc := by omega
          clear hkl hsl
          dsimp only at c0
          generalize nth spl k = z at *
          go_wp2_with fail
          refine (sDim_any _ _ _ l _ HN.out _ HL.out).mono ?_
          rintro e w7 ⟨rfl, h7⟩
          subst w7
          cases hz : dimC l z with
          | false =>
            have HZ := Lib.hid hz
            clear hz
            go_wp2_with fail
            go_ret
            exact ⟨by rw [HBAD.out (by rw [HB.out, HZ.out]; rfl)]; rfl, HK2.out⟩
          | true =>
            have HZ := Lib.hid hz
            clear hz
            go_wp2_with fail
            refine (slContains_any _ _ _ (sub spl 0 k) _ HSL.out _ HSUB.out).mono ?_
            rintro e w7 ⟨rfl, h7⟩
            subst w7
            cases hc : (sub spl 0 k).contains z with
            | true =>
              have HCT := Lib.hid hc
              clear hc
              go_wp2_with fail
              go_ret
              exact ⟨by rw [HBAD.out (by rw [HB.out, HCT.out]; simp)]; rfl, HK2.out⟩
            | false =>
              have HCT := Lib.hid hc
              clear hc
              go_wp2_with fail
              go_roundw
              case rel => exact ⟨k + 1, hlt, by go_num, Lib.hid (HSTEP.out (by rw [HB.out, HZ.out, HCT.out]; rfl)), by first | rfl | trivial⟩
              case measure => simp [intOf]; omega
        · obtain rfl : k = ns := by omega
          have HV3 : Hid (v = decide (k ≤ 8 ∧ 1 ≤ leaf ∧ leaf ≤ 1000000)) := Lib.hid (by rw [HV2.out, HX.out]; rfl)
          by_cases h1 : (k : Int) ≤ 8
          · by_cases h2 : 1 ≤ leaf
            · by_cases h3 : leaf ≤ 1000000
              · go_wp2_with fail
                go_ret
                exact ⟨by rw [HV3.out, decide_eq_true ⟨by omega, h2, h3⟩]; rfl, HK2.out⟩
              · go_wp2_with fail
                go_ret
                exact ⟨by rw [HV3.out, decide_eq_false (by omega)]; rfl, HK2.out⟩
            · go_wp2_with fail
              go_ret
              exact ⟨by rw [HV3.out, decide_eq_false (by omega)]; rfl, HK2.out⟩
          · go_wp2_with fail
            go_ret
            exact ⟨by rw [HV3.out, decide_eq_false (by omega)]; rfl, HK2.out⟩

end Go.Proofs.Ytfacpfogdcefpaa
