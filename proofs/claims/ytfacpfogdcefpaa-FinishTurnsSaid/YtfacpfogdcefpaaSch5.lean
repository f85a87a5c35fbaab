/-
  Schema: whether a configuration fits, as the document has it.
-/
import Derived.Test.YtfacpfogdcefpaaSch4
import Derived.Deep.DeepCutAuto
namespace Go.Proofs.Ytfacpfogdcefpaa
open Go.RowKit
set_option linter.unusedSimpArgs false
set_option linter.unusedVariables false

def lenR (l : List Col) (f : List Bool) : Bool := decide (f.length = 0) || decide (f.length = l.length)
def badF (l : List Col) (a b : List Bool) (i : Nat) : Bool := !dimC l (i : Nat) && (hasB a (i : Nat) || hasB b (i : Nat))
def eqN (s : List Int) (i k : Nat) : Bool := nth s k == nth s i
def badR (l : List Col) (s : List Int) (i : Nat) : Bool := !dimC l (nth s i) || upto i (eqN s i)
/-- What the document answers. -/
def fitsR (l : List Col) (c : Cfg) : Bool := mayC l && (srtC l c.srt && ((lenR l c.inv && lenR l c.rng) && (!upto l.length (badF l c.inv c.rng) && (!upto c.spl.length (badR l c.spl) && tailC c))))

theorem bool_ext {a b : Bool} (h : a = true ↔ b = true) : a = b := by cases a <;> cases b <;> simp_all
theorem nupto {n : Nat} {p : Nat → Bool} : (!upto n p) = true ↔ ∀ k, k < n → p k = false := by
  constructor
  · intro h k hk; exact upto_no hk (by simpa using h)
  · intro h; rw [upto_false h]; rfl
theorem has_at (f : List Bool) (i : Nat) (h : i < f.length) : hasB f (i : Nat) = at0 f i := by rw [hasB_in (by omega), Int.toNat_natCast]
theorem has_no (f : List Bool) (i : Nat) (h : ¬ i < f.length) : hasB f (i : Nat) = false := hasB_out (by omega)
theorem flag_iff (l : List Col) (f : List Bool) : flagC l f = true ↔ lenR l f = true ∧ ∀ k, k < l.length → dimC l (k : Nat) = false → hasB f (k : Nat) = false := by
  rw [flagC, Bool.and_eq_true, nupto]
  constructor
  · rintro ⟨h1, h2⟩
    refine ⟨h2, fun k hk hd => ?_⟩
    by_cases hlt : k < f.length
    · have := h1 k hlt
      rw [hd] at this
      rw [has_at f k hlt]; simpa using this
    · exact has_no f k hlt
  · rintro ⟨h1, h2⟩
    refine ⟨fun k hk => ?_, h1⟩
    have h3 : k < l.length := by
      simp only [lenR, Bool.or_eq_true, decide_eq_true_eq] at h1; omega
    cases hd : dimC l (k : Nat)
    · have := h2 k h3 hd
      rw [has_at f k hk] at this
      rw [this]; rfl
    · simp
theorem cont_upto (s : List Int) (i : Nat) (hi : i < s.length) (z : Int) (hz : z = nth s i) : (sub s 0 i).contains z = upto i (eqN s i) := by
  apply bool_ext
  rw [List.contains_iff_mem, List.mem_iff_getElem]
  constructor
  · rintro ⟨k, hk, he⟩
    rw [sub_length _ _ _ (by omega)] at hk
    refine upto_yes (k := k) (by omega) ?_
    have : nth (sub s 0 i) k = z := by rw [← he]; simp [nth, sub_length _ _ _ (show i ≤ s.length by omega), show k < i by omega]
    rw [nth_sub _ _ _ _ (by omega), Nat.zero_add] at this
    rw [eqN, this, hz]; simp
  · intro h
    obtain ⟨k, hk, he⟩ := upto_ex h
    have hk2 : k < (sub s 0 i).length := by rw [sub_length _ _ _ (by omega)]; omega
    refine ⟨k, hk2, ?_⟩
    have : nth (sub s 0 i) k = (sub s 0 i)[k] := by simp [nth, hk2]
    rw [← this, nth_sub _ _ _ _ (by omega), Nat.zero_add, hz]
    simpa [eqN] using he
theorem fits_eq (l : List Col) (c : Cfg) : fitsR l c = fitsC l c := by
  have hS : upto c.spl.length (badR l c.spl) = upto c.spl.length (badS l c.spl) := upto_congr fun k hk => by rw [badR, badS, cont_upto _ _ hk _ rfl]
  have hF : (flagC l c.inv && flagC l c.rng) = ((lenR l c.inv && lenR l c.rng) && !upto l.length (badF l c.inv c.rng)) := by
    apply bool_ext
    simp only [Bool.and_eq_true, flag_iff, nupto, badF]
    constructor
    · rintro ⟨⟨h1, h2⟩, h3, h4⟩
      refine ⟨⟨h1, h3⟩, fun k hk => ?_⟩
      cases hd : dimC l (k : Nat)
      · rw [h2 k hk hd, h4 k hk hd]; rfl
      · rfl
    · rintro ⟨⟨h1, h3⟩, h5⟩
      refine ⟨⟨h1, fun k hk hd => ?_⟩, h3, fun k hk hd => ?_⟩
      · have := h5 k hk; rw [hd] at this; simp at this; exact this.1
      · have := h5 k hk; rw [hd] at this; simp at this; exact this.2
  rw [fitsR, fitsC, hS, ← Bool.and_assoc (flagC l c.inv), hF, Bool.and_assoc (lenR l c.inv && lenR l c.rng)]

set_option maxHeartbeats 1600000 in
set_option maxRecDepth 100000 in
theorem r17Fits_any (ad : Option Addr) (cap n : Nat) (l : List Col) (hn : n = l.length) (c : Cfg) (w : World) (h : RdC w ad cap l) (ho : COk l) (hc : RdCfg w c) :
    Calls Try.prog 35 #[.slice ad n cap, cfgV c] w fun e w' => e = .returned (.bool (fitsC l c)) ∧ Kp [] w w' := by
  rw [← fits_eq]
  have H := Lib.hid h
  have HN := Lib.hid hn
  have HO := Lib.hid ho
  have HC := Lib.hid hc
  have hcap := h.1
  rw [← hn] at hcap
  have hcap2 := h.2.1
  clear h hn ho hc
  have HV : Hid (fitsR l c = (mayC l && (srtC l c.srt && ((lenR l c.inv && lenR l c.rng) && (!upto l.length (badF l c.inv c.rng) && (!upto c.spl.length (badR l c.spl) && tailC c)))))) := Lib.hid rfl
  generalize fitsR l c = v at *
  obtain ⟨srt, ia, ic, inv, ra, rc, rng, sa, sc, spl, leaf⟩ := c
  simp only [cfgV]
  obtain ⟨ni, hni⟩ : ∃ ni, ni = inv.length := ⟨_, rfl⟩
  obtain ⟨nr, hnr⟩ : ∃ nr, nr = rng.length := ⟨_, rfl⟩
  obtain ⟨ns, hns⟩ : ∃ ns, ns = spl.length := ⟨_, rfl⟩
  rw [← hni, ← hnr, ← hns]
  have HNI := Lib.hid hni
  have HNR := Lib.hid hnr
  have HNS := Lib.hid hns
  have hsc := HC.out.2.2.1
  have hsc2 := HC.out.2.2.2.1
  dsimp only at hsc hsc2
  rw [← hns] at hsc
  clear hni hnr hns
  have HLI : Hid (lenR l inv = (decide (ni = 0) || decide (ni = n))) := Lib.hid (by rw [lenR, ← HNI.out, ← HN.out])
  have HLR : Hid (lenR l rng = (decide (nr = 0) || decide (nr = n))) := Lib.hid (by rw [lenR, ← HNR.out, ← HN.out])
  go_enter Try.func35, Try.ntmps35
  go_upto_region 1 with (fail)
  go_cut [22] (fun v22 wx => v22 = .bool (!(mayC l && srtC l srt)) ∧ Hid (Kp [] w wx) ∧ wx.cell? ⟨w.heap.size, 1, none⟩ = some (.slice ia ni ic) ∧ wx.cell? ⟨w.heap.size, 2, none⟩ = some (.slice ra nr rc) ∧ wx.cell? ⟨w.heap.size, 3, none⟩ = some (.slice sa ns sc) ∧ wx.cell? ⟨w.heap.size, 4, none⟩ = some (.int .i64 leaf) ∧ w.heap.size < wx.heap.size)
  case first =>
    go_wp2_with fail
    refine (r17May_any _ _ _ l HN.out _ (H.out.keep0 ((Kp.refl [] w).alloc _)) HO.out).mono ?_
    rintro e w2 ⟨rfl, kp2⟩
    have p0 : w2.cell? ⟨w.heap.size, 0, none⟩ = some (.int .i64 srt) := kp2.cell (by simp) (by simp)
    have p1 : w2.cell? ⟨w.heap.size, 1, none⟩ = some (.slice ia ni ic) := kp2.cell (by simp) (by simp)
    have p2 : w2.cell? ⟨w.heap.size, 2, none⟩ = some (.slice ra nr rc) := kp2.cell (by simp) (by simp)
    have p3 : w2.cell? ⟨w.heap.size, 3, none⟩ = some (.slice sa ns sc) := kp2.cell (by simp) (by simp)
    have p4 : w2.cell? ⟨w.heap.size, 4, none⟩ = some (.int .i64 leaf) := kp2.cell (by simp) (by simp)
    have HK2 := Lib.hid (((Kp.refl [] w).alloc _).tr kp2)
    have hbk := World.block_lt_of_cell? w2 _ p0
    clear kp2
    have HL := Lib.hid (H.out.keep0 HK2.out)
    cases hm : mayC l with
    | false =>
      have HM := Lib.hid hm
      clear hm
      go_wp2_with fail
      go_meet
      exact ⟨by rw [HM.out]; rfl, HK2, p1, p2, p3, p4, hbk⟩
    | true =>
      have HM := Lib.hid hm
      clear hm
      cases he : srt != -1 with
      | false =>
        have HS : Hid (srtC l srt = true) := Lib.hid (by rw [srtC, decide_eq_true (p := srt = -1) (by simpa using he)]; rfl)
        go_wp2_with fail
        go_meet
        exact ⟨by rw [HM.out, HS.out]; rfl, HK2, p1, p2, p3, p4, hbk⟩
      | true =>
        have hne : srt ≠ -1 := by simpa using he
        have HS : Hid (srtC l srt = dimC l srt) := Lib.hid (by rw [srtC, decide_eq_false hne]; rfl)
        clear hne
        go_wp2_with fail
        refine (r17Dim_any _ _ _ l _ HN.out _ HL.out).mono ?_
        rintro e w7 ⟨rfl, h7⟩
        subst w7
        go_wp2_with fail
        go_meet
        exact ⟨by rw [HM.out, HS.out]; cases dimC l srt <;> rfl, HK2, p1, p2, p3, p4, hbk⟩
  obtain ⟨rfl, HK2, p1, p2, p3, p4, hbk⟩ := hcut
  obtain ⟨w2, rfl⟩ : ∃ w2, w2 = wc := ⟨_, rfl⟩
  have HL := Lib.hid (H.out.keep0 HK2.out)
  have HC2 := Lib.hid (HC.out.keep0 HK2.out)
  clear H HC
  cases hm : mayC l && srtC l srt with
  | false =>
    go_wp2_with fail
    go_ret
    refine ⟨?_, HK2.out⟩
    rw [HV.out, ← Bool.and_assoc, hm]; rfl
  | true =>
  have HM : Hid (mayC l = true) := Lib.hid (by rw [Bool.and_eq_true] at hm; exact hm.1)
  have HS : Hid (srtC l srt = true) := Lib.hid (by rw [Bool.and_eq_true] at hm; exact hm.2)
  clear hm
  go_upto_region 3 with (fail)
  go_cut [48] (fun v48 wx => v48 = .bool (!(lenR l inv && lenR l rng)) ∧ w2 = wx)
  case first =>
    cases a1 : (ni : Int) != 0 with
    | false =>
      have Ja1 : Hid (ni = 0) := Lib.hid (by simp at a1; omega)
      cases b1 : (nr : Int) != 0 with
      | false =>
        have Jb1 : Hid (nr = 0) := Lib.hid (by simp at b1; omega)
        go_wp2_with fail
        go_meet
        exact ⟨by rw [HLI.out, HLR.out]; simp [Ja1.out, Jb1.out], rfl⟩
      | true =>
        have Jb1 : Hid (¬ nr = 0) := Lib.hid (by simp at b1; omega)
        cases b2 : (nr : Int) != (n : Int) with
        | false =>
          have Jb2 : Hid (nr = n) := Lib.hid (by simp at b2; omega)
          go_wp2_with fail
          go_meet
          exact ⟨by rw [HLI.out, HLR.out]; simp [Ja1.out, Jb2.out], rfl⟩
        | true =>
          have Jb2 : Hid (¬ nr = n) := Lib.hid (by simp at b2; omega)
          go_wp2_with fail
          go_meet
          exact ⟨by rw [HLI.out, HLR.out]; simp [Ja1.out, Jb1.out, Jb2.out], rfl⟩
    | true =>
      have Ja1 : Hid (¬ ni = 0) := Lib.hid (by simp at a1; omega)
      cases a2 : (ni : Int) != (n : Int) with
      | false =>
        have Ja2 : Hid (ni = n) := Lib.hid (by simp at a2; omega)
        cases b1 : (nr : Int) != 0 with
        | false =>
          have Jb1 : Hid (nr = 0) := Lib.hid (by simp at b1; omega)
          go_wp2_with fail
          go_meet
          exact ⟨by rw [HLI.out, HLR.out]; simp [Ja2.out, Jb1.out], rfl⟩
        | true =>
          have Jb1 : Hid (¬ nr = 0) := Lib.hid (by simp at b1; omega)
          cases b2 : (nr : Int) != (n : Int) with
          | false =>
            have Jb2 : Hid (nr = n) := Lib.hid (by simp at b2; omega)
            go_wp2_with fail
            go_meet
            exact ⟨by rw [HLI.out, HLR.out]; simp [Ja2.out, Jb2.out], rfl⟩
          | true =>
            have Jb2 : Hid (¬ nr = n) := Lib.hid (by simp at b2; omega)
            go_wp2_with fail
            go_meet
            exact ⟨by rw [HLI.out, HLR.out]; simp [Ja2.out, Jb1.out, Jb2.out], rfl⟩
      | true =>
        have Ja2 : Hid (¬ ni = n) := Lib.hid (by simp at a2; omega)
        go_wp2_with fail
        go_meet
        exact ⟨by rw [HLI.out, HLR.out]; simp [Ja1.out, Ja2.out], rfl⟩
  obtain ⟨rfl, rfl⟩ := hcut
  cases hlen : lenR l inv && lenR l rng with
  | false =>
    have HLEN := Lib.hid hlen
    clear hlen
    go_wp2_with fail
    go_ret
    exact ⟨by rw [HV.out, HLEN.out]; simp, HK2.out⟩
  | true =>
  have HLEN := Lib.hid hlen
  clear hlen HLI HLR
  go_wp2_with fail
  have HV2 : Hid (v = (!upto n (badF l inv rng) && (!upto ns (badR l spl) && decide (ns ≤ 8 ∧ 1 ≤ leaf ∧ leaf ≤ 1000000)))) := Lib.hid (by rw [HV.out, HM.out, HS.out, HLEN.out, HNS.out, HN.out]; rfl)
  go_loopw [5] (fun vi wr => ∃ k : Nat, k ≤ n ∧ vi = .int .i64 k ∧ Hid (upto k (badF l inv rng) = false) ∧ wr = w2) (fun vi _ => n - (intOf vi).toNat)
  case atStart => exact ⟨0, Nat.zero_le _, rfl, Lib.hid rfl, rfl⟩
  case round =>
    obtain ⟨k, hk, rfl, HX, h7⟩ := hrel
    subst wr
    by_cases hlt : k < n
    · have HBAD : Hid (badF l inv rng k = true → v = false) := Lib.hid fun hb => by
        rw [HV2.out, upto_yes (k := k) hlt hb]; rfl
      have HSTEP : Hid (badF l inv rng k = false → upto (k + 1) (badF l inv rng) = false) := Lib.hid fun hb => by rw [upto_step, HX.out, hb]; rfl
      have HB : Hid (badF l inv rng k = (!dimC l (k : Nat) && (hasB inv (k : Nat) || hasB rng (k : Nat)))) := Lib.hid rfl
      go_wp2_with fail
      refine (r17Dim_any _ _ _ l _ HN.out _ HL.out).mono ?_
      rintro e w7 ⟨rfl, h7⟩
      subst w7
      cases hz : dimC l (k : Nat) with
      | true =>
        have HZ := Lib.hid hz
        clear hz
        go_wp2_with fail
        go_roundw
        case rel => exact ⟨k + 1, hlt, by go_num, Lib.hid (HSTEP.out (by rw [HB.out, HZ.out]; rfl)), by first | rfl | trivial⟩
        case measure => simp [intOf]; omega
      | false =>
        have HZ := Lib.hid hz
        clear hz
        go_wp2_with fail
        refine (r17Has_any _ _ _ inv _ HNI.out _ HC2.out.1).mono ?_
        rintro e w7 ⟨rfl, h7⟩
        subst w7
        cases hz1 : hasB inv (k : Nat) with
        | true =>
          have HZ1 := Lib.hid hz1
          clear hz1
          go_wp2_with fail
          go_ret
          exact ⟨by rw [HBAD.out (by rw [HB.out, HZ.out, HZ1.out]; rfl)]; rfl, HK2.out⟩
        | false =>
          have HZ1 := Lib.hid hz1
          clear hz1
          go_wp2_with fail
          refine (r17Has_any _ _ _ rng _ HNR.out _ HC2.out.2.1).mono ?_
          rintro e w7 ⟨rfl, h7⟩
          subst w7
          cases hz2 : hasB rng (k : Nat) with
          | true =>
            have HZ2 := Lib.hid hz2
            clear hz2
            go_wp2_with fail
            go_ret
            exact ⟨by rw [HBAD.out (by rw [HB.out, HZ.out, HZ2.out]; simp)]; rfl, HK2.out⟩
          | false =>
            have HZ2 := Lib.hid hz2
            clear hz2
            go_wp2_with fail
            go_roundw
            case rel => exact ⟨k + 1, hlt, by go_num, Lib.hid (HSTEP.out (by rw [HB.out, HZ.out, HZ1.out, HZ2.out]; rfl)), by first | rfl | trivial⟩
            case measure => simp [intOf]; omega
    · obtain rfl : k = n := by omega
      have HV3 : Hid (v = (!upto ns (badR l spl) && decide (ns ≤ 8 ∧ 1 ≤ leaf ∧ leaf ≤ 1000000))) := Lib.hid (by rw [HV2.out, HX.out]; rfl)
      clear HV2 HX HV
      go_wp2_with fail
      go_loopw [6, 7] (fun vi _ w9 => ∃ (j : Nat), j ≤ ns ∧ vi = .int .i64 j ∧ Hid (upto j (badR l spl) = false) ∧ Hid (Kp [] w2 w9)) (fun vi _ _ => ns - (intOf vi).toNat)
      case atStart => exact ⟨0, Nat.zero_le _, rfl, Lib.hid rfl, Lib.hid (Kp.refl _ _)⟩
      case round =>
        obtain ⟨j, hj, rfl, HX, HK8⟩ := hrel
        obtain ⟨w8, rfl⟩ : ∃ w8, w8 = wr := ⟨_, rfl⟩
        have q3 : w8.cell? ⟨w.heap.size, 3, none⟩ = some (.slice sa ns sc) := HK8.out.cell p3 (by simp)
        have q4 : w8.cell? ⟨w.heap.size, 4, none⟩ = some (.int .i64 leaf) := HK8.out.cell p4 (by simp)
        have HL8 := Lib.hid (HL.out.keep0 HK8.out)
        have HC8 := Lib.hid (HC2.out.keep0 HK8.out)
        have HKK := Lib.hid (HK2.out.tr HK8.out)
        by_cases hlt : j < ns
        · have hkl : j < spl.length := by rw [← HNS.out]; exact hlt
          obtain ⟨b, off, hab, c0⟩ := HC8.out.2.2.2.2 j hkl
          dsimp only at hab
          subst hab
          have HBAD : Hid (badR l spl j = true → v = false) := Lib.hid fun hb => by
            rw [HV3.out, upto_yes (k := j) hlt hb]; rfl
          have HSTEP : Hid (badR l spl j = false → upto (j + 1) (badR l spl) = false) := Lib.hid fun hb => by rw [upto_step, HX.out, hb]; rfl
          have HB : Hid (badR l spl j = (!dimC l (nth spl j) || upto j (eqN spl j))) := Lib.hid rfl
          dsimp only at c0
          clear hkl
          obtain ⟨z, hz⟩ : ∃ z, z = nth spl j := ⟨_, rfl⟩
          rw [← hz] at c0
          have HZN := Lib.hid hz
          clear hz
          go_wp2_with fail
          refine (r17Dim_any _ _ _ l _ HN.out _ HL8.out).mono ?_
          rintro e w7 ⟨rfl, h7⟩
          subst w7
          cases hz : dimC l z with
          | false =>
            have HZ := Lib.hid hz
            clear hz
            go_wp2_with fail
            go_ret
            exact ⟨by rw [HBAD.out (by rw [HB.out, ← HZN.out, HZ.out]; rfl)]; rfl, HKK.out⟩
          | true =>
            have HZ := Lib.hid hz
            clear hz
            go_wp2_with fail
            clear q3 q4 c0
            go_loopw [7] (fun vi w6 => ∃ (i : Nat), i ≤ j ∧ vi = .int .i64 i ∧ Hid (upto i (eqN spl j) = false) ∧ Hid (Kp [] w2 w6)) (fun vi _ => j - (intOf vi).toNat)
            case atStart => exact ⟨0, Nat.zero_le _, rfl, Lib.hid rfl, HK8⟩
            case round =>
              obtain ⟨i, hi, rfl, HY, HK5⟩ := hrel
              obtain ⟨w5, rfl⟩ : ∃ w5, w5 = wr := ⟨_, rfl⟩
              have q3 : w5.cell? ⟨w.heap.size, 3, none⟩ = some (.slice (some ⟨b, off, none⟩) ns sc) := HK5.out.cell p3 (by simp)
              have HC5 := Lib.hid (HC2.out.keep0 HK5.out)
              by_cases hij : i < j
              · obtain ⟨b', off', hab, c0⟩ := HC5.out.2.2.2.2 j (by dsimp only; have := HNS.out; omega)
                dsimp only at hab c0
                cases hab
                obtain ⟨b', off', hab, c1⟩ := HC5.out.2.2.2.2 i (by dsimp only; have := HNS.out; omega)
                dsimp only at hab c1
                cases hab
                rw [← HZN.out] at c0
                obtain ⟨y, hy⟩ : ∃ y, y = nth spl i := ⟨_, rfl⟩
                rw [← hy] at c1
                have HS2 : Hid (eqN spl j i = (y == z)) := Lib.hid (by rw [eqN, ← hy, ← HZN.out])
                clear hy
                cases he : y == z with
                | true =>
                  have HEQ := Lib.hid he
                  go_wp2_with go_quiet (fail)
                  go_ret
                  refine ⟨?_, HK2.out.tr (HK5.out.tr (kdN _ _))⟩
                  rw [HBAD.out (by rw [HB.out, upto_yes (k := i) hij (by rw [HS2.out, HEQ.out])]; simp)]; rfl
                | false =>
                  have HEQ := Lib.hid he
                  go_wp2_with go_quiet (fail)
                  go_roundw
                  case rel => exact ⟨i + 1, hij, by go_num, Lib.hid (by rw [upto_step, HY.out, HS2.out, HEQ.out]; rfl), Lib.hid (HK5.out.tr (kdN _ _))⟩
                  case measure => simp [intOf]; omega
              · obtain rfl : i = j := by omega
                go_wp2_with fail
                go_roundw
                case rel => exact ⟨i + 1, hlt, by go_num, Lib.hid (HSTEP.out (by rw [HB.out, ← HZN.out, HZ.out, HY.out]; rfl)), HK5⟩
                case measure => simp [intOf]; omega
        · obtain rfl : j = ns := by omega
          have HV4 : Hid (v = decide (j ≤ 8 ∧ 1 ≤ leaf ∧ leaf ≤ 1000000)) := Lib.hid (by rw [HV3.out, HX.out]; rfl)
          by_cases h1 : (j : Int) ≤ 8
          · by_cases h2 : 1 ≤ leaf
            · by_cases h3 : leaf ≤ 1000000
              · go_wp2_with fail
                go_ret
                exact ⟨by rw [HV4.out, decide_eq_true ⟨by omega, h2, h3⟩]; rfl, HKK.out⟩
              · go_wp2_with fail
                go_ret
                exact ⟨by rw [HV4.out, decide_eq_false (by omega)]; rfl, HKK.out⟩
            · go_wp2_with fail
              go_ret
              exact ⟨by rw [HV4.out, decide_eq_false (by omega)]; rfl, HKK.out⟩
          · go_wp2_with fail
            go_ret
            exact ⟨by rw [HV4.out, decide_eq_false (by omega)]; rfl, HKK.out⟩

end Go.Proofs.Ytfacpfogdcefpaa
