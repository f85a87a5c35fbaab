/-
  Schema: the same configuration; the same columns; too much.
-/
import Derived.Test.YtegnobdablbahaaSch5
namespace Go.Proofs.Ytegnobdablbahaa
open Go.RowKit
set_option linter.unusedSimpArgs false
set_option linter.unusedVariables false

def difI (a b : List Int) (i : Nat) : Bool := nth a i != nth b i
def eqI (a b : List Int) : Bool := decide (a.length = b.length) && !upto a.length (difI a b)
theorem eqI_iff (a b : List Int) : eqI a b = true ↔ a = b := by
  rw [eqI, Bool.and_eq_true, decide_eq_true_eq, nupto]
  constructor
  · rintro ⟨h1, h2⟩
    apply List.ext_getElem h1
    intro i hi hj
    have := h2 i hi
    simpa [difI, nth, hi, hj] using this
  · rintro rfl; exact ⟨rfl, fun k _ => by simp [difI]⟩

set_option maxHeartbeats 400000 in
theorem slEqual_any (a0 : Option Addr) (c0 n : Nat) (a : List Int) (hn : n = a.length) (b0 : Option Addr) (c1 m : Nat) (b : List Int) (hm : m = b.length) (w : World) (h : Rd w .i64 a0 c0 a) (hb : Rd w .i64 b0 c1 b) :
    Calls Try.prog 46 #[.slice a0 n c0, .slice b0 m c1] w fun e w' => e = .returned (.bool (eqI a b)) ∧ Kp [] w w' := by
  have H := Lib.hid h
  have HB := Lib.hid hb
  have HN := Lib.hid hn
  have HM := Lib.hid hm
  have hcap := h.1
  have hcap2 := h.2.1
  have hcap3 := hb.1
  have hcap4 := hb.2.1
  rw [← hn] at hcap
  rw [← hm] at hcap3
  have HV : Hid (eqI a b = (decide (n = m) && !upto n (difI a b))) := Lib.hid (by rw [eqI, ← hn, ← hm])
  generalize eqI a b = v at *
  clear h hb hn hm
  go_enter Try.func46, Try.ntmps46
  cases hne : (n : Int) != (m : Int) with
  | true =>
    have HNE : Hid (n ≠ m) := Lib.hid (by simp at hne; omega)
    go_wp2_with fail
    go_ret
    exact ⟨by rw [HV.out, decide_eq_false HNE.out]; rfl, Kp.refl _ _⟩
  | false =>
    have hnm : n = m := by simp at hne; omega
    subst hnm
    go_wp2_with fail
    go_loopw [5, 13] (fun _ vi wr => ∃ k : Nat, k ≤ n ∧ vi = .int .i64 k ∧ Hid (upto k (difI a b) = false) ∧ Kp [] w wr) (fun _ vi _ => n - (intOf vi).toNat)
    case atStart => exact ⟨0, Nat.zero_le _, rfl, Lib.hid rfl, Kp.refl _ _⟩
    case round =>
      obtain ⟨k, hk, rfl, HX, kp⟩ := hrel
      have HK := Lib.hid kp
      by_cases hlt : k < n
      · obtain ⟨g0, o0, rfl, d0⟩ := (H.out.keep0 kp).2.2 k (by rw [← HN.out]; exact hlt)
        obtain ⟨g1, o1, rfl, d1⟩ := (HB.out.keep0 kp).2.2 k (by rw [← HM.out]; exact hlt)
        have HS : Hid (difI a b k = (nth a k != nth b k)) := Lib.hid rfl
        clear kp
        generalize nth a k = x at *
        generalize nth b k = y at *
        have HBAD : Hid (difI a b k = true → v = false) := Lib.hid fun hb => by rw [HV.out, upto_yes (k := k) hlt hb]; simp
        cases he : x != y with
        | true =>
          have HEQ := Lib.hid he
          go_wp2_with go_quiet (fail)
          go_ret
          exact ⟨by rw [HBAD.out (by rw [HS.out, HEQ.out])]; rfl, HK.out.tr (kdN _ _)⟩
        | false =>
          have HEQ := Lib.hid he
          go_wp2_with go_quiet (fail)
          go_roundw
          case rel => exact ⟨k + 1, hlt, by go_num, Lib.hid (by rw [upto_step, HX.out, HS.out, HEQ.out]; rfl), HK.out.tr (kdN _ _)⟩
          case measure => simp [intOf]; omega
      · obtain rfl : k = n := by omega
        go_wp2_with fail
        go_ret
        exact ⟨by rw [HV.out, HX.out]; simp, kp⟩

/-- Columns: the same? -/
def difC (a b : List Col) (i : Nat) : Bool := !((atC a i).nm.toList == (atC b i).nm.toList && decide ((atC a i).kd = (atC b i).kd))
def eqCs (a b : List Col) : Bool := decide (a.length = b.length) && !upto a.length (difC a b)
theorem eqCs_iff (a b : List Col) : eqCs a b = true ↔ a = b := by
  rw [eqCs, Bool.and_eq_true, decide_eq_true_eq, nupto]
  constructor
  · rintro ⟨h1, h2⟩
    apply List.ext_getElem h1
    intro i hi hj
    have := h2 i hi
    rw [difC, atC_eq a i hi, atC_eq b i hj] at this
    simp only [Bool.not_eq_false', Bool.and_eq_true, decide_eq_true_eq] at this
    have e1 := toList_eq this.1
    cases ha : a[i]; cases hb : b[i]
    rw [ha, hb] at this e1
    simp at e1 this
    rw [e1, this.2]
  · rintro rfl; exact ⟨rfl, fun k _ => by simp [difC]⟩

set_option maxHeartbeats 800000 in
theorem r17SameC_any (a0 : Option Addr) (c0 n : Nat) (a : List Col) (hn : n = a.length) (b0 : Option Addr) (c1 m : Nat) (b : List Col) (hm : m = b.length) (w : World) (h : RdC w a0 c0 a) (hb : RdC w b0 c1 b) :
    Calls Try.prog 26 #[.slice a0 n c0, .slice b0 m c1] w fun e w' => e = .returned (.bool (eqCs a b)) ∧ Kp [] w w' := by
  have H := Lib.hid h
  have HB := Lib.hid hb
  have HN := Lib.hid hn
  have HM := Lib.hid hm
  have hcap := h.1
  have hcap2 := h.2.1
  have hcap3 := hb.1
  have hcap4 := hb.2.1
  rw [← hn] at hcap
  rw [← hm] at hcap3
  have HV : Hid (eqCs a b = (decide (n = m) && !upto n (difC a b))) := Lib.hid (by rw [eqCs, ← hn, ← hm])
  generalize eqCs a b = v at *
  clear h hb hn hm
  go_enter Try.func26, Try.ntmps26
  cases hne : (n : Int) != (m : Int) with
  | true =>
    have HNE : Hid (n ≠ m) := Lib.hid (by simp at hne; omega)
    go_wp2_with fail
    go_ret
    exact ⟨by rw [HV.out, decide_eq_false HNE.out]; rfl, Kp.refl _ _⟩
  | false =>
    have hnm : n = m := by simp at hne; omega
    subst hnm
    go_wp2_with fail
    go_loopw [5] (fun vi wr => ∃ k : Nat, k ≤ n ∧ vi = .int .i64 k ∧ Hid (upto k (difC a b) = false) ∧ Kp [] w wr) (fun vi _ => n - (intOf vi).toNat)
    case atStart => exact ⟨0, Nat.zero_le _, rfl, Lib.hid rfl, Kp.refl _ _⟩
    case round =>
      obtain ⟨k, hk, rfl, HX, kp⟩ := hrel
      have HK := Lib.hid kp
      by_cases hlt : k < n
      · obtain ⟨g0, o0, rfl, d0, d2⟩ := (H.out.keep0 kp).atC k (by rw [← HN.out]; exact hlt)
        obtain ⟨g1, o1, rfl, d1, d3⟩ := (HB.out.keep0 kp).atC k (by rw [← HM.out]; exact hlt)
        have HS : Hid (difC a b k = !((atC a k).nm.toList == (atC b k).nm.toList && decide ((atC a k).kd = (atC b k).kd))) := Lib.hid rfl
        clear kp
        generalize atC a k = x at *
        generalize atC b k = y at *
        have HBAD : Hid (difC a b k = true → v = false) := Lib.hid fun hb => by rw [HV.out, upto_yes (k := k) hlt hb]; simp
        obtain ⟨xn, xk⟩ := x
        obtain ⟨yn, yk⟩ := y
        dsimp only at d0 d1 d2 d3
        cases he : xn.toList == yn.toList with
        | false =>
          have HE := Lib.hid he
          go_wp2_with go_quiet (fail)
          go_ret
          exact ⟨by rw [HBAD.out (by rw [HS.out, HE.out]; rfl)]; rfl, HK.out.tr (kdN _ _)⟩
        | true =>
          have HE := Lib.hid he
          cases he2 : xk == yk with
          | false =>
            have HE2 : Hid (decide (xk = yk) = false) := Lib.hid (decide_eq_false (by simpa using he2))
            go_wp2_with go_quiet (fail)
            go_ret
            exact ⟨by rw [HBAD.out (by rw [HS.out, HE2.out]; simp)]; rfl, HK.out.tr (kdN _ _)⟩
          | true =>
            have HE2 : Hid (decide (xk = yk) = true) := Lib.hid (decide_eq_true (by simpa using he2))
            go_wp2_with go_quiet (fail)
            go_roundw
            case rel => exact ⟨k + 1, hlt, by go_num, Lib.hid (by rw [upto_step, HX.out, HS.out, HE.out, HE2.out]; rfl), HK.out.tr (kdN _ _)⟩
            case measure => simp [intOf]; omega
      · obtain rfl : k = n := by omega
        go_wp2_with fail
        go_ret
        exact ⟨by rw [HV.out, HX.out]; simp, kp⟩

/-- Too much? -/
def greatC (l : List Col) (c : Cfg) : Bool := upto l.length (fun i => decide (200 < (atC l i).nm.size)) || decide (300 < l.length ∨ 400 < c.inv.length ∨ 400 < c.rng.length ∨ 50 < c.spl.length)

set_option maxHeartbeats 800000 in
theorem r17Great_any (ad : Option Addr) (cap n : Nat) (l : List Col) (hn : n = l.length) (c : Cfg) (w : World) (h : RdC w ad cap l) (ho : COk l) :
    Calls Try.prog 11 #[.slice ad n cap, cfgV c] w fun e w' => e = .returned (.bool (greatC l c)) ∧ Kp [] w w' := by
  have H := Lib.hid h
  have HN := Lib.hid hn
  have HO := Lib.hid ho
  have hcap := h.1
  rw [← hn] at hcap
  have hcap2 := h.2.1
  clear h hn ho
  have HV : Hid (greatC l c = (upto n (fun i => decide (200 < (atC l i).nm.size)) || decide (300 < n ∨ 400 < c.inv.length ∨ 400 < c.rng.length ∨ 50 < c.spl.length))) := Lib.hid (by rw [HN.out]; rfl)
  generalize greatC l c = v at *
  obtain ⟨srt, ia, ic, inv, ra, rc, rng, sa, sc, spl, leaf⟩ := c
  simp only [cfgV]
  dsimp only at HV
  generalize inv.length = ni at *
  generalize rng.length = nr at *
  generalize spl.length = ns at *
  go_enter Try.func11, Try.ntmps11
  go_wp2_with fail
  generalize hw2 : w.alloc _ = w2
  have p1 : w2.cell? ⟨w.heap.size, 1, none⟩ = some (.slice ia ni ic) := by rw [← hw2]; simp
  have p2 : w2.cell? ⟨w.heap.size, 2, none⟩ = some (.slice ra nr rc) := by rw [← hw2]; simp
  have p3 : w2.cell? ⟨w.heap.size, 3, none⟩ = some (.slice sa ns sc) := by rw [← hw2]; simp
  have HK := Lib.hid (show Kp [] w w2 by rw [← hw2]; exact (Kp.refl [] w).alloc _)
  clear hw2
  go_loopw [5] (fun vi wr => ∃ k : Nat, k ≤ n ∧ vi = .int .i64 k ∧ Hid (upto k (fun i => decide (200 < (atC l i).nm.size)) = false) ∧ wr = w2) (fun vi _ => n - (intOf vi).toNat)
  case atStart => exact ⟨0, Nat.zero_le _, rfl, Lib.hid rfl, rfl⟩
  case round =>
    obtain ⟨k, hk, rfl, HX, h7⟩ := hrel
    subst wr
    by_cases hlt : k < n
    · obtain ⟨b, off, rfl, c0, -⟩ := (H.out.keep0 HK.out).atC k (by rw [← HN.out]; exact hlt)
      have hsz := (HO.out.at' k (by rw [← HN.out]; exact hlt)).1
      have HS : Hid (decide (200 < (atC l k).nm.size) = decide (200 < (atC l k).nm.size)) := Lib.hid rfl
      have HSTEP : Hid ((decide (200 < (atC l k).nm.size)) = false → upto (k + 1) (fun i => decide (200 < (atC l i).nm.size)) = false) := Lib.hid fun hb => by rw [upto_step, HX.out, hb]; rfl
      have HBAD : Hid ((decide (200 < (atC l k).nm.size)) = true → v = true) := Lib.hid fun hb => by rw [HV.out, upto_yes (k := k) hlt hb]; rfl
      generalize (atC l k).nm = s at *
      by_cases hs : (200 : Int) < (s.size : Int)
      · go_wp2_with fail
        go_ret
        exact ⟨by rw [HBAD.out (decide_eq_true (by omega))]; rfl, HK.out⟩
      · go_wp2_with fail
        go_roundw
        case rel => exact ⟨k + 1, hlt, by go_num, Lib.hid (HSTEP.out (decide_eq_false (by omega))), by first | rfl | trivial⟩
        case measure => simp [intOf]; omega
    · obtain rfl : k = n := by omega
      have HV2 : Hid (v = decide (300 < k ∨ 400 < ni ∨ 400 < nr ∨ 50 < ns)) := Lib.hid (by rw [HV.out, HX.out]; rfl)
      by_cases h1 : (300 : Int) < (k : Int)
      · go_wp2_with fail
        go_ret
        exact ⟨by rw [HV2.out, decide_eq_true (by omega)]; rfl, HK.out⟩
      · by_cases h2 : (400 : Int) < (ni : Int)
        · go_wp2_with fail
          go_ret
          exact ⟨by rw [HV2.out, decide_eq_true (by omega)]; rfl, HK.out⟩
        · by_cases h3 : (400 : Int) < (nr : Int)
          · go_wp2_with fail
            go_ret
            exact ⟨by rw [HV2.out, decide_eq_true (by omega)]; rfl, HK.out⟩
          · by_cases h4 : (50 : Int) < (ns : Int)
            · go_wp2_with fail
              go_ret
              exact ⟨by rw [HV2.out, decide_eq_true (by omega)]; rfl, HK.out⟩
            · go_wp2_with fail
              go_ret
              exact ⟨by rw [HV2.out, decide_eq_false (by omega)]; rfl, HK.out⟩

end Go.Proofs.Ytegnobdablbahaa
