/-
  Schema: the same configuration; the same columns; too much.
-/
import Derived.Test.YtfacpfogdcefpaaSch5
namespace Go.Proofs.Ytfacpfogdcefpaa
open Go.RowKit
set_option linter.unusedSimpArgs false
set_option linter.unusedVariables false

def difI (a b : List Int) (i : Nat) : Bool := nth a i != nth b i
def eqI (a b : List Int) : Bool := decide (a.length = b.length) && !upto a.length (difI a b)
theorem eqI_iff (a b : List Int) : eqI a b = true ↔ a = b := by
  rw [eqI, Bool.and_eq_true, decide_eq_true_eq, nupto]
  constructor
  · rintro ⟨h1, h2⟩
    apply List.ext_getElem h1
    intro i hi hj
    have := h2 i hi
    simpa [difI, nth, hi, hj] using this
  · rintro rfl; exact ⟨rfl, fun k _ => by simp [difI]⟩

/-- Columns: the same? -/
def difC (a b : List Col) (i : Nat) : Bool := !((atC a i).nm.toList == (atC b i).nm.toList && decide ((atC a i).kd = (atC b i).kd))
def eqCs (a b : List Col) : Bool := decide (a.length = b.length) && !upto a.length (difC a b)
theorem eqCs_iff (a b : List Col) : eqCs a b = true ↔ a = b := by
  rw [eqCs, Bool.and_eq_true, decide_eq_true_eq, nupto]
  constructor
  · rintro ⟨h1, h2⟩
    apply List.ext_getElem h1
    intro i hi hj
    have := h2 i hi
    rw [difC, atC_eq a i hi, atC_eq b i hj] at this
    simp only [Bool.not_eq_false', Bool.and_eq_true, decide_eq_true_eq] at this
    have e1 := toList_eq this.1
    cases ha : a[i]; cases hb : b[i]
    rw [ha, hb] at this e1
    simp at e1 this
    rw [e1, this.2]
  · rintro rfl; exact ⟨rfl, fun k _ => by simp [difC]⟩

/-- Too much? -/
def greatC (l : List Col) (c : Cfg) : Bool := upto l.length (fun i => decide (200 < (atC l i).nm.size)) || decide (300 < l.length ∨ 400 < c.inv.length ∨ 400 < c.rng.length ∨ 50 < c.spl.length)

set_option maxHeartbeats 800000 in
theorem r17Great_any (ad : Option Addr) (cap n : Nat) (l : List Col) (hn : n = l.length) (c : Cfg) (w : World) (h : RdC w ad cap l) (ho : COk l) :
    Calls Try.prog 29 #[.slice ad n cap, cfgV c] w fun e w' => e = .returned (.bool (greatC l c)) ∧ Kp [] w w' := by
  have H := Lib.hid h
  have HN := Lib.hid hn
  have HO := Lib.hid ho
  have hcap := h.1
  rw [← hn] at hcap
  have hcap2 := h.2.1
  clear h hn ho
  have HV : Hid (greatC l c = (upto n (fun i => decide (200 < (atC l i).nm.size)) || decide (300 < n ∨ 400 < c.inv.length ∨ 400 < c.rng.length ∨ 50 < c.spl.length))) := Lib.hid (by rw [HN.out]; rfl)
  generalize greatC l c = v at *
  obtain ⟨srt, ia, ic, inv, ra, rc, rng, sa, sc, spl, leaf⟩ := c
  simp only [cfgV]
  dsimp only at HV
  generalize inv.length = ni at *
  generalize rng.length = nr at *
  generalize spl.length = ns at *
  go_enter Try.func29, Try.ntmps29
  go_wp2_with fail
  generalize hw2 : w.alloc _ = w2
  have p1 : w2.cell? ⟨w.heap.size, 1, none⟩ = some (.slice ia ni ic) := by rw [← hw2]; simp
  have p2 : w2.cell? ⟨w.heap.size, 2, none⟩ = some (.slice ra nr rc) := by rw [← hw2]; simp
  have p3 : w2.cell? ⟨w.heap.size, 3, none⟩ = some (.slice sa ns sc) := by rw [← hw2]; simp
  have HK := Lib.hid (show Kp [] w w2 by rw [← hw2]; exact (Kp.refl [] w).alloc _)
  clear hw2
  go_loopw [5] (fun vi wr => ∃ k : Nat, k ≤ n ∧ vi = .int .i64 k ∧ Hid (upto k (fun i => decide (200 < (atC l i).nm.size)) = false) ∧ wr = w2) (fun vi _ => n - (intOf vi).toNat)
  case atStart => exact ⟨0, Nat.zero_le _, rfl, Lib.hid rfl, rfl⟩
  case round =>
    obtain ⟨k, hk, rfl, HX, h7⟩ := hrel
    subst wr
    by_cases hlt : k < n
    · obtain ⟨b, off, rfl, c0, -⟩ := (H.out.keep0 HK.out).atC k (by rw [← HN.out]; exact hlt)
      have hsz := (HO.out.at' k (by rw [← HN.out]; exact hlt)).1
      have HS : Hid (decide (200 < (atC l k).nm.size) = decide (200 < (atC l k).nm.size)) := Lib.hid rfl
      have HSTEP : Hid ((decide (200 < (atC l k).nm.size)) = false → upto (k + 1) (fun i => decide (200 < (atC l i).nm.size)) = false) := Lib.hid fun hb => by rw [upto_step, HX.out, hb]; rfl
      have HBAD : Hid ((decide (200 < (atC l k).nm.size)) = true → v = true) := Lib.hid fun hb => by rw [HV.out, upto_yes (k := k) hlt hb]; rfl
      generalize (atC l k).nm = s at *
      by_cases hs : (200 : Int) < (s.size : Int)
      · go_wp2_with fail
        go_ret
        exact ⟨by rw [HBAD.out (decide_eq_true (by omega))]; rfl, HK.out⟩
      · go_wp2_with fail
        go_roundw
        case rel => exact ⟨k + 1, hlt, by go_num, Lib.hid (HSTEP.out (decide_eq_false (by omega))), by first | rfl | trivial⟩
        case measure => simp [intOf]; omega
    · obtain rfl : k = n := by omega
      have HV2 : Hid (v = decide (300 < k ∨ 400 < ni ∨ 400 < nr ∨ 50 < ns)) := Lib.hid (by rw [HV.out, HX.out]; rfl)
      by_cases h1 : (300 : Int) < (k : Int)
      · go_wp2_with fail
        go_ret
        exact ⟨by rw [HV2.out, decide_eq_true (by omega)]; rfl, HK.out⟩
      · by_cases h2 : (400 : Int) < (ni : Int)
        · go_wp2_with fail
          go_ret
          exact ⟨by rw [HV2.out, decide_eq_true (by omega)]; rfl, HK.out⟩
        · by_cases h3 : (400 : Int) < (nr : Int)
          · go_wp2_with fail
            go_ret
            exact ⟨by rw [HV2.out, decide_eq_true (by omega)]; rfl, HK.out⟩
          · by_cases h4 : (50 : Int) < (ns : Int)
            · go_wp2_with fail
              go_ret
              exact ⟨by rw [HV2.out, decide_eq_true (by omega)]; rfl, HK.out⟩
            · go_wp2_with fail
              go_ret
              exact ⟨by rw [HV2.out, decide_eq_false (by omega)]; rfl, HK.out⟩

end Go.Proofs.Ytfacpfogdcefpaa
