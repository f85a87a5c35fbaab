/-
  What isinglassref01's Uint and Left tell.
-/
import Derived.Test.YtlcilinobdjlaaaUint
import Derived.Test.YtlcilinobdjlaaaStr
namespace Go.Proofs.Ytlcilinobdjlaaa
open Go.RowKit
set_option linter.unusedSimpArgs false
set_option linter.unusedVariables false
variable {L : Nat → Prop}

theorem Kp.drewN {S : List Nat} {a b : World} (h : Kp S a b) (n : Nat) : Kp S a (b.drewN n) := ⟨h.os, h.tape, h.output, h.size, h.block⟩
theorem shl7 (t k : Nat) (h : 128 ^ k * t < 18446744073709551616) : IntKind.u64.wrap ((t : Int) * 2 ^ (7 * k)) = ((128 ^ k * t : Nat) : Int) := by
  have e1 : (t : Int) * 2 ^ (7 * k) = ((128 ^ k * t : Nat) : Int) := by rw [← pow7]; simp [Int.mul_comm]
  rw [e1, IntWalk.u64_in _ (by omega)]

theorem Rdr01.c2 {w : World} {L : Nat → Prop} {p : Nat} {bs : List Int} {a : Nat} {b : Bool} (h : Rdr01 w L p bs a b) :
    w.cell? ⟨p, 1, none⟩ = some (.int .i64 a) ∧ w.cell? ⟨p, 2, none⟩ = some (.bool b) ∧ w.frozen? ⟨p, 1, none⟩ = false ∧ w.frozen? ⟨p, 2, none⟩ = false :=
  let ⟨_, _, h1, _⟩ := h; let ⟨_, c1, c2, f1, f2⟩ := rdr01_cells h1; ⟨c1, c2, f1, f2⟩

theorem r01uint_bad (p : Nat) (bs : List Int) (a : Nat) (w : World) (h : Rdr01 w L p bs a true) :
    Calls Try.prog 49 #[.pointer (some ⟨p, 0, none⟩)] w fun e w' => e = .returned (.int .u64 0) ∧ w = w' := by
  obtain ⟨c1, c2, f1, f2⟩ := h.c2
  clear h
  go_enter Try.func49, Try.ntmps49
  go_wp2
  go_ret
  exact ⟨rfl, rfl⟩

set_option maxRecDepth 20000 in
set_option maxHeartbeats 2000000 in
theorem r01uint_yes (p : Nat) (bs : List Int) (a n m : Nat) (w : World) (h : Rdr01 w L p bs a false) (hb : Bytes8 bs) (hs : Stands bs a n) (hm : m = (short n).length) :
    Calls Try.prog 49 #[.pointer (some ⟨p, 0, none⟩)] w fun e w' => e = .returned (.int .u64 n) ∧ Rdr01 w' L p bs (a + m) false ∧ Kp [p] w w' := by
  have hm1 : 1 ≤ m ∧ m ≤ 10 := by rw [hm]; exact short_length n
  have hle := h.le
  have H := Lib.hid h
  have HB := Lib.hid hb
  have HS := Lib.hid hs
  have HM := Lib.hid hm
  obtain ⟨ad, cap, h1, h2, h3, -⟩ := h
  have HC := Lib.hid h1
  have HD := Lib.hid h2
  have hcap := h2.1
  have hcap2 := h2.2.1
  obtain ⟨c0, c1, c2, f1, f2⟩ := rdr01_cells h1
  clear h1 h2 h3 hb hs hm
  go_enter Try.func49, Try.ntmps49
  go_wp2
  clear c0 c1 c2 f1 f2
  go_loopw [3, 4] (fun vn vi wr => ∃ k : Nat, k < m ∧ vi = .int .i64 k ∧ vn = .int .u64 ((n % 128 ^ k : Nat) : Int) ∧ Kp [] w wr) (fun _ vi _ => 10 - (intOf vi).toNat)
  case atStart => exact ⟨0, by omega, rfl, by simp [Nat.mod_one], Kp.refl _ _⟩
  case round =>
    obtain ⟨k, hk, rfl, rfl, kp⟩ := hrel
    have hk10 : (k : Int) < 10 := by omega
    have hlen : a + k < bs.length := by have := HS.out.2.1; have := HM.out; omega
    have hat := HS.out.at' (k := k) (by rw [← HM.out]; exact hk)
    obtain ⟨acc, hacc⟩ : ∃ acc, acc = n % 128 ^ k := ⟨_, rfl⟩
    rw [← hacc]
    have HA := Lib.hid hacc
    have hlow := low7 n k
    have s4 : IntKind.i64.wrap ((a : Int) + (k : Int)) = ((a + k : Nat) : Int) := by rw [IntWalk.i64_in _ (by omega)]; omega
    have hd1 : decide ((k : Int) < 10) = true := by simp; omega
    obtain ⟨c0, c1, c2, f1, f2⟩ := rdr01_cells (kp.get HC.out (by simp))
    obtain ⟨b, off, rfl, hc⟩ := (HD.out.keep0 kp).2.2 (a + k) hlen
    rcases short_nth n k HS.out.1 (by rw [← HM.out]; exact hk) with ⟨i1, i2, i3⟩ | ⟨i1, i2, i3, i4⟩
    · obtain ⟨t, ht⟩ : ∃ t, t = n / 128 ^ k % 128 := ⟨_, rfl⟩
      rw [i2, ← ht] at hat
      have ht1 : t ≤ 127 := by omega
      obtain ⟨y, hy⟩ : ∃ y, y = t + 128 := ⟨_, rfl⟩
      rw [← hy] at hat
      rw [hat] at hc
      have hy1 : 128 ≤ (y : Int) := by omega
      have hy2 : (y : Int) ≤ 255 := by omega
      have et : (y : Int) % 128 = (t : Int) := by omega
      have hnext : acc + 128 ^ k * t = n % 128 ^ (k + 1) := by rw [hlow, hacc, ht]
      have hnlt : n % 128 ^ (k + 1) < 18446744073709551616 := Nat.lt_of_le_of_lt (Nat.mod_le _ _) HS.out.1
      obtain ⟨sv, hsv⟩ : ∃ sv, sv = 128 ^ k * t := ⟨_, rfl⟩
      have es := shl7 t k (by omega)
      rw [← hsv] at es
      obtain ⟨nx, hnx⟩ : ∃ nx, nx = n % 128 ^ (k + 1) := ⟨_, rfl⟩
      have ead : IntKind.u64.wrap ((acc : Int) + (sv : Int)) = (nx : Int) := by rw [IntWalk.u64_in _ (by omega)]; omega
      have HNX := Lib.hid hnx
      have hk1 : k + 1 < m := by rw [HM.out]; exact i1
      clear hacc hlow i1 i2 i3 ht hy hnext hat hnlt hsv hnx
      go_wp2
      go_quiet (fail)
      go_wp2
      go_quiet (fail)
      go_wp2
      go_roundw
      case rel => exact ⟨k + 1, hk1, by go_num, by rw [HNX.out], kp.drewN _⟩
      case measure => simp [intOf]; omega
    · obtain ⟨y, hy⟩ : ∃ y, y = n / 128 ^ k := ⟨_, rfl⟩
      rw [← hy] at i2 i3
      rw [i2] at hat
      rw [hat] at hc
      have hy2 : (y : Int) ≤ 127 := by omega
      have et : (y : Int) % 128 = (y : Int) := by omega
      have hnext : acc + 128 ^ k * y = n := by rw [hacc, hy]; exact Nat.mod_add_div n (128 ^ k)
      have hnlt := HS.out.1
      obtain ⟨sv, hsv⟩ : ∃ sv, sv = 128 ^ k * y := ⟨_, rfl⟩
      have es := shl7 y k (by omega)
      rw [← hsv] at es
      have ead : IntKind.u64.wrap ((acc : Int) + (sv : Int)) = (n : Int) := by rw [IntWalk.u64_in _ (by omega)]; omega
      have hk1 : k + 1 = m := by rw [HM.out]; exact i1
      have HK1 := Lib.hid hk1
      have HSB : Hid (sub bs a (a + k + 1) = short n) := Lib.hid (by rw [← HS.out.2.2, ← i1]; rfl)
      obtain ⟨ed, hed⟩ : ∃ ed, ed = a + k + 1 := ⟨_, rfl⟩
      have s5 : IntKind.i64.wrap ((a : Int) + (k : Int) + 1) = (ed : Int) := by rw [IntWalk.i64_in _ (by omega)]; omega
      have t1 : a ≤ ed := by omega
      have t2 : ed ≤ bs.length := by omega
      have HED := Lib.hid hed
      rw [← hed] at HSB
      clear hacc hlow i1 i2 i3 i4 hy hnext hat hnlt hsv hk1 hed
      go_wp2
      go_quiet (fail)
      go_wp2
      go_quiet (fail)
      go_wp2_with fail
      refine (r01short_any (n : Int) _ (by omega) (by have := HS.out.1; omega)).mono ?_
      rw [Int.toNat_natCast, ← HM.out]
      rintro e w5 ⟨ad5, cap5, rfl, ho5, kp5⟩
      have kw5 := (kp.drewN _).tr kp5
      obtain ⟨d0, d1, d2, g1, g2⟩ := rdr01_cells (kw5.get HC.out (by simp))
      have hcx : ¬ cap = a := by omega
      have hcv1 : ∀ nq, (convert 22 9 (.slice ad5 m cap5)).run Try.prog (w5.drewN nq) = .ok (.string (strOfNums (short n))) (w5.drewN nq) := fun nq =>
        conv_str (P := Try.prog) _ 22 9 5 Try.underlying22 Try.underlying5 Try.underlying9 ad5 cap5 m (short n) (ho5.rd.keep0 ((Kp.refl [] w5).drewN nq)) HM.out
      have hrd : Rd w5 .u8 (some ⟨b, off + a, none⟩) (cap - a) (short n) := by
        have := ((HD.out.keep0 kw5).slice (a := a) (b := ed) t1 t2)
        rw [HSB.out] at this
        simpa [Addr.add_lit] using this
      have hcv2 : ∀ nq, (convert 22 9 (.slice (some ⟨b, off + a, none⟩) (ed - a) (cap - a))).run Try.prog (w5.drewN nq) = .ok (.string (strOfNums (short n))) (w5.drewN nq) := fun nq =>
        conv_str (P := Try.prog) _ 22 9 5 Try.underlying22 Try.underlying5 Try.underlying9 _ _ (ed - a) (short n) (hrd.keep0 ((Kp.refl [] w5).drewN nq)) (by have := HED.out; have := HK1.out; have := HM.out; omega)
      clear c0 c1 c2 f1 f2 kp5 ho5 hrd
      go_wp2_with fail
      go_quiet (fail)
      go_wp2_with fail
      go_ret
      have hst := (H.out.keep (kw5.drewN nq)).step (n := m) (by have := HED.out; have := HK1.out; omega)
      rw [show (a : Int) + (m : Int) = (ed : Int) by have := HED.out; have := HK1.out; omega] at hst
      exact ⟨rfl, hst, (kw5.drewN nq).trans ((Kp.refl [p] _).setCell _ _ (by simp)) (by simp) (by simp)⟩

set_option maxRecDepth 20000 in
set_option maxHeartbeats 2000000 in
theorem r01uint_no (p : Nat) (bs : List Int) (a : Nat) (w : World) (h : Rdr01 w L p bs a false) (hb : Bytes8 bs) (hs : ∀ n, ¬ Stands bs a n) :
    Calls Try.prog 49 #[.pointer (some ⟨p, 0, none⟩)] w fun e w' => e = .returned (.int .u64 0) ∧ Rdr01 w' L p bs a true ∧ Kp [p] w w' := by
  have hle := h.le
  have H := Lib.hid h
  have HB := Lib.hid hb
  have HS := Lib.hid hs
  have hR0 : Hid (Runs bs a 0) := Lib.hid ⟨by omega, fun j hj => by omega⟩
  obtain ⟨ad, cap, h1, h2, h3, -⟩ := h
  have HC := Lib.hid h1
  have HD := Lib.hid h2
  have hcap := h2.1
  have hcap2 := h2.2.1
  obtain ⟨c0, c1, c2, f1, f2⟩ := rdr01_cells h1
  clear h1 h2 h3 hb hs
  go_enter Try.func49, Try.ntmps49
  go_wp2
  clear c0 c1 c2 f1 f2
  go_loopw [3, 4] (fun vn vi wr => ∃ k v : Nat, k ≤ 10 ∧ vi = .int .i64 k ∧ vn = .int .u64 (v : Int) ∧ Hid (Runs bs a k) ∧ Kp [] w wr) (fun _ vi _ => 10 - (intOf vi).toNat)
  case atStart => exact ⟨0, 0, by omega, rfl, rfl, hR0, Kp.refl _ _⟩
  case round =>
    obtain ⟨k, acc, hk, rfl, rfl, hR, kp⟩ := hrel
    clear hR0
    have s4 : IntKind.i64.wrap ((a : Int) + (k : Int)) = ((a + k : Nat) : Int) := by rw [IntWalk.i64_in _ (by omega)]; omega
    have C9 := Lib.hid (kp.get HC.out (by simp))
    obtain ⟨c0, c1, c2, f1, f2⟩ := rdr01_cells C9.out
    by_cases hk10 : (k : Int) < 10
    · have hd1 : decide ((k : Int) < 10) = true := by simp; omega
      by_cases hlen : a + k < bs.length
      · obtain ⟨b, off, rfl, hc⟩ := (HD.out.keep0 kp).2.2 (a + k) hlen
        have hxb := HB.out _ (nth_mem hlen)
        obtain ⟨y, hy⟩ := Int.eq_ofNat_of_zero_le hxb.1
        rw [hy] at hxb hc
        have HY := Lib.hid hy
        have hy2 : (y : Int) ≤ 255 := by omega
        obtain ⟨t, ht⟩ : ∃ t : Nat, t = y % 128 := ⟨_, rfl⟩
        have et : (y : Int) % 128 = (t : Int) := by omega
        obtain ⟨sv, es, -⟩ := u64_ex ((t : Int) * 2 ^ (7 * k))
        obtain ⟨nx, ead, hnx⟩ := u64_ex ((acc : Int) + (sv : Int))
        have HNX : Hid (nx < 18446744073709551616) := Lib.hid hnx
        clear ht hy hxb hnx
        by_cases hbig : (128 : Int) ≤ (y : Int)
        · have hR1 : Hid (Runs bs a (k + 1)) := Lib.hid (hR.out.step hlen (by rw [HY.out]; exact hbig))
          go_wp2
          go_quiet (fail)
          go_wp2
          go_quiet (fail)
          go_wp2
          go_roundw
          case rel => exact ⟨k + 1, nx, by omega, by go_num, rfl, hR1, kp.drewN _⟩
          case measure => simp [intOf]; omega
        · obtain ⟨ed, hed⟩ : ∃ ed, ed = a + k + 1 := ⟨_, rfl⟩
          have s5 : IntKind.i64.wrap ((a : Int) + (k : Int) + 1) = (ed : Int) := by rw [IntWalk.i64_in _ (by omega)]; omega
          have t1 : a ≤ ed := by omega
          have t2 : ed ≤ bs.length := by omega
          have hne : short nx ≠ sub bs a ed := by
            intro he
            refine HS.out nx ⟨HNX.out, ?_, ?_⟩
            · rw [he, sub_length _ _ _ t2]; omega
            · rw [he, sub_length _ _ _ t2, show a + (ed - a) = ed by omega]
          have hne1 : ((strOfNums (short nx)).toList == (strOfNums (sub bs a ed)).toList) = false := by
            rw [beq_eq_false_iff_ne]
            exact fun he => hne (str_inj (short_bytes nx HNX.out) (HB.out.sub _ _) he)
          have HNE := Lib.hid hne1
          clear hed hne hne1
          go_wp2
          go_quiet (fail)
          go_wp2
          go_quiet (fail)
          go_wp2_with fail
          refine (r01short_any (nx : Int) _ (by omega) (by have := HNX.out; omega)).mono ?_
          rw [Int.toNat_natCast]
          rintro e w5 ⟨ad5, cap5, rfl, ho5, kp5⟩
          have kw5 := (kp.drewN _).tr kp5
          obtain ⟨d0, d1, d2, g1, g2⟩ := rdr01_cells (kw5.get HC.out (by simp))
          have hcx : ¬ cap = a := by omega
          have hcv1 : ∀ nq, (convert 22 9 (.slice ad5 (short nx).length cap5)).run Try.prog (w5.drewN nq) = .ok (.string (strOfNums (short nx))) (w5.drewN nq) := fun nq =>
            conv_str (P := Try.prog) _ 22 9 5 Try.underlying22 Try.underlying5 Try.underlying9 ad5 cap5 _ (short nx) (ho5.rd.keep0 ((Kp.refl [] w5).drewN nq)) rfl
          have hrd : Rd w5 .u8 (some ⟨b, off + a, none⟩) (cap - a) (sub bs a ed) := by
            have := ((HD.out.keep0 kw5).slice (a := a) (b := ed) t1 t2)
            simpa [Addr.add_lit] using this
          have hcv2 : ∀ nq, (convert 22 9 (.slice (some ⟨b, off + a, none⟩) (ed - a) (cap - a))).run Try.prog (w5.drewN nq) = .ok (.string (strOfNums (sub bs a ed))) (w5.drewN nq) := fun nq =>
            conv_str (P := Try.prog) _ 22 9 5 Try.underlying22 Try.underlying5 Try.underlying9 _ _ (ed - a) (sub bs a ed) (hrd.keep0 ((Kp.refl [] w5).drewN nq)) (by rw [sub_length _ _ _ t2])
          have hne1 := HNE.out
          clear c0 c1 c2 f1 f2 kp5 ho5 hrd
          go_wp2_with fail
          go_quiet (fail)
          go_wp2_with fail
          go_ret
          exact ⟨rfl, (H.out.keep (kw5.drewN nq)).spoil, (kw5.drewN nq).trans ((Kp.refl [p] _).setCell _ _ (by simp)) (by simp) (by simp)⟩
      · have hd2 : decide ((a : Int) + (k : Int) < (bs.length : Int)) = false := by simp; omega
        clear hlen
        go_wp2
        go_quiet (fail)
        go_wp2
        go_ret
        exact ⟨rfl, (H.out.keep (kp.drewN _)).spoil, (kp.drewN _).trans ((Kp.refl [p] _).setCell _ _ (by simp)) (by simp) (by simp)⟩
    · have hd1 : decide ((k : Int) < 10) = false := by simp; omega
      clear hk10
      go_wp2
      go_quiet (fail)
      go_wp2
      go_ret
      exact ⟨rfl, (H.out.keep (kp.drewN _)).spoil, (kp.drewN _).trans ((Kp.refl [p] _).setCell _ _ (by simp)) (by simp) (by simp)⟩

end Go.Proofs.Ytlcilinobdjlaaa
