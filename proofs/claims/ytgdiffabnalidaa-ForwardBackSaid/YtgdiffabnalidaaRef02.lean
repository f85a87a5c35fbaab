/-
  What isinglassref02 tells: Width, May, Size, Bit, Get, Same.
-/
import Derived.Test.YtgdiffabnalidaaPackB
namespace Go.Proofs.Ytgdiffabnalidaa
open Go.RowKit
set_option linter.unusedSimpArgs false
set_option linter.unusedVariables false

theorem widthN_small (x : Nat) (h : x ≤ 1) : widthN x = 1 := by
  have : x = 0 ∨ x = 1 := by omega
  rcases this with rfl | rfl <;> decide +kernel
theorem widthN_half (x : Nat) (h : 1 < x) (hx : x < 18446744073709551616) : widthN x = 1 + widthN (x / 2) := by
  have h1 := Lib.bitLen_half x (by omega) hx
  have h2 := Lib.bitLen_half (x / 2) (by omega) (by omega)
  unfold widthN; omega

set_option maxHeartbeats 400000 in
theorem r02width_any (x : Nat) (w : World) (hx : x < 18446744073709551616) :
    Calls Try.prog 18 #[.int .u64 (x : Int)] w fun e w' => e = .returned (.int .i64 (widthN x : Int)) ∧ w = w' := by
  have h64 := (widthN_le x hx).2
  have HX := Lib.hid hx
  clear hx
  go_enter Try.func18, Try.ntmps18
  go_wp2
  go_loop [0, 3] (fun vn vw => ∃ y c : Nat, vn = .int .u64 (y : Int) ∧ vw = .int .i64 (c : Int) ∧ Hid (y < 18446744073709551616 ∧ widthN x + 1 = c + widthN y) ∧ c ≤ 65) (fun vn _ => (intOf vn).toNat)
  case atStart => exact ⟨x, 1, rfl, rfl, Lib.hid ⟨HX.out, by omega⟩, by omega⟩
  case round =>
    obtain ⟨y, c, rfl, rfl, hY, hc⟩ := hrel
    by_cases h1 : (1 : Int) < (y : Int)
    · have hh := widthN_half y (by omega) hY.out.1
      have hw1 := (widthN_le (y / 2) (by have := hY.out.1; omega)).1
      have ed : IntKind.u64.wrap ((y : Int) / 2) = (y : Int) / 2 := IntWalk.u64_in _ (by have := hY.out.1; omega)
      have HN : Hid (y / 2 < 18446744073709551616 ∧ widthN x + 1 = (c + 1) + widthN (y / 2)) := Lib.hid ⟨by have := hY.out.1; omega, by have := hY.out.2; omega⟩
      have hc1 : c + 1 ≤ 65 := by have := HN.out.2; omega
      clear hh hw1
      go_wp2
      go_round
      case rel => exact ⟨y / 2, c + 1, by simp, by go_num, HN, hc1⟩
      case measure => simp [intOf]; omega
    · have hs := widthN_small y (by omega)
      have hcx : c = widthN x := by have := hY.out.2; omega
      have HC := Lib.hid hcx
      clear hs hcx
      go_wp2
      go_ret
      exact ⟨by rw [← HC.out]; rfl, rfl⟩

theorem may02_any (n wd : Int) (w : World) : Calls Try.prog 37 #[.int .i64 n, .int .i64 wd] w fun e w' => e = .returned (.bool (decide (fitsP n wd))) ∧ w = w' := by
  have hd : decide (fitsP n wd) = (decide (0 ≤ n) && (decide (n ≤ 1099511627776) && (decide (1 ≤ wd) && decide (wd ≤ 64)))) := by rw [Bool.eq_iff_iff, decide_eq_true_iff]; simp [fitsP]
  have HD := Lib.hid hd
  clear hd
  by_cases h1 : 0 ≤ n <;> by_cases h2 : n ≤ 1099511627776 <;> by_cases h3 : 1 ≤ wd <;> by_cases h4 : wd ≤ 64
  all_goals
    go_enter Try.func37, Try.ntmps37
    go_wp2
    go_ret
    refine ⟨?_, rfl⟩
    rw [HD.out]
    refine congrArg Ending.returned (congrArg Value.bool ?_)
    simp [h1, h2, h3, h4]
theorem may02_yes (n wd : Int) (w : World) (h : fitsP n wd) : Calls Try.prog 37 #[.int .i64 n, .int .i64 wd] w fun e w' => e = .returned (.bool true) ∧ w = w' :=
  (may02_any n wd w).mono fun e w' ⟨h1, h2⟩ => ⟨by rw [h1, decide_eq_true h], h2⟩
theorem may02_no (n wd : Int) (w : World) (h : ¬ fitsP n wd) : Calls Try.prog 37 #[.int .i64 n, .int .i64 wd] w fun e w' => e = .returned (.bool false) ∧ w = w' :=
  (may02_any n wd w).mono fun e w' ⟨h1, h2⟩ => ⟨by rw [h1, decide_eq_false h], h2⟩

theorem r02size_no (n wd : Int) (w : World) (h : ¬ fitsP n wd) : Calls Try.prog 16 #[.int .i64 n, .int .i64 wd] w fun e w' => e = .returned (.int .i64 0) ∧ w = w' := by
  go_enter Try.func16, Try.ntmps16
  go_wp2_with (go_at_call 37; refine (may02_no n wd _ h).mono ?_; rintro e w' ⟨rfl, rfl⟩)
  go_ret
  exact ⟨rfl, rfl⟩
set_option maxHeartbeats 400000 in
theorem r02size_yes (n wd : Nat) (w : World) (h : fitsP n wd) : Calls Try.prog 16 #[.int .i64 (n : Int), .int .i64 (wd : Int)] w fun e w' => e = .returned (.int .i64 (sizeN n wd : Int)) ∧ w = w' := by
  have H := Lib.hid h
  obtain ⟨h1, h2, h3, h4⟩ := h
  have hb := mul_bound n wd (by omega) (by omega)
  obtain ⟨q, hq⟩ : ∃ q, q = n / 8 := ⟨_, rfl⟩
  obtain ⟨r, hr⟩ : ∃ r, r = n % 8 := ⟨_, rfl⟩
  obtain ⟨qw, hqw⟩ : ∃ qw, qw = q * wd := ⟨_, rfl⟩
  obtain ⟨rw', hrw⟩ : ∃ rw', rw' = r * wd := ⟨_, rfl⟩
  have hm : n * wd = 8 * qw + rw' := by
    rw [hqw, hrw, ← Nat.mul_assoc, ← Nat.add_mul]; congr 1; omega
  have hs : sizeN n wd = qw + (rw' + 7) / 8 := by unfold sizeN; rw [hm]; omega
  have e1 : (n : Int) / 8 = (q : Int) := by omega
  have e2 : (n : Int) % 8 = (r : Int) := by omega
  have e3 : IntKind.i64.wrap ((q : Int) * (wd : Int)) = (qw : Int) := by rw [IntWalk.i64_in _ (by rw [← Int.natCast_mul, ← hqw]; omega), hqw, Int.natCast_mul]
  have e4 : IntKind.i64.wrap ((r : Int) * (wd : Int)) = (rw' : Int) := by rw [IntWalk.i64_in _ (by rw [← Int.natCast_mul, ← hrw]; omega), hrw, Int.natCast_mul]
  have hb1 : qw ≤ 70368744177664 := by omega
  have hb2 : rw' ≤ 70368744177664 := by omega
  have hb3 : q ≤ 1099511627776 := by omega
  have hb4 : r ≤ 7 := by omega
  have HS := Lib.hid hs
  clear h1 h2 h3 h4 hm hs hq hr hqw hrw hb
  by_cases hz : rw' % 8 = 0
  · have hz' : ¬ (0 : Int) < (rw' : Int) % 8 := by omega
    have hz2 : ¬ 0 < rw' % 8 := by omega
    go_enter Try.func16, Try.ntmps16
    go_wp2_with (go_at_call 37; refine (may02_yes (n : Int) (wd : Int) _ H.out).mono ?_; rintro e w' ⟨rfl, rfl⟩)
    go_ret
    refine ⟨?_, rfl⟩
    rw [HS.out]
    refine congrArg Ending.returned (congrArg (Value.int IntKind.i64) ?_)
    omega
  · have hz' : (0 : Int) < (rw' : Int) % 8 := by omega
    have hz2 : 0 < rw' % 8 := by omega
    go_enter Try.func16, Try.ntmps16
    go_wp2_with (go_at_call 37; refine (may02_yes (n : Int) (wd : Int) _ H.out).mono ?_; rintro e w' ⟨rfl, rfl⟩)
    go_ret
    refine ⟨?_, rfl⟩
    rw [HS.out]
    refine congrArg Ending.returned (congrArg (Value.int IntKind.i64) ?_)
    omega

set_option maxHeartbeats 400000 in
theorem bit_any (a0 : Option Addr) (cap0 l : Nat) (bs : List Int) (hl : l = bs.length) (k : Nat) (w : World) (r0 : Rd w .u8 a0 cap0 bs) (hb : Bytes8 bs) (hk : k ≤ 1000000000000000) :
    Calls Try.prog 38 #[.slice a0 l cap0, .int .i64 (k : Int)] w fun e w' => e = .returned (.int .u64 ((leN bs / 2 ^ k % 2 : Nat) : Int)) ∧ w = w' := by
  have HL := Lib.hid hl
  have HR := Lib.hid r0
  have HB := Lib.hid hb
  obtain ⟨q, hq⟩ : ∃ q, q = k / 8 := ⟨_, rfl⟩
  obtain ⟨r, hr⟩ : ∃ r, r = k % 8 := ⟨_, rfl⟩
  have e1 : (k : Int) / 8 = (q : Int) := by omega
  have e2 : (k : Int) % 8 = (r : Int) := by omega
  have hqb : (q : Int) ≤ 1000000000000000 := by omega
  have hrb : (r : Int) ≤ 7 := by omega
  by_cases hql : q < l
  · obtain ⟨b, off, rfl, hc⟩ := r0.2.2 q (by omega)
    have hyb := hb _ (nth_mem (show q < bs.length by omega))
    obtain ⟨y, hy⟩ := Int.eq_ofNat_of_zero_le hyb.1
    rw [hy] at hc hyb
    have hv : leN bs / 2 ^ k % 2 = y / 2 ^ r % 2 := by
      rw [digit_bit, ← hq, ← hr, leN_digit bs hb q (by omega), hy, Int.toNat_natCast]
    rw [hv]
    have hy2 : (y : Int) ≤ 255 := hyb.2
    clear hl r0 hb hq hr hy hyb hv
    go_enter Try.func38, Try.ntmps38
    go_wp2
    go_loop [5, 6] (fun vx vi => ∃ i : Nat, i ≤ r ∧ vi = .int .i64 (i : Int) ∧ vx = .int .i64 ((y / 2 ^ i : Nat) : Int)) (fun _ vi => r - (intOf vi).toNat)
    case atStart => exact ⟨0, Nat.zero_le _, rfl, by simp⟩
    case round =>
      obtain ⟨i, hi, rfl, rfl⟩ := hrel
      obtain ⟨z, hz⟩ : ∃ z, z = y / 2 ^ i := ⟨_, rfl⟩
      have hzb : (z : Int) ≤ 255 := by have := Nat.div_le_self y (2 ^ i); omega
      rw [← hz]
      by_cases hlt : i < r
      · have hnext : z / 2 = y / 2 ^ (i + 1) := by rw [hz, Nat.pow_succ, Nat.div_div_eq_div_mul]
        have HN := Lib.hid hnext
        clear hz hnext
        go_wp2
        go_round
        case rel => exact ⟨i + 1, hlt, by go_num, by rw [← HN.out]; simp⟩
        case measure => simp [intOf]; omega
      · obtain rfl : i = r := by omega
        have HZ : Hid ((z : Int) = (y : Int) / 2 ^ i) := Lib.hid (by rw [hz, Int.natCast_ediv, Int.natCast_pow]; rfl)
        clear hz
        go_wp2
        go_ret
        refine ⟨?_, rfl⟩
        refine congrArg Ending.returned (congrArg (Value.int IntKind.u64) ?_)
        first | exact congrArg (· % 2) HZ.out | (rw [Int.natCast_emod, Int.natCast_ediv, Int.natCast_pow]; exact congrArg (· % 2) HZ.out)
  · have hv : leN bs / 2 ^ k % 2 = 0 := by
      have h1 := leN_bound bs hb
      have h2 : leN bs < 2 ^ k := Nat.lt_of_lt_of_le h1 (Nat.pow_le_pow_right (by omega) (by omega))
      rw [Nat.div_eq_of_lt h2]
    rw [hv]
    clear hl r0 hb hq hr hv
    go_enter Try.func38, Try.ntmps38
    go_wp2
    go_ret
    exact ⟨rfl, rfl⟩

theorem gets_bit (n i wd j : Nat) (hj : j < wd) : gets n i wd / 2 ^ j % 2 = n / 2 ^ (i * wd + j) % 2 := by
  unfold gets
  have h2 : 2 ^ wd = 2 ^ j * 2 ^ (wd - j) := by rw [← Nat.pow_add]; congr 1; omega
  rw [h2, Nat.mod_mul_right_div_self, Nat.div_div_eq_div_mul, ← Nat.pow_add]
  obtain ⟨c, hc⟩ : ∃ c, wd - j = c + 1 := ⟨wd - j - 1, by omega⟩
  rw [hc, Nat.pow_succ, Nat.mul_comm (2 ^ c) 2, Nat.mod_mul_right_mod]

set_option maxHeartbeats 800000 in
theorem r02get_any (a0 : Option Addr) (cap0 l : Nat) (bs : List Int) (hl : l = bs.length) (i wd : Nat) (w : World) (r0 : Rd w .u8 a0 cap0 bs) (hb : Bytes8 bs) (h : fitsP i wd) :
    Calls Try.prog 22 #[.slice a0 l cap0, .int .i64 (i : Int), .int .i64 (wd : Int)] w fun e w' => e = .returned (.int .u64 (gets (leN bs) i wd : Int)) ∧ w = w' := by
  have H := Lib.hid h
  obtain ⟨h1, h2, h3, h4⟩ := h
  have hmb := mul_bound i wd (by omega) (by omega)
  obtain ⟨m, hm⟩ : ∃ m, m = i * wd := ⟨_, rfl⟩
  rw [← hm] at hmb
  have e1 : IntKind.i64.wrap ((i : Int) * (wd : Int)) = (m : Int) := by rw [IntWalk.i64_in _ (by rw [← Int.natCast_mul, ← hm]; omega), hm, Int.natCast_mul]
  have HM := Lib.hid hm
  have HL := Lib.hid hl
  have HR := Lib.hid r0
  have HB := Lib.hid hb
  obtain ⟨G, hG⟩ : ∃ G, G = gets (leN bs) i wd := ⟨_, rfl⟩
  have hGl : Hid (G < 18446744073709551616) := Lib.hid (by rw [hG]; exact Nat.lt_of_lt_of_le (gets_lt _ _ _) (Nat.le_trans (Nat.pow_le_pow_right (by omega) (show wd ≤ 64 by omega)) (by decide)))
  have hG0 : G / 2 ^ wd = 0 := by rw [hG]; exact Nat.div_eq_of_lt (gets_lt _ _ _)
  have HG := Lib.hid hG
  rw [← hG]
  clear hm hl r0 hb h1 h2 hG
  go_enter Try.func22, Try.ntmps22
  go_wp2_with (go_at_call 37; refine (may02_yes (i : Int) (wd : Int) _ H.out).mono ?_; rintro e w' ⟨rfl, rfl⟩)
  go_loop [7, 8] (fun vx vk => ∃ j : Nat, j ≤ wd ∧ vk = .int .i64 ((j : Int) - 1) ∧ vx = .int .u64 ((G / 2 ^ j : Nat) : Int)) (fun _ vk => (intOf vk + 1).toNat)
  case atStart => exact ⟨wd, Nat.le_refl _, rfl, by rw [hG0]; rfl⟩
  case round =>
    obtain ⟨j, hj, rfl, rfl⟩ := hrel
    clear hG0
    by_cases hj0 : j = 0
    · subst hj0
      go_wp2
      go_ret
      exact ⟨by simp, rfl⟩
    · obtain ⟨k, rfl⟩ : ∃ k, j = k + 1 := ⟨j - 1, by omega⟩
      obtain ⟨z, hz⟩ : ∃ z, z = G / 2 ^ (k + 1) := ⟨_, rfl⟩
      obtain ⟨y, hy⟩ : ∃ y, y = G / 2 ^ k := ⟨_, rfl⟩
      obtain ⟨bt, hbt⟩ : ∃ bt, bt = leN bs / 2 ^ (m + k) % 2 := ⟨_, rfl⟩
      have hyz : y = z * 2 + bt := by
        have h1 : z = y / 2 := by rw [hz, hy, Nat.pow_succ, Nat.div_div_eq_div_mul]
        have h2 := gets_bit (leN bs) i wd k (by omega)
        rw [← HG.out, ← hy, ← HM.out, ← hbt] at h2
        omega
      have hyl : y < 18446744073709551616 := Nat.lt_of_le_of_lt (by rw [hy]; exact Nat.div_le_self _ _) hGl.out
      have s1 : IntKind.u64.wrap ((z : Int) * 2) = ((z * 2 : Nat) : Int) := by rw [IntWalk.u64_in _ (by omega)]; omega
      have s2 : IntKind.u64.wrap (((z * 2 : Nat) : Int) + (bt : Int)) = (y : Int) := by rw [IntWalk.u64_in _ (by omega)]; omega
      have s2' : IntKind.u64.wrap ((z : Int) * 2 + (bt : Int)) = (y : Int) := by rw [IntWalk.u64_in _ (by omega)]; omega
      have s3 : ((k + 1 : Nat) : Int) - 1 = (k : Int) := by omega
      have s4 : IntKind.i64.wrap ((m : Int) + (k : Int)) = ((m + k : Nat) : Int) := by rw [IntWalk.i64_in _ (by omega)]; omega
      rw [← hz, s3]
      have HBT := Lib.hid (bit_any a0 cap0 l bs HL.out (m + k) w HR.out HB.out (by omega))
      rw [← hbt] at HBT
      have HY := Lib.hid hy
      clear hz hy hbt hyz hyl s3 hj0
      go_wp2_with fail
      rw [← Int.natCast_add]
      refine HBT.out.mono ?_
      rintro e w' ⟨rfl, rfl⟩
      go_wp2_with fail
      go_round
      case rel => exact ⟨k, by omega, rfl, by rw [← HY.out]⟩
      case measure => simp [intOf] <;> omega

theorem r02get_no (a0 : Option Addr) (cap0 l : Nat) (i wd : Int) (w : World) (h : ¬ fitsP i wd) :
    Calls Try.prog 22 #[.slice a0 l cap0, .int .i64 i, .int .i64 wd] w fun e w' => e = .returned (.int .u64 0) ∧ w = w' := by
  go_enter Try.func22, Try.ntmps22
  go_wp2_with (go_at_call 37; refine (may02_no i wd _ h).mono ?_; rintro e w' ⟨rfl, rfl⟩)
  go_ret
  exact ⟨rfl, rfl⟩

set_option maxHeartbeats 400000 in
theorem r02same_yes (a0 a1 : Option Addr) (cap0 cap1 : Nat) (zs : List Int) (n : Nat) (hn : n = zs.length) (w : World) (h0 : Rd w .u64 a0 cap0 zs) (h1 : Rd w .u64 a1 cap1 zs) :
    Calls Try.prog 14 #[.slice a0 n cap0, .slice a1 n cap1] w fun e w' => e = .returned (.bool true) ∧ Kp [] w w' := by
  have HN := Lib.hid hn
  have hb : n ≤ 9223372036854775807 := by have := h0.1; have := h0.2.1; omega
  have H0 := Lib.hid h0
  have H1 := Lib.hid h1
  clear hn h0 h1
  go_enter Try.func14, Try.ntmps14
  go_wp2
  go_loopw [5] (fun i wr => ∃ k : Nat, k ≤ n ∧ i = .int .i64 k ∧ Kp [] w wr) (fun i _ => n - (intOf i).toNat)
  case atStart => exact ⟨0, Nat.zero_le _, rfl, Kp.refl _ _⟩
  case round =>
    obtain ⟨k, hk, rfl, kp⟩ := hrel
    by_cases hlt : k < n
    · obtain ⟨b, off, rfl, hc⟩ := (H0.out.keep0 kp).2.2 k (by rw [← HN.out]; exact hlt)
      obtain ⟨b', off', rfl, hc'⟩ := (H1.out.keep0 kp).2.2 k (by rw [← HN.out]; exact hlt)
      have hlt' : (k : Int) < (n : Int) := by omega
      go_wp2
      go_quiet (fail)
      go_wp2
      go_roundw
      case rel => exact ⟨k + 1, hlt, by go_num, ⟨kp.os, kp.tape, kp.output, kp.size, kp.block⟩⟩
      case measure => simp [intOf]; omega
    · go_wp2
      go_ret
      exact ⟨rfl, kp⟩
end Go.Proofs.Ytgdiffabnalidaa
