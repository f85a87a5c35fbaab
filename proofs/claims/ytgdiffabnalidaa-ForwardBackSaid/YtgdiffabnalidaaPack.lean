/-
  What package pack tells: fits, Size, Width, Get, Pack, Unpack.
-/
import Derived.Test.YtgdiffabnalidaaPackL
import Derived.Test.YtgdiffabnalidaaLen64
import Derived.Outline
namespace Go.Proofs.Ytgdiffabnalidaa
open Go.RowKit
set_option linter.unusedSimpArgs false
set_option linter.unusedVariables false

theorem len64_n (x : Nat) (w : World) (h1 : x < 18446744073709551616) :
    Calls Try.prog 36 #[.int .u64 (x : Int)] w fun e w' => e = .returned (.int .i64 (Lib.bitLen x : Int)) ∧ w = w' :=
  (len64_any (x : Int) w (by omega) (by omega)).mono fun e w' ⟨h1, h2⟩ => ⟨by rw [h1, Int.toNat_natCast], h2.symm⟩

/-- How many bits a number takes. -/
def widthN (x : Nat) : Nat := max 1 (Lib.bitLen x)
theorem widthN_le (x : Nat) (h : x < 18446744073709551616) : 1 ≤ widthN x ∧ widthN x ≤ 64 := by
  have := Lib.bitLen_le x 64 (Nat.le_refl _) h
  unfold widthN; omega
theorem pwidth_any (x : Nat) (w : World) (h1 : x < 18446744073709551616) :
    Calls Try.prog 17 #[.int .u64 (x : Int)] w fun e w' => e = .returned (.int .i64 (widthN x : Int)) ∧ w = w' := by
  have H := Lib.hid (len64_n x w h1)
  clear h1
  go_enter Try.func17, Try.ntmps17
  go_wp2_with fail
  refine H.out.mono ?_
  rintro e w' ⟨rfl, rfl⟩
  go_wp2_with fail
  go_ret
  refine ⟨?_, rfl⟩
  unfold widthN
  refine congrArg Ending.returned (congrArg (Value.int IntKind.i64) ?_)
  omega

/-- May so many numbers be, and a width? -/
def fitsP (n wd : Int) : Prop := 0 ≤ n ∧ n ≤ 1099511627776 ∧ 1 ≤ wd ∧ wd ≤ 64
instance (n wd : Int) : Decidable (fitsP n wd) := by unfold fitsP; infer_instance
theorem fits_any (n wd : Int) (w : World) : Calls Try.prog 35 #[.int .i64 n, .int .i64 wd] w fun e w' => e = .returned (.bool (decide (fitsP n wd))) ∧ w = w' := by
  have hd : decide (fitsP n wd) = (decide (0 ≤ n) && (decide (n ≤ 1099511627776) && (decide (1 ≤ wd) && decide (wd ≤ 64)))) := by rw [Bool.eq_iff_iff, decide_eq_true_iff]; simp [fitsP]
  have HD := Lib.hid hd
  clear hd
  by_cases h1 : 0 ≤ n <;> by_cases h2 : n ≤ 1099511627776 <;> by_cases h3 : 1 ≤ wd <;> by_cases h4 : wd ≤ 64
  all_goals
    go_enter Try.func35, Try.ntmps35
    go_wp2
    go_ret
    refine ⟨?_, rfl⟩
    rw [HD.out]
    refine congrArg Ending.returned (congrArg Value.bool ?_)
    simp [h1, h2, h3, h4]
theorem fits_yes (n wd : Int) (w : World) (h : fitsP n wd) : Calls Try.prog 35 #[.int .i64 n, .int .i64 wd] w fun e w' => e = .returned (.bool true) ∧ w = w' :=
  (fits_any n wd w).mono fun e w' ⟨h1, h2⟩ => ⟨by rw [h1, decide_eq_true h], h2⟩
theorem fits_no (n wd : Int) (w : World) (h : ¬ fitsP n wd) : Calls Try.prog 35 #[.int .i64 n, .int .i64 wd] w fun e w' => e = .returned (.bool false) ∧ w = w' :=
  (fits_any n wd w).mono fun e w' ⟨h1, h2⟩ => ⟨by rw [h1, decide_eq_false h], h2⟩

theorem size_no (n wd : Int) (w : World) (h : ¬ fitsP n wd) : Calls Try.prog 15 #[.int .i64 n, .int .i64 wd] w fun e w' => e = .returned (.int .i64 0) ∧ w = w' := by
  go_enter Try.func15, Try.ntmps15
  go_wp2_with (go_at_call 35; refine (fits_no n wd _ h).mono ?_; rintro e w' ⟨rfl, rfl⟩)
  go_ret
  exact ⟨rfl, rfl⟩
theorem mul_bound (n wd : Nat) (h1 : n ≤ 1099511627776) (h2 : wd ≤ 64) : n * wd ≤ 70368744177664 := Nat.le_trans (Nat.mul_le_mul h1 h2) (by decide)
theorem size_yes (n wd : Nat) (w : World) (h : fitsP n wd) : Calls Try.prog 15 #[.int .i64 (n : Int), .int .i64 (wd : Int)] w fun e w' => e = .returned (.int .i64 (sizeN n wd : Int)) ∧ w = w' := by
  have H := Lib.hid h
  obtain ⟨h1, h2, h3, h4⟩ := h
  have hb := mul_bound n wd (by omega) (by omega)
  obtain ⟨m, hm⟩ : ∃ m, m = n * wd := ⟨_, rfl⟩
  have e1 : IntKind.i64.wrap ((n : Int) * (wd : Int)) = (m : Int) := by rw [IntWalk.i64_in _ (by rw [← Int.natCast_mul]; omega), hm, Int.natCast_mul]
  have hs : sizeN n wd = (m + 7) / 8 := by rw [hm]; rfl
  have HS := Lib.hid hs
  rw [← hm] at hb
  clear h1 h2 h3 h4 hm hs
  go_enter Try.func15, Try.ntmps15
  go_wp2_with (go_at_call 35; refine (fits_yes (n : Int) (wd : Int) _ H.out).mono ?_; rintro e w' ⟨rfl, rfl⟩)
  go_ret
  refine ⟨?_, rfl⟩
  rw [HS.out]
  refine congrArg Ending.returned (congrArg (Value.int IntKind.i64) ?_)
  omega

/-- What Get tells. -/
theorem gets_step (n i wd k : Nat) : n / 2 ^ (i * wd) / 2 ^ k % 2 = n / 2 ^ (i * wd + k) % 2 := by rw [Nat.div_div_eq_div_mul, ← Nat.pow_add]
theorem bit_u8 (y r : Nat) (h : y ≤ 255) : y / 2 ^ r % 2 ≤ 1 := by omega
theorem and1_u8_fin : ∀ y : Fin 256, bits BinOp.and IntKind.u8 ((y.val : Nat) : Int) 1 = ((y.val % 2 : Nat) : Int) := by decide +kernel
theorem and1_u8 (x : Nat) (h : x ≤ 255) : bits BinOp.and IntKind.u8 (x : Int) 1 = ((x % 2 : Nat) : Int) := and1_u8_fin ⟨x, by omega⟩
theorem shl1 (b k : Nat) (hb : b ≤ 1) (hk : k < 64) : IntKind.u64.wrap ((b : Int) * 2 ^ k) = ((2 ^ k * b : Nat) : Int) := by
  have h1 : 2 ^ k < 2 ^ 64 := Nat.pow_lt_pow_right (by omega) hk
  have h2 : 2 ^ k * b ≤ 2 ^ k * 1 := Nat.mul_le_mul_left _ hb
  have e1 : (b : Int) * 2 ^ k = ((2 ^ k * b : Nat) : Int) := by rw [Int.natCast_mul, Int.natCast_pow, Int.mul_comm]; rfl
  rw [e1, IntWalk.u64_in _ (by omega)]
theorem or1 (m b k : Nat) (hm : m < 2 ^ k) (hb : b ≤ 1) (hk : k < 64) : bits BinOp.or IntKind.u64 (m : Int) ((2 ^ k * b : Nat) : Int) = ((m + 2 ^ k * b : Nat) : Int) := by
  have h1 : 2 ^ (k + 1) ≤ 2 ^ 64 := Nat.pow_le_pow_right (by omega) hk
  rw [Nat.pow_succ] at h1
  have h2 : 2 ^ k * b ≤ 2 ^ k * 1 := Nat.mul_le_mul_left _ hb
  rw [bits_or_u64_nat m _ (by omega) (by omega)]
  congr 1
  have h3 := Nat.two_pow_add_eq_or_of_lt (i := k) (b := m) hm b
  rw [Nat.or_comm, ← h3, Nat.add_comm]

set_option maxHeartbeats 800000 in
theorem pget_any (a0 : Option Addr) (cap0 l : Nat) (bs : List Int) (hl : l = bs.length) (i wd : Nat) (w : World) (r0 : Rd w .u8 a0 cap0 bs) (hb : Bytes8 bs) (h : fitsP i wd) :
    Calls Try.prog 21 #[.slice a0 l cap0, .int .i64 (i : Int), .int .i64 (wd : Int)] w fun e w' => e = .returned (.int .u64 (gets (leN bs) i wd : Int)) ∧ w = w' := by
  have H := Lib.hid h
  obtain ⟨h1, h2, h3, h4⟩ := h
  have hmb := mul_bound i wd (by omega) (by omega)
  obtain ⟨m, hm⟩ : ∃ m, m = i * wd := ⟨_, rfl⟩
  rw [← hm] at hmb
  have e1 : IntKind.i64.wrap ((i : Int) * (wd : Int)) = (m : Int) := by rw [IntWalk.i64_in _ (by rw [← Int.natCast_mul, ← hm]; omega), hm, Int.natCast_mul]
  have HL := Lib.hid hl
  have HR := Lib.hid r0.2.2
  have HB := Lib.hid hb
  have HM := Lib.hid hm
  clear hl r0 hb hm h1 h2
  go_enter Try.func21, Try.ntmps21
  go_wp2_with (go_at_call 35; refine (fits_yes (i : Int) (wd : Int) _ H.out).mono ?_; rintro e w' ⟨rfl, rfl⟩)
  go_loop [6, 14] (fun vx vk => ∃ k : Nat, k ≤ wd ∧ vk = .int .i64 k ∧ vx = .int .u64 ((leN bs / 2 ^ m % 2 ^ k : Nat) : Int)) (fun _ vk => wd - (intOf vk).toNat)
  case atStart => exact ⟨0, Nat.zero_le _, rfl, by simp [Nat.mod_one]⟩
  case round =>
    obtain ⟨k, hk, rfl, rfl⟩ := hrel
    obtain ⟨x, hx⟩ : ∃ x, x = leN bs / 2 ^ m % 2 ^ k := ⟨_, rfl⟩
    have hxl : x < 2 ^ k := by rw [hx]; exact Nat.mod_lt _ (Nat.pow_pos (by omega))
    rw [← hx]
    by_cases hlt : k < wd
    · obtain ⟨q, hq⟩ : ∃ q, q = (m + k) / 8 := ⟨_, rfl⟩
      obtain ⟨r, hr⟩ : ∃ r, r = (m + k) % 8 := ⟨_, rfl⟩
      obtain ⟨t, ht⟩ : ∃ t, t = m + k := ⟨_, rfl⟩
      have e2 : IntKind.i64.wrap ((m : Int) + (k : Int)) = (t : Int) := by rw [IntWalk.i64_in _ (by omega)]; omega
      have e3 : (t : Int) / 8 = (q : Int) := by omega
      have e4 : (t : Int) % 8 = (r : Int) := by omega
      have hqb : (q : Int) ≤ 8796093022300 := by omega
      have htb : (t : Int) ≤ 70368744177800 := by omega
      have hrb : (r : Int) ≤ 7 := by omega
      have e5 : IntKind.i64.wrap ((i : Int) * (wd : Int) + (k : Int)) = (t : Int) := by
        have : ((i : Int) * (wd : Int)) = (m : Int) := by rw [HM.out, Int.natCast_mul]
        rw [this]; exact e2
      by_cases hql : q < l
      · obtain ⟨b, off, rfl, hc⟩ := HR.out q (by rw [← HL.out]; exact hql)
        have hbb := HB.out _ (nth_mem (by rw [← HL.out]; exact hql))
        obtain ⟨y, hy⟩ := Int.eq_ofNat_of_zero_le hbb.1
        rw [hy] at hc hbb
        obtain ⟨c, hcc⟩ : ∃ c, c = y / 2 ^ r := ⟨_, rfl⟩
        obtain ⟨d, hd⟩ : ∃ d, d = c % 2 := ⟨_, rfl⟩
        have hc255 : c ≤ 255 := by rw [hcc]; exact Nat.le_trans (Nat.div_le_self _ _) (by omega)
        have e6 : (y : Int) / 2 ^ r = (c : Int) := by rw [hcc, Int.natCast_ediv, Int.natCast_pow]; rfl
        have e7 : bits BinOp.and IntKind.u8 (c : Int) 1 = (d : Int) := by rw [and1_u8 c hc255, hd]
        have hd1 : d ≤ 1 := by omega
        obtain ⟨s, hs⟩ : ∃ s, s = 2 ^ k * d := ⟨_, rfl⟩
        have e8 : IntKind.u64.wrap ((d : Int) * 2 ^ k) = (s : Int) := by rw [shl1 d k hd1 (by omega), hs]
        have hor := or1 x d k hxl hd1 (by omega)
        rw [← hs] at hor
        have hnext : leN bs / 2 ^ m % 2 ^ (k + 1) = x + s := by
          have e9 := digit_bit (leN bs) (m + k)
          rw [← hq, ← hr, leN_digit bs HB.out q (by rw [← HL.out]; exact hql), hy, Int.toNat_natCast, ← hcc, ← hd] at e9
          rw [low_step, ← hx, Nat.div_div_eq_div_mul, ← Nat.pow_add, e9, hs]
        have HN := Lib.hid hnext
        have HOR := Lib.hid hor
        have hyb : (y : Int) ≤ 255 := hbb.2
        clear hx hxl hq hr ht hy hbb hcc hd hs hor hnext hc255
        go_wp2_with fail
        go_round
        case rel => exact ⟨k + 1, hlt, by go_num, by rw [HN.out, ← HOR.out]⟩
        case measure => simp [intOf]; omega
      · have hlast : x = gets (leN bs) i wd := by
          have hbnd := leN_bound bs HB.out
          have h8 : leN bs < 2 ^ (m + k) := Nat.lt_of_lt_of_le hbnd (Nat.pow_le_pow_right (by omega) (by rw [← HL.out]; omega))
          have h9 : leN bs / 2 ^ m < 2 ^ k := by rw [Nat.div_lt_iff_lt_mul (Nat.pow_pos (by omega)), ← Nat.pow_add, Nat.add_comm]; exact h8
          rw [hx, gets, ← HM.out, Nat.mod_eq_of_lt h9, Nat.mod_eq_of_lt (Nat.lt_of_lt_of_le h9 (Nat.pow_le_pow_right (by omega) hk))]
        have HLA := Lib.hid hlast
        clear hx hxl hq hr ht hlast
        go_wp2_with fail
        go_ret
        exact ⟨by rw [← HLA.out]; rfl, rfl⟩
    · have hkw : k = wd := by omega
      have hlast : x = gets (leN bs) i wd := by rw [hx, gets, ← HM.out, hkw]
      have HLA := Lib.hid hlast
      clear hx hxl hlast
      go_wp2_with fail
      go_ret
      exact ⟨by rw [← HLA.out]; rfl, rfl⟩
theorem pget_no (a0 : Option Addr) (cap0 l : Nat) (i wd : Int) (w : World) (h : ¬ fitsP i wd) :
    Calls Try.prog 21 #[.slice a0 l cap0, .int .i64 i, .int .i64 wd] w fun e w' => e = .returned (.int .u64 0) ∧ w = w' := by
  go_enter Try.func21, Try.ntmps21
  go_wp2_with (go_at_call 35; refine (fits_no i wd _ h).mono ?_; rintro e w' ⟨rfl, rfl⟩)
  go_ret
  exact ⟨rfl, rfl⟩
end Go.Proofs.Ytgdiffabnalidaa
