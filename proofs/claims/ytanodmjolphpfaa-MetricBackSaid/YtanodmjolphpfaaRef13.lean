/-
  What isinglassref13's Ends, Bytes and Same tell.
-/
import Derived.Test.YtanodmjolphpfaaMetricB
import Derived.Test.YtanodmjolphpfaaRef01
import Derived.Deep.QuietTactic
import Derived.BigQuiet
namespace Go.Proofs.Ytanodmjolphpfaa
open Go.RowKit
set_option linter.unusedSimpArgs false
set_option linter.unusedVariables false

set_option maxHeartbeats 400000 in
theorem r13ends_any (ad : Option Addr) (cap : Nat) (zs : List Int) (n : Nat) (hn : n = zs.length) (w : World) (hr : Rd w .i64 ad cap zs) :
    Calls Try.prog 47 #[.slice ad n cap] w fun e w' => e = .returned (.tuple #[.int .i64 (lows zs), .int .i64 (highs zs)]) ∧ w = w' := by
  have HN := Lib.hid hn
  have HR := Lib.hid hr.2.2
  have hb : n ≤ 9223372036854775807 := by have := hr.1; have := hr.2.1; omega
  clear hn hr
  go_enter Try.func47, Try.ntmps47
  go_wp2
  go_loop [4, 5, 6] (fun lo hi i => ∃ k : Nat, k ≤ n ∧ i = .int .i64 k ∧ lo = .int .i64 (lows (zs.take k)) ∧ hi = .int .i64 (highs (zs.take k))) (fun _ _ i => n - (intOf i).toNat)
  case atStart => exact ⟨0, Nat.zero_le _, rfl, rfl, rfl⟩
  case round =>
    obtain ⟨k, hk, rfl, rfl, rfl⟩ := hrel
    by_cases hlt : k < n
    · obtain ⟨b, off, rfl, hc⟩ := HR.out k (by rw [← HN.out]; exact hlt)
      have e1 := lows_step zs k (by rw [← HN.out]; exact hlt)
      have e2 := highs_step zs k (by rw [← HN.out]; exact hlt)
      have E1 := Lib.hid e1
      have E2 := Lib.hid e2
      clear e1 e2
      by_cases h1 : nth zs k < lows (zs.take k) <;> by_cases h2 : highs (zs.take k) < nth zs k
      all_goals
        go_wp2
        go_round
        case rel => exact ⟨k + 1, hlt, by go_num, by rw [E1.out]; simp [h1], by rw [E2.out]; simp [h2]⟩
        case measure => simp [intOf]; omega
    · obtain rfl : k = n := by omega
      go_wp2
      go_ret2
      refine ⟨?_, rfl⟩
      rw [HN.out, List.take_length]; rfl

set_option maxHeartbeats 1000000 in
theorem r13bytes_any (a0 : Option Addr) (cap0 : Nat) (zs : List Int) (n : Nat) (hn : n = zs.length) (w : World) (hr : Rd w .i64 a0 cap0 zs) (hm : zs.length ≤ 16777216) :
    Calls Try.prog 48 #[.slice a0 n cap0] w fun e w' => ∃ ad cap, e = .returned (.slice ad (20 + 8 * n) cap) ∧ Own w' w.heap.size 5 .u8 ad cap (colBytes zs) ∧ Kp [] w w' := by
  have HN := Lib.hid hn
  have HR := Lib.hid hr
  have hb : n ≤ 16777216 := by omega
  clear hn hr hm
  go_enter Try.func48, Try.ntmps48
  go_wp2_with fail
  refine (r13ends_any a0 cap0 zs n HN.out w HR.out).mono ?_
  rintro e w' ⟨rfl, rfl⟩
  go_wp2_with fail
  refine (little_any n 4 w (by omega) (by omega)).mono ?_
  rintro e w1 ⟨ad1, cap1, rfl, ho1, kp1⟩
  go_wp2_with fail
  rw [u64_wrap]
  refine (little_any (u64 (lows zs)) 8 w1 (u64_lt _) (by omega)).mono ?_
  rintro e w2 ⟨ad2, cap2, rfl, ho2, kp2⟩
  have ho1' := ho1.keep0 kp2
  have hs1 := kp1.size
  have hs2 := kp2.size
  have kw2 : Kp [] w w2 := kp1.trans kp2 (by simp) (by simp)
  clear ho1 kp1 kp2
  go_wp2_with (at_builtin; go_must (refine wpList_app rfl (.tmp 16) (.tmp 19) 40 40 rfl w.heap.size 5 .u8 1 Try.underlying40 infoU8 ad1 cap1 4 (le n 4) (by simp [le_length]) (le (u64 (lows zs)) 8) _ 8 (by simp [le_length]) rfl rfl ho1' (by have := src_rd (P := Try.prog) ho2.rd Try.underlying40; rwa [le_length] at this) (by omega) (by omega) (by omega) ?_); intro ad3 cap3 w3 ho3 kp3 hob3 _)
  have kw3 : Kp [] w w3 := kw2.trans kp3 (by simp) (fun x hx => .inr (ho1'.ob_ge x hx).1)
  rw [u64_wrap]
  refine (little_any (u64 (highs zs)) 8 w3 (u64_lt _) (by omega)).mono ?_
  rintro e w4 ⟨ad4, cap4, rfl, ho4, kp4⟩
  have ho3' := ho3.keep0 kp4
  have kw4 : Kp [] w w4 := kw3.trans kp4 (by simp) (by simp)
  have hs4 := kw4.size
  clear ho3 kp3 hob3 kp4 kw3 kw2 ho1' ho2 hs1 hs2
  go_wp2_with (at_builtin; go_must (refine wpList_app rfl (.tmp 21) (.tmp 24) 40 40 rfl w.heap.size 5 .u8 1 Try.underlying40 infoU8 ad3 cap3 12 (le n 4 ++ le (u64 (lows zs)) 8) (by simp [le_length]) (le (u64 (highs zs)) 8) _ 8 (by simp [le_length]) rfl rfl ho3' (by have := src_rd (P := Try.prog) ho4.rd Try.underlying40; rwa [le_length] at this) (by omega) (by omega) (by omega) ?_); intro ad5 cap5 w5 ho5 kp5 hob5 _)
  have kw5 : Kp [] w w5 := kw4.trans kp5 (by simp) (fun x hx => .inr (ho3'.ob_ge x hx).1)
  rw [show le n 4 ++ le (u64 (lows zs)) 8 ++ le (u64 (highs zs)) 8 = colHead zs by rw [HN.out]; rfl] at ho5
  clear kp5 hob5 ho4 ho3' kw4 hs4
  go_loopw [5, 6] (fun vo i wr => ∃ (k : Nat) (ad : Option Addr) (cap : Nat), k ≤ n ∧ i = .int .i64 k ∧ vo = .slice ad (20 + 8 * k) cap ∧ Own wr w.heap.size 5 .u8 ad cap (colHead zs ++ u64s (zs.take k)) ∧ Kp [] w wr) (fun _ i _ => n - (intOf i).toNat)
  case atStart => exact ⟨0, ad5, cap5, Nat.zero_le _, rfl, rfl, by simpa [u64s] using ho5, kw5⟩
  case round =>
    obtain ⟨k, ad, cap, hk, rfl, rfl, ho, kp⟩ := hrel
    clear ho5 kw5
    by_cases hlt : k < n
    · obtain ⟨b, off, rfl, hc⟩ := (HR.out.keep0 kp).2.2 k (by rw [← HN.out]; exact hlt)
      go_wp2_with fail
      rw [u64_wrap]
      refine (little_any (u64 (nth zs k)) 8 wr (u64_lt _) (by omega)).mono ?_
      rintro e w6 ⟨ad6, cap6, rfl, ho6, kp6⟩
      have ho' := ho.keep0 kp6
      have kw6 : Kp [] w w6 := kp.trans kp6 (by simp) (by simp)
      have hs6 := kw6.size
      clear hc kp6
      go_wp2_with (at_builtin; go_must (refine wpList_app rfl (.tmp 32) (.tmp 38) 40 40 rfl w.heap.size 5 .u8 1 Try.underlying40 infoU8 ad cap (20 + 8 * k) (colHead zs ++ u64s (zs.take k)) (by have := HN.out; simp [colHead_length, u64s_length]; omega) (le (u64 (nth zs k)) 8) _ 8 (by simp [le_length]) rfl rfl ho' (by have := src_rd (P := Try.prog) ho6.rd Try.underlying40; rwa [le_length] at this) (by omega) (by omega) (by omega) ?_); intro ad7 cap7 w7 ho7 kp7 hob7 _)
      go_roundw
      case rel =>
        refine ⟨k + 1, ad7, cap7, hlt, by go_num, by rw [show 20 + 8 * (k + 1) = 20 + 8 * k + 8 by omega], ?_, kw6.trans kp7 (by simp) (fun x hx => .inr (ho'.ob_ge x hx).1)⟩
        rw [u64s_step zs k (by rw [← HN.out]; exact hlt), ← List.append_assoc]; exact ho7
      case measure => simp [intOf]; omega
    · obtain rfl : k = n := by omega
      rw [show zs.take k = zs by rw [HN.out, List.take_length]] at ho
      go_wp2
      go_ret
      exact ⟨ad, cap, rfl, ho, kp⟩

set_option maxHeartbeats 400000 in
theorem r13same_yes (a0 a1 : Option Addr) (cap0 cap1 : Nat) (zs : List Int) (n : Nat) (hn : n = zs.length) (w : World) (h0 : Rd w .i64 a0 cap0 zs) (h1 : Rd w .i64 a1 cap1 zs) :
    Calls Try.prog 17 #[.slice a0 n cap0, .slice a1 n cap1] w fun e w' => e = .returned (.bool true) ∧ Kp [] w w' := by
  have HN := Lib.hid hn
  have hb : n ≤ 9223372036854775807 := by have := h0.1; have := h0.2.1; omega
  have H0 := Lib.hid h0
  have H1 := Lib.hid h1
  clear hn h0 h1
  go_enter Try.func17, Try.ntmps17
  go_wp2
  go_loopw [5] (fun i wr => ∃ k : Nat, k ≤ n ∧ i = .int .i64 k ∧ Kp [] w wr) (fun i _ => n - (intOf i).toNat)
  case atStart => exact ⟨0, Nat.zero_le _, rfl, Kp.refl _ _⟩
  case round =>
    obtain ⟨k, hk, rfl, kp⟩ := hrel
    by_cases hlt : k < n
    · obtain ⟨b, off, rfl, hc⟩ := (H0.out.keep0 kp).2.2 k (by rw [← HN.out]; exact hlt)
      obtain ⟨b', off', rfl, hc'⟩ := (H1.out.keep0 kp).2.2 k (by rw [← HN.out]; exact hlt)
      have hlt' : (k : Int) < (n : Int) := by omega
      go_wp2
      go_quiet (fail)
      go_wp2
      go_roundw
      case rel => exact ⟨k + 1, hlt, by go_num, ⟨kp.os, kp.tape, kp.output, kp.size, kp.block⟩⟩
      case measure => simp [intOf]; omega
    · go_wp2
      go_ret
      exact ⟨rfl, kp⟩
end Go.Proofs.Ytanodmjolphpfaa
