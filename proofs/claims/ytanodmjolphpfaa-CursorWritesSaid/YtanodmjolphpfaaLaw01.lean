/-
  A reader that is not there; what known of isinglasslaw01 tells.
-/
import Derived.Test.YtanodmjolphpfaaUintR
namespace Go.Proofs.Ytanodmjolphpfaa
open Go.RowKit
set_option linter.unusedSimpArgs false
set_option linter.unusedVariables false

theorem cbad_nil (w : World) : Calls Try.prog 32 #[.pointer none] w fun e w' => e = .returned (.bool true) ∧ w = w' := by
  go_enter Try.func32, Try.ntmps32
  go_wp2
  go_ret
  exact ⟨rfl, rfl⟩
theorem cat_nil (w : World) : Calls Try.prog 33 #[.pointer none] w fun e w' => e = .returned (.int .i64 0) ∧ w = w' := by
  go_enter Try.func33, Try.ntmps33
  go_wp2
  go_ret
  exact ⟨rfl, rfl⟩
theorem cleft_nil (w : World) : Calls Try.prog 35 #[.pointer none] w fun e w' => e = .returned (.int .i64 0) ∧ w = w' := by
  go_enter Try.func35, Try.ntmps35
  go_wp2_with (go_at_call 32; refine (cbad_nil _).mono ?_; rintro e w' ⟨rfl, rfl⟩)
  go_ret
  exact ⟨rfl, rfl⟩
theorem csome_nil (n : Int) (w : World) : Calls Try.prog 53 #[.pointer none, .int .i64 n] w fun e w' => e = .returned (.slice none 0 0) ∧ w = w' := by
  go_enter Try.func53, Try.ntmps53
  go_wp2_with (go_at_call 32; refine (cbad_nil _).mono ?_; rintro e w' ⟨rfl, rfl⟩)
  go_ret
  exact ⟨rfl, rfl⟩
theorem cnumber_nil (n : Int) (w : World) : Calls Try.prog 52 #[.pointer none, .int .i64 n] w fun e w' => e = .returned (.int .u64 0) ∧ w = w' := by
  go_enter Try.func52, Try.ntmps52
  go_wp2_with fail
  refine (csome_nil n _).mono ?_
  rintro e w1 ⟨rfl, rfl⟩
  go_wp2_with fail
  refine wp_loop_rounds 1 ?_
  rw [rounds_succ]
  go_wp2_with fail
  go_ret
  exact ⟨rfl, rfl⟩
theorem cu8_nil (w : World) : Calls Try.prog 34 #[.pointer none] w fun e w' => e = .returned (.int .u8 0) ∧ w = w' := by
  go_enter Try.func34, Try.ntmps34
  go_wp2_with (go_at_call 52; refine (cnumber_nil _ _).mono ?_; rintro e w' ⟨rfl, rfl⟩)
  go_ret
  exact ⟨rfl, rfl⟩
theorem cu16_nil (w : World) : Calls Try.prog 37 #[.pointer none] w fun e w' => e = .returned (.int .u16 0) ∧ w = w' := by
  go_enter Try.func37, Try.ntmps37
  go_wp2_with (go_at_call 52; refine (cnumber_nil _ _).mono ?_; rintro e w' ⟨rfl, rfl⟩)
  go_ret
  exact ⟨rfl, rfl⟩
theorem cu32_nil (w : World) : Calls Try.prog 38 #[.pointer none] w fun e w' => e = .returned (.int .u32 0) ∧ w = w' := by
  go_enter Try.func38, Try.ntmps38
  go_wp2_with (go_at_call 52; refine (cnumber_nil _ _).mono ?_; rintro e w' ⟨rfl, rfl⟩)
  go_ret
  exact ⟨rfl, rfl⟩
theorem cu64_nil (w : World) : Calls Try.prog 39 #[.pointer none] w fun e w' => e = .returned (.int .u64 0) ∧ w = w' := by
  go_enter Try.func39, Try.ntmps39
  go_wp2_with (go_at_call 52; refine (cnumber_nil _ _).mono ?_; rintro e w' ⟨rfl, rfl⟩)
  go_ret
  exact ⟨rfl, rfl⟩
theorem cuint_nil (w : World) : Calls Try.prog 31 #[.pointer none] w fun e w' => e = .returned (.int .u64 0) ∧ w = w' := by
  go_enter Try.func31, Try.ntmps31
  go_wp2_with (go_at_call 32; refine (cbad_nil _).mono ?_; rintro e w' ⟨rfl, rfl⟩)
  go_ret
  exact ⟨rfl, rfl⟩
theorem cbytes_nil (n : Int) (w : World) : Calls Try.prog 41 #[.pointer none, .int .i64 n] w fun e w' => ∃ ad cap, e = .returned (.slice ad 0 cap) ∧ Kp [] w w' := by
  go_enter Try.func41, Try.ntmps41
  go_wp2_with fail
  refine (csome_nil n _).mono ?_
  rintro e w1 ⟨rfl, rfl⟩
  go_wp2_with fail
  refine (clone_any none 0 0 [] rfl _ ⟨by simp, by omega, by simp⟩ (by omega)).mono ?_
  rintro e w2 ⟨ad2, cap2, rfl, ho, kp2⟩
  go_wp2_with fail
  go_ret
  exact ⟨ad2, cap2, rfl, kp2⟩

theorem no_stand : ∀ n, ¬ Stands [128, 0] 0 n := by
  intro n h
  have hl := h.2.1
  have hs := (short_length n).1
  have h0 := h.at' (k := 0) (by omega)
  rcases short_nth n 0 h.1 (by omega) with ⟨i1, i2, i3⟩ | ⟨i1, i2, i3, i4⟩
  · have h1 := h.at' (k := 1) i1
    rcases short_nth n 1 h.1 i1 with ⟨j1, j2, j3⟩ | ⟨j1, j2, j3, j4⟩
    · rw [j2] at h1; simp [nth] at h1; omega
    · rw [j2] at h1; have := j4 (by omega); simp [nth] at h1; omega
  · rw [i2] at h0; simp [nth] at h0; omega

theorem rd_row {w : World} {b : Nat} {k : IntKind} {zs : List Int} {e : TypeId} (h : w.heap[b]? = some (.cells (ints k zs) e)) (hl : zs.length ≤ 9223372036854775807) : Rd w k (some ⟨b, 0, none⟩) zs.length zs :=
  (Own.row (base := 0) (Nat.zero_le _) h hl).rd

set_option maxHeartbeats 1000000 in
theorem known01 (w : World) : Calls Try.prog 23 #[] w fun e w' => e = .returned (.bool true) ∧ Kp [] w w' := by
  have b3 : Bytes8 [1, 2, 3] := by intro z hz; simp at hz; omega
  have b2 : Bytes8 [128, 0] := by intro z hz; simp at hz; omega
  have B3 := Lib.hid b3
  have B2 := Lib.hid b2
  clear b3 b2
  go_enter Try.func23, Try.ntmps23
  go_wp2_with fail
  refine (cnew_any _ 3 3 [1, 2, 3] rfl _ (rd_row (k := .u8) (zs := [1, 2, 3]) (e := 5) (heap_alloc_at rfl) (by simp)) (by omega)).mono ?_
  rintro e w1 ⟨p, rfl, hp0, hp, kp1⟩
  have hpl := hp.lt
  have kw1 : Kp [] w w1 := ((Kp.refl [] w).alloc _).tr kp1
  have HP := Lib.hid hp
  simp only [World.size_alloc] at hp0
  clear hp kp1
  go_wp2_with fail
  refine (cnew_any _ 2 2 [128, 0] rfl _ (rd_row (k := .u8) (zs := [128, 0]) (e := 5) (heap_alloc_at rfl) (by simp)) (by omega)).mono ?_
  rintro e w2 ⟨q, rfl, hq0, hq, kp2⟩
  have hpq := HP.out.keep (((Kp.refl [] w1).alloc _).tr kp2)
  have kw2 : Kp [] w w2 := kw1.tr (((Kp.refl [] w1).alloc _).tr kp2)
  simp only [World.size_alloc] at hq0
  have hz1 := kw1.size
  have HP2 := Lib.hid hpq
  have HQ := Lib.hid hq
  clear hpq hq kp2 HP kw1
  go_wp2_with fail
  refine (cuint_no q [128, 0] 0 w2 HQ.out B2.out no_stand).mono ?_
  rintro e w3 ⟨rfl, hq3, kp3⟩
  have hp3 := HP2.out.keepS kp3 (by intro x hx; simp at hx; omega)
  have kw3 : Kp [] w w3 := kw2.trans kp3 (by simp) (by intro x hx; simp at hx; exact .inr (by omega))
  have HP3 := Lib.hid hp3
  have HQ3 := Lib.hid hq3
  have hz3 := kw3.size
  clear hp3 hq3 kp3 kw2 HP2 HQ
  go_wp2_with fail
  refine (cbad_any q [128, 0] 0 true w3 HQ3.out).mono ?_
  rintro e w' ⟨rfl, rfl⟩
  go_wp2_with fail
  refine (appU32_any none 0 0 258 [] rfl w3 ⟨by simp, by omega, by simp⟩ (by omega) (by omega) (by omega)).mono ?_
  rintro e w4 ⟨ad4, cap4, rfl, ho4, kp4⟩
  have hcv := conv_str (P := Try.prog) w4 40 9 5 Try.underlying40 Try.underlying5 Try.underlying9 ad4 cap4 4 _ ho4.rd (by simp [le_length])
  rw [show strOfNums ([] ++ le (Int.toNat 258) 4) = ⟨#[2, 1, 0, 0]⟩ from by decide +kernel] at hcv
  have HP4 := Lib.hid (HP3.out.keep kp4)
  have kw4 := kw3.tr kp4
  clear ho4 kp4 HP3 kw3 HQ3
  go_wp2_with fail
  clear hcv
  refine (appUint_any none 0 0 300 [] rfl w4 ⟨by simp, by omega, by simp⟩ (by omega) (by omega) (by omega)).mono ?_
  rintro e w5 ⟨ad5, cap5, rfl, ho5, kp5⟩
  rw [show 0 + (short (Int.toNat 300)).length = 2 from by decide +kernel]
  have hcv := conv_str (P := Try.prog) w5 40 9 5 Try.underlying40 Try.underlying5 Try.underlying9 ad5 cap5 2 _ ho5.rd (by decide +kernel)
  rw [show strOfNums ([] ++ short (Int.toNat 300)) = ⟨#[172, 2]⟩ from by decide +kernel] at hcv
  have HP5 := Lib.hid (HP4.out.keep kp5)
  have kw5 := kw4.tr kp5
  clear ho5 kp5 HP4 kw4
  go_wp2_with fail
  clear hcv
  have hu16 := cu16_any p [1, 2, 3] 0 false w5 HP5.out B3.out
  rw [show rdN [1, 2, 3] 0 false 2 = 513 from by decide +kernel, show rdA [1, 2, 3] 0 false 2 = 2 from by decide +kernel, show rdB [1, 2, 3] 0 false 2 = false from by decide +kernel] at hu16
  refine hu16.mono ?_
  clear hu16
  rintro e w6 ⟨rfl, hp6, kp6⟩
  have kw6 : Kp [] w w6 := kw5.trans kp6 (by simp) (by intro x hx; simp at hx; exact .inr (by omega))
  have HP6 := Lib.hid hp6
  clear hp6 kp6 kw5 HP5
  go_wp2_with fail
  have hu8 := cu8_any p [1, 2, 3] 2 false w6 HP6.out B3.out
  rw [show rdN [1, 2, 3] 2 false 1 = 3 from by decide +kernel, show rdA [1, 2, 3] 2 false 1 = 3 from by decide +kernel, show rdB [1, 2, 3] 2 false 1 = false from by decide +kernel] at hu8
  refine hu8.mono ?_
  clear hu8
  rintro e w7 ⟨rfl, hp7, kp7⟩
  have kw7 : Kp [] w w7 := kw6.trans kp7 (by simp) (by intro x hx; simp at hx; exact .inr (by omega))
  have HP7 := Lib.hid hp7
  clear hp7 kp7 kw6 HP6
  go_wp2_with fail
  refine (cleft_ok p [1, 2, 3] 3 w7 HP7.out).mono ?_
  rintro e w8 ⟨rfl, kp8⟩
  have HP8 := Lib.hid (HP7.out.keep kp8)
  have kw8 := kw7.tr kp8
  go_wp2_with fail
  refine (cbad_any p [1, 2, 3] 3 false w8 HP8.out).mono ?_
  rintro e w' ⟨rfl, rfl⟩
  go_wp2_with fail
  go_ret
  exact ⟨rfl, kw8⟩

set_option maxRecDepth 20000 in
set_option maxHeartbeats 800000 in
theorem none_walk (n : Int) (w : World) : Calls Try.prog 9 #[.int .i64 n] w fun e w' => e = .returned (.bool true) ∧ Kp [] w w' := by
  go_enter Try.func9, Try.ntmps9
  go_wp2_with (first
    | (go_at_call 32; refine (cbad_nil _).mono ?_; rintro e w' ⟨rfl, rfl⟩)
    | (go_at_call 34; refine (cu8_nil _).mono ?_; rintro e w' ⟨rfl, rfl⟩)
    | (go_at_call 37; refine (cu16_nil _).mono ?_; rintro e w' ⟨rfl, rfl⟩)
    | (go_at_call 38; refine (cu32_nil _).mono ?_; rintro e w' ⟨rfl, rfl⟩)
    | (go_at_call 39; refine (cu64_nil _).mono ?_; rintro e w' ⟨rfl, rfl⟩)
    | (go_at_call 31; refine (cuint_nil _).mono ?_; rintro e w' ⟨rfl, rfl⟩)
    | (go_at_call 41; refine (cbytes_nil _ _).mono ?_; rintro e w1 ⟨ad1, cap1, rfl, kp1⟩)
    | (go_at_call 35; refine (cleft_nil _).mono ?_; rintro e w' ⟨rfl, rfl⟩)
    | (go_at_call 33; refine (cat_nil _).mono ?_; rintro e w' ⟨rfl, rfl⟩)
    | (go_at_call 23; refine (known01 _).mono ?_; rintro e w2 ⟨rfl, kp2⟩))
  go_ret
  exact ⟨rfl, kp1.tr kp2⟩
end Go.Proofs.Ytanodmjolphpfaa
