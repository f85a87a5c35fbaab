/-
  Layer 3: a bit that is changed is told.
-/
import Derived.Test.YtlcilinobdjlaaaCrc6
import Derived.Test.YtlcilinobdjlaaaCrcP
namespace Go.Proofs.Ytlcilinobdjlaaa
open Go.RowKit
set_option linter.unusedSimpArgs false
set_option linter.unusedVariables false

set_option maxRecDepth 100000 in
set_option maxHeartbeats 800000 in
theorem crcFlips_any (a0 : Option Addr) (cap0 n : Nat) (b : List Int) (bit cut : Int) (hn : n = b.length) (w : World)
    (hr : Rd w .u8 a0 cap0 b) (hb : Bytes8 b) :
    Calls Try.prog 6 #[.slice a0 n cap0, .int .i64 bit, .int .i64 cut] w fun e w' => e = .returned (.bool true) ∧ Kp [] w w' := by
  have HR := Lib.hid hr
  have HN := Lib.hid hn
  clear hr hn
  obtain ⟨v, hv, hvl⟩ := u64_ex bit
  obtain ⟨u, hu, hul⟩ := u64_ex cut
  by_cases h0 : (1000 : Int) < (n : Int)
  · go_enter Try.func6, Try.ntmps6
    go_wp2_with fail
    refine (known03_any _).mono ?_
    rintro e w1 ⟨rfl, kp1⟩
    go_wp2_with fail
    go_ret
    exact ⟨rfl, kp1⟩
  go_enter Try.func6, Try.ntmps6
  go_wp2_with fail
  refine (kFrame_any a0 cap0 n b HN.out _ HR.out hb (by omega)).mono ?_
  rintro e w1 ⟨ad1, cap1, rfl, ho1, kp1⟩
  have HO1 := Lib.hid ho1
  have HK1 := Lib.hid kp1
  have hs1 := kp1.size
  have hfl := frB_length b
  rw [← HN.out] at hfl
  have HFL := Lib.hid hfl
  have hcap1 := ho1.rd.1
  rw [hfl] at hcap1
  have hcapm := ho1.rd.2.1
  clear ho1 kp1 hfl
  obtain ⟨k, hk, hkl⟩ : ∃ k : Nat, wrap64 ((v : Int) % (8 * ((n : Int) + 8) - 32)) = (k : Int) ∧ k < 8 * n + 32 := by
    have h1 := Nat.mod_lt v (show 0 < 8 * n + 32 by omega)
    refine ⟨v % (8 * n + 32), ?_, h1⟩
    rw [show 8 * ((n : Int) + 8) - 32 = ((8 * n + 32 : Nat) : Int) by omega, ← Int.natCast_emod]
    unfold wrap64; omega
  obtain ⟨m, hm, hml⟩ : ∃ m : Nat, wrap64 ((u : Int) % ((n : Int) + 8)) = (m : Int) ∧ m < n + 8 := by
    have h1 := Nat.mod_lt u (show 0 < n + 8 by omega)
    refine ⟨u % (n + 8), ?_, h1⟩
    rw [show (n : Int) + 8 = ((n + 8 : Nat) : Int) by omega, ← Int.natCast_emod]
    unfold wrap64; omega
  have hm1 : IntKind.u64.wrap (8 * ((n : Int) + 8) - 32) = 8 * ((n : Int) + 8) - 32 := by rw [IntWalk.u64_in _ (by omega)]
  have hm2 : IntKind.u64.wrap ((n : Int) + 8) = (n : Int) + 8 := by rw [IntWalk.u64_in _ (by omega)]
  go_wp2_with first
    | (at_builtin; refine wpList_copyB rfl (.tmp 38) (.tmp 39) 22 22 rfl w1.heap.size 5 .u8 1 Try.underlying22 Try.underlying22 infoU8 (some ⟨w1.heap.size, 0, none⟩) ad1 cap1 (n + 8) (frB b) HFL.out.symm rfl rfl (HO1.out.rd.alloc _) (by omega) (by omega) (by simp) ?_; intro ad2 cap2 w2 ho2 kp2; have HO2 := Lib.hid ho2; have HK2 := Lib.hid (((Kp.refl [] w1).alloc (Obj.cells #[] 5)).tr kp2); have hs2 := HK2.out.size; clear ho2 kp2)
  have hi : 4 + k / 8 < (frB b).length := by rw [HFL.out]; omega
  obtain ⟨g, rfl, hc, hf, hg1, hg2⟩ := HO2.out.at' hi
  have hcap2 := HO2.out.rd.1
  rw [HFL.out] at hcap2
  have hfb := frB_bytes hb
  have hzb := hfb _ (nth_mem (zs := frB b) (k := 4 + k / 8) hi)
  have hd2 : 2 ^ (k % 8) < 256 := Nat.lt_of_lt_of_le (Nat.pow_lt_pow_right (by omega) (show k % 8 < 8 by omega)) (by decide)
  have hd0 : 0 < 2 ^ (k % 8) := Nat.pow_pos (by omega)
  have hx : bits BinOp.xor IntKind.u8 (nth (frB b) (4 + k / 8)) (2 ^ (k % 8) % 256) = (((nth (frB b) (4 + k / 8)).toNat ^^^ 2 ^ (k % 8) : Nat) : Int) := by
    have h1 := u8_xor_nat (nth (frB b) (4 + k / 8)).toNat (2 ^ (k % 8)) (by omega) hd2
    rw [Int.toNat_of_nonneg hzb.1] at h1
    rw [← h1]
    congr 1
    have e1 : ((2 : Int) ^ (k % 8)) = ((2 ^ (k % 8) : Nat) : Int) := by rw [Int.natCast_pow]; rfl
    rw [e1]
    omega
  obtain ⟨d, hd⟩ : ∃ d, d = 2 ^ (k % 8) := ⟨_, rfl⟩
  have hset := HO2.out.set (4 + k / 8) (((nth (frB b) (4 + k / 8)).toNat ^^^ d : Nat) : Int)
  have hfl1 := un_flip [] b [] hb (by rw [← HN.out]; omega) 0 rfl (4 + k / 8) d (by omega) (by rw [← HN.out]; omega) (by rw [hd]; exact hd0) (by rw [hd]; exact hd2)
  rw [List.nil_append, List.append_nil] at hfl1
  rw [← hd] at hx
  have hgb : Bytes8 ((frB b).set (4 + k / 8) (((nth (frB b) (4 + k / 8)).toNat ^^^ d : Nat) : Int)) := fun y hy => by
    rcases List.mem_or_eq_of_mem_set hy with h | rfl
    · exact hfb y h
    · have h2 := Nat.xor_lt_two_pow (x := (nth (frB b) (4 + k / 8)).toNat) (y := d) (n := 8) (by omega) (by rw [hd]; exact hd2)
      omega
  have hkp := (Kp.refl [g] w2).setCell ⟨g, 4 + k / 8, none⟩ (.int .u8 (((nth (frB b) (4 + k / 8)).toNat ^^^ d : Nat) : Int)) (by simp)
  obtain ⟨ad5, cap5, hsl5, hr5⟩ := head_rd w1 ad1 cap1 (n + 8) m (frB b) HFL.out.symm (by omega) HO1.out.rd
  have hct := un_cut b (by rw [← HN.out]; omega) m (by rw [← HN.out]; omega)
  have HX := Lib.hid hx
  have HD := Lib.hid hd
  have HSET := Lib.hid hset
  have HFLIP := Lib.hid hfl1
  have HGB := Lib.hid hgb
  have HKP := Lib.hid hkp
  have HR5 := Lib.hid hr5
  have HCT := Lib.hid hct
  have HFB := Lib.hid hfb
  clear hx hd hset hfl1 hgb hkp hr5 hct hfb hd0 hd2 hzb
  go_region
  rw [HX.out]
  obtain ⟨w3, hw3⟩ : ∃ w3, w3 = (w2.setCell ⟨g, 4 + k / 8, none⟩ (.int .u8 (((nth (frB b) (4 + k / 8)).toNat ^^^ d : Nat) : Int))).drew := ⟨_, rfl⟩
  rw [← hw3]
  have ho3 := HSET.out.drew
  have kp3 := HKP.out.drew
  rw [← hw3] at ho3 kp3
  have HO3 := Lib.hid ho3
  have HK3 := Lib.hid kp3
  clear hc hf ho3 kp3 hw3
  go_wp2_with fail
  refine (kUnframe_any (some ⟨g, 0, none⟩) cap2 (n + 8) 0 _ (by rw [List.length_set, HFL.out]) _ HO3.out.rd HGB.out (by omega)).mono ?_
  rintro e w4 ⟨ad4, cap4, rfl, ho4, kp4⟩
  rw [HFLIP.out]
  have HK4 := Lib.hid kp4
  clear ho4 kp4
  go_wp2_with fail
  have hr5' : Rd w4 .u8 ad5 cap5 (sub (frB b) 0 m) := by
    refine ((HR5.out.keep0 HK2.out).keepne HK3.out (fun x hx hne hm2 => ?_)).keep0 HK4.out
    have := HR5.out.lt x hx hne
    simp at hm2
    omega
  refine (kUnframe_any ad5 cap5 m 0 (sub (frB b) 0 m) (by rw [sub_length _ _ _ (by rw [HFL.out]; omega)]; omega) _ hr5' (HFB.out.sub _ _) (by omega)).mono ?_
  rintro e w6 ⟨ad6, cap6, rfl, ho6, kp6⟩
  rw [HCT.out]
  have HK6 := Lib.hid kp6
  clear ho6 kp6
  go_wp2_with fail
  refine (known03_any _).mono ?_
  rintro e w7 ⟨rfl, kp7⟩
  go_wp2_with fail
  go_ret
  refine ⟨rfl, ?_⟩
  have k24 := (HK3.out.trans (HK4.out.tr (HK6.out.tr kp7)) (U := [g]) (by simp) (by simp))
  exact (HK1.out.tr HK2.out).trans k24 (by simp) (fun x hx => .inr (by simp at hx; subst hx; omega))
end Go.Proofs.Ytlcilinobdjlaaa
