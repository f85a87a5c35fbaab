/-
  Sections: the law of a changed byte.
-/
import Derived.Test.YtegnobdablbahaaSecA
import Derived.Test.YtegnobdablbahaaSecC
import Derived.Test.YtegnobdablbahaaSecs
namespace Go.Proofs.Ytegnobdablbahaa
open Go.RowKit
set_option linter.unusedSimpArgs false
set_option linter.unusedVariables false

theorem szN_le : ∀ (l : List Sec), (∀ x ∈ l, x.nm.size ≤ 20 ∧ x.bs.length ≤ 1073741824) → szN l ≤ 1073741854 * l.length
  | [], _ => by simp [szN]
  | x :: l, h => by
    have h1 := h x (by simp)
    have h2 := szN_le l (fun y hy => h y (List.mem_cons_of_mem _ hy))
    simp only [szN, List.map_cons, List.sum_cons, List.length_cons] at h2 ⊢
    omega
theorem flat_szN : ∀ (l : List Sec), (l.flatMap secB).length ≤ szN l
  | [] => by simp
  | x :: l => by
    have := flat_szN l
    simp only [szN, List.flatMap_cons, List.length_append, secB_length, List.map_cons, List.sum_cons] at this ⊢
    omega
theorem may_size {l : List Sec} (h : mayP l = 0) : wrap64 (szN l) = szN l ∧ (imgB l).length ≤ 6 + szN l := by
  obtain ⟨h1, h2⟩ := mayP_ok h
  have h3 := szN_le l (fun x hx => (h2 x hx).2)
  have h4 := flat_szN l
  refine ⟨by unfold wrap64; omega, by rw [imgB, List.length_append, headB_length]; omega⟩
theorem mod_ex (z : Int) (n : Nat) (h0 : 0 < n) (hn : n ≤ 9223372036854775807) : ∃ m : Nat, wrap64 (IntKind.u64.wrap z % (n : Int)) = (m : Int) ∧ m < n := by
  obtain ⟨v, hv, -⟩ := u64_ex z
  have h1 := Nat.mod_lt v h0
  refine ⟨v % n, ?_, h1⟩
  rw [hv, ← Int.natCast_emod]
  unfold wrap64; omega

theorem apart_flip {l : List Sec} (h : mayP l = 0) {k m p : Nat} {x : Sec} (hk : k < l.length) (hx : x = atX l k) (hb : Bytes8 x.bs) (hm : m < x.bs.length) {d : Nat} (hd : 0 < d) (hd2 : d < 256) (hp : p = 6 + ((l.take k).flatMap secB).length) :
    rdP ((imgB l).set (p + (1 + x.nm.size + 4 + m)) (((nth (imgB l) (p + (1 + x.nm.size + 4 + m))).toNat ^^^ d : Nat) : Int)) = (6, []) ∧ p + (1 + x.nm.size + 4 + m) < (imgB l).length := by
  have hsp : l = l.take k ++ x :: l.drop (k + 1) := by
    conv => lhs; rw [← List.take_append_drop k l, List.drop_eq_getElem_cons hk]
    rw [hx, atX_eq l k hk]
  have hK : l.map keyS = (l.take k).map keyS ++ keyS x :: (l.drop (k + 1)).map keyS := by
    conv => lhs; rw [hsp, List.map_append, List.map_cons]
  obtain ⟨i1, i2⟩ := (may_iff l).1 h
  have e1 : ((l.take k).map keyS ++ keyS x :: (l.drop (k + 1)).map keyS).length ≤ 2000 := by rw [← hK, List.length_map]; exact i1
  have e2 : okK [] ((l.take k).map keyS ++ keyS x :: (l.drop (k + 1)).map keyS) := by rw [← hK]; exact i2
  have e3 : ((l.take k).map keyS).flatMap kB = (l.take k).flatMap secB := by rw [List.flatMap_map]; rfl
  have hq : p + (1 + x.nm.size + 4 + m) = 6 + (((l.take k).map keyS).flatMap kB).length + 1 + (keyS x).1.size + 4 + m := by
    rw [e3, hp]; show _ = 6 + ((l.take k).flatMap secB).length + 1 + x.nm.size + 4 + m; omega
  have hfl := rd_flip _ _ (keyS x) e1 e2 hb m d hm hd hd2 _ hq
  rwa [← hK, ← imgB_key] at hfl

theorem imgB_b8 {l : List Sec} (h : XOk l) (hm : XMay l) : Bytes8 (imgB l) := by
  refine bytes8_append (bytes8_append (fun z hz => by simp at hz; omega) (le_bytes _ _)) fun z hz => ?_
  obtain ⟨x, hx, hz⟩ := List.mem_flatMap.1 hz
  have h1 := hm.2 x hx
  exact bytes8_append (bytes8_append (fun y hy => by simp at hy; omega) (sbytes_b8 x.nm)) (frB_bytes (h x hx).1) z hz
theorem xor_byte {zs : List Int} (h : Bytes8 zs) {t : Nat} (ht : t < zs.length) {b : Int} (hb : 0 ≤ b ∧ b ≤ 255) : bits BinOp.xor IntKind.u8 (nth zs t) b = (((nth zs t).toNat ^^^ b.toNat : Nat) : Int) ∧ Bytes8 (zs.set t (((nth zs t).toNat ^^^ b.toNat : Nat) : Int)) := by
  have h1 := h _ (nth_mem ht)
  have h2 := u8_xor_nat (nth zs t).toNat b.toNat (by omega) (by omega)
  rw [Int.toNat_of_nonneg h1.1, Int.toNat_of_nonneg hb.1] at h2
  refine ⟨h2, fun y hy => ?_⟩
  rcases List.mem_or_eq_of_mem_set hy with h | rfl
  · rename_i h0; exact h0 y h
  · have h3 := Nat.xor_lt_two_pow (x := (nth zs t).toNat) (y := b.toNat) (n := 8) (by omega) (by omega)
    omega
theorem place_lt {M p a m : Nat} (h : p + (1 + a + 4 + m) < M) : ¬ (M : Int) ≤ (p : Int) + (1 + (a : Int) + 4 + (m : Int)) := by omega
theorem place_eq {t p a m : Nat} (h : t = p + (1 + a + 4 + m)) : (p : Int) + (1 + (a : Int) + 4 + (m : Int)) = (t : Int) := by omega
theorem place_eq2 (p a b : Nat) : (p : Int) + (1 + (a : Int) + 8 + (b : Int)) = ((p + (9 + a + b) : Nat) : Int) := by omega

set_option maxRecDepth 100000 in
set_option maxHeartbeats 3200000 in
theorem sectionsApart_any (a0 : Option Addr) (cap0 n : Nat) (l : List Sec) (which at' by' : Int) (hn : n = l.length) (w : World) (hr : RdX w a0 cap0 l) (hw : ∀ x ∈ l, Sec.wf w x) (hby : 0 ≤ by' ∧ by' ≤ 255) :
    Calls Try.prog 10 #[.slice a0 n cap0, .int .i64 which, .int .i64 at', .int .u8 by'] w fun e w' => e = .returned (.bool true) ∧ Kp [] w w' := by
  have HR := Lib.hid hr
  have HN := Lib.hid hn
  have HS := Lib.hid (secs_rd hw)
  have HX := Lib.hid (secs_ok hw)
  have hcl := hr.1
  rw [← hn] at hcl
  have hcm := hr.2.1
  obtain ⟨z, hz⟩ : ∃ z, z = wrap64 (szN l) := ⟨_, rfl⟩
  have HZ := Lib.hid hz
  clear hr hn hw hz
  go_enter Try.func10, Try.ntmps10
  go_wp2_with fail
  refine (r21Size_any a0 cap0 n l HN.out _ HR.out HX.out).mono ?_
  rintro e w1 ⟨rfl, kp1⟩
  rw [← HZ.out]
  have HK1 := Lib.hid kp1
  clear kp1
  by_cases h0 : (20000 : Int) < z
  · go_wp2_with fail
    refine (known21_any _).mono ?_
    rintro e w2 ⟨rfl, kp2⟩
    go_wp2_with fail
    go_ret
    exact ⟨rfl, HK1.out.tr kp2⟩
  by_cases hn0 : n = 0
  · have hnq : ((n : Int) == 0) = true := by simp [hn0]
    clear hn0
    go_wp2_with fail
    refine (known21_any _).mono ?_
    rintro e w2 ⟨rfl, kp2⟩
    go_wp2_with fail
    go_ret
    exact ⟨rfl, HK1.out.tr kp2⟩
  have hnq : ((n : Int) == 0) = false := by simp [hn0]
  by_cases hb0 : by' = 0
  · have hbq : (by' == 0) = true := by simp [hb0]
    clear hb0
    go_wp2_with fail
    refine (known21_any _).mono ?_
    rintro e w2 ⟨rfl, kp2⟩
    go_wp2_with fail
    go_ret
    exact ⟨rfl, HK1.out.tr kp2⟩
  have hbq : (by' == 0) = false := by simpa using hb0
  have HB0 := Lib.hid hb0
  clear hb0
  go_wp2_with fail
  refine (xWrite_any a0 cap0 n l HN.out _ (HR.out.keep0 HK1.out) (HS.out.keep0 HK1.out) HX.out).mono ?_
  rintro e w2 ⟨ad2, cap2, rfl, ho2, kp2⟩
  have HK2 := Lib.hid (HK1.out.tr kp2)
  have hw1 := HK1.out.size
  clear kp2
  by_cases hm0 : mayP l = 0
  · rw [hm0]
    obtain ⟨s1, s2⟩ := may_size hm0
    have hszl : (imgB l).length ≤ 20006 := by have := HZ.out; omega
    have e1 : wrB l = imgB l := by rw [wrB, if_pos hm0]
    rw [e1] at ho2 ⊢
    obtain ⟨M, hM⟩ : ∃ M, M = (imgB l).length := ⟨_, rfl⟩
    rw [← hM] at hszl ⊢
    have HM := Lib.hid hM
    have HO2 := Lib.hid ho2
    have HM0 := Lib.hid hm0
    have hn2 : n ≤ 2000 := by rw [HN.out]; exact (mayP_ok hm0).1
    clear s1 s2 e1 hM ho2 hm0
    obtain ⟨k, hk, hkl⟩ := mod_ex which n (by omega) (by omega)
    have hnw : IntKind.u64.wrap (n : Int) = (n : Int) := by rw [IntWalk.u64_in _ (by omega)]
    obtain ⟨u1, hu1, -⟩ := u64_ex which
    rw [hu1] at hk
    go_wp2_with fail
    rw [hk]
    have HKL := Lib.hid hkl
    clear hk hu1 hnw
    go_loopw [11, 13, 46] (fun vp _ vi wr => ∃ (i p : Nat), i ≤ n ∧ vi = .int .i64 i ∧ vp = .int .i64 p ∧ p ≤ 20006 ∧ Hid (p = 6 + ((l.take (min i k)).flatMap secB).length) ∧ Hid (Kp [] w2 wr)) (fun _ _ vi _ => n - (intOf vi).toNat)
    case atStart => exact ⟨0, 6, Nat.zero_le _, rfl, rfl, by omega, Lib.hid (by simp), Lib.hid (Kp.refl _ _)⟩
    case round =>
      obtain ⟨i, p, hi, rfl, rfl, hp, HP, HK⟩ := hrel
      by_cases hlt : i < n
      · have hil : i < l.length := by rw [← HN.out]; exact hlt
        obtain ⟨b, off, rfl, c0, c1⟩ := (HR.out.keep0 (HK2.out.tr HK.out)).atX i hil
        obtain ⟨x, hx⟩ : ∃ x, x = atX l i := ⟨_, rfl⟩
        have hdup := upto_no hil (may_zero HM0.out).2.2
        rw [dupI, ← hx] at hdup
        have hdup : fndX l x.nm = (i : Int) := by simpa using hdup
        have HD := Lib.hid hdup
        obtain ⟨-, g2, g3⟩ := (mayP_ok HM0.out).at' i hil
        rw [← hx] at c0 c1 g2 g3
        have hst : (l.take (i + 1)).flatMap secB = (l.take i).flatMap secB ++ secB x := by
          rw [List.take_succ_eq_append_getElem hil, List.flatMap_append, hx, atX_eq l i hil]; simp
        have HST := Lib.hid hst
        have HIL := Lib.hid hil
        clear hx hdup hil hst
        by_cases hik : i < k
        · go_wp2_with fail
          refine (xFind_any _ _ _ l _ HN.out _ (HR.out.keep0 (HK2.out.tr HK.out))).mono ?_
          rintro e w3 ⟨rfl, kp3⟩
          rw [HD.out]
          have HK3 := Lib.hid (HK.out.tr kp3)
          have d0 := kp3.cell c0 (by simp)
          have d1 := kp3.cell c1 (by simp)
          clear kp3 c0 c1
          have hlen : p + (9 + x.nm.size + x.bs.length) ≤ 20006 := by
            have h1 : 6 + ((l.take (i + 1)).flatMap secB).length ≤ M := by
              rw [HM.out, imgB, List.length_append, headB_length]
              conv => rhs; rw [← List.take_append_drop (i + 1) l, List.flatMap_append, List.length_append]
              omega
            rw [HST.out, List.length_append, secB_length] at h1
            have := HP.out
            rw [show min i k = i by omega] at this
            omega
          go_wp2_with fail
          go_quiet (fail)
          have HK4 := Lib.hid (HK3.out.tr (kdN w3 nq))
          generalize w3.drewN nq = w4 at *
          have HP2 : Hid (p + (9 + x.nm.size + x.bs.length) = 6 + ((l.take (min (i + 1) k)).flatMap secB).length) := Lib.hid (by
            have := HP.out
            rw [show min i k = i by omega] at this
            rw [show min (i + 1) k = i + 1 by omega, HST.out, List.length_append, secB_length]; omega)
          have hpv := place_eq2 p x.nm.size x.bs.length
          rw [hpv]
          clear hpv d0 d1
          go_wp2_with fail
          go_roundw
          case rel => exact ⟨i + 1, p + (9 + x.nm.size + x.bs.length), hlt, by go_num, rfl, hlen, HP2, HK4⟩
          case measure => simp [intOf]; omega
        · clear c1
          go_wp2_with fail
          refine (xFind_any _ _ _ l _ HN.out _ (HR.out.keep0 (HK2.out.tr HK.out))).mono ?_
          rintro e w3 ⟨rfl, kp3⟩
          rw [HD.out]
          have HK3 := Lib.hid (HK.out.tr kp3)
          clear kp3 c0
          go_wp2_with fail
          go_roundw
          case rel => exact ⟨i + 1, p, hlt, by go_num, rfl, hp, Lib.hid (by rw [HP.out, show min i k = k by omega, show min (i + 1) k = k by omega]), HK3⟩
          case measure => simp [intOf]; omega
      · obtain rfl : i = n := by omega
        have hkl := HKL.out
        have hkl2 : k < l.length := by rw [← HN.out]; exact hkl
        obtain ⟨b, off, rfl, c0, c1⟩ := (HR.out.keep0 (HK2.out.tr HK.out)).atX k hkl2
        obtain ⟨x, hx⟩ : ∃ x, x = atX l k := ⟨_, rfl⟩
        have hb8 := (HX.out.at' k hkl2).1
        obtain ⟨-, g2, g3⟩ := (mayP_ok HM0.out).at' k hkl2
        rw [← hx] at c0 c1 g2 g3 hb8
        have HXX := Lib.hid hx
        have HB8 := Lib.hid hb8
        obtain ⟨q, hq⟩ : ∃ q, q = x.bs.length := ⟨_, rfl⟩
        rw [← hq] at c1 g3
        have HQ := Lib.hid hq
        clear hx hb8 hq hkl
        by_cases hq0 : q = 0
        · have hqq : ((q : Int) == 0) = true := by simp [hq0]
          clear hq0 c0
          go_wp2_with fail
          refine (known21_any _).mono ?_
          rintro e w3 ⟨rfl, kp3⟩
          go_wp2_with fail
          go_ret
          exact ⟨rfl, HK2.out.tr (HK.out.tr kp3)⟩
        · have hqq : ((q : Int) == 0) = false := by simp [hq0]
          have hqw : IntKind.u64.wrap (q : Int) = (q : Int) := by rw [IntWalk.u64_in _ (by omega)]
          obtain ⟨u2, hu2, -⟩ := u64_ex at'
          obtain ⟨m, hm, hmq⟩ : ∃ m : Nat, (u2 : Int) % (q : Int) = (m : Int) ∧ m < q := ⟨u2 % q, (Int.natCast_emod u2 q).symm, Nat.mod_lt u2 (Nat.pos_of_ne_zero hq0)⟩
          -- the place
          have hp6 : p = 6 + ((l.take k).flatMap secB).length := by have := HP.out; rw [show min i k = k by have := HKL.out; omega] at this; exact this
          have hd1 : 0 < by'.toNat := by have := HB0.out; omega
          have hd2 : by'.toNat < 256 := by omega
          have hfl := apart_flip HM0.out hkl2 HXX.out HB8.out (m := m) (by rw [← HQ.out]; exact hmq) hd1 hd2 hp6
          obtain ⟨f1, f2⟩ := hfl
          rw [← HM.out] at f2
          have HF1 := Lib.hid f1
          have hpm := place_lt f2
          have hq1 : ¬ (q : Int) = 0 := fun e => hq0 (Int.ofNat_inj.1 e)
          clear hp6 f1 hd1 hd2
          go_wp2_with fail
          go_quiet (fail)
          have HK4 := Lib.hid (HK.out.tr (kdN wr nq))
          generalize wr.drewN nq = w4 at *
          obtain ⟨t, ht⟩ : ∃ t, t = p + (1 + x.nm.size + 4 + m) := ⟨_, rfl⟩
          rw [← ht] at f2 HF1
          have hpv := place_eq ht
          rw [hpv]
          rw [hpv] at hpm
          clear hpv hm hqw hu2 c0 c1 ht hqq
          have ho4 := HO2.out.keep0 HK4.out
          have hib : Bytes8 (imgB l) := imgB_b8 HX.out (mayP_ok HM0.out)
          obtain ⟨g, hga, hc, hf, hg1, hg2⟩ := ho4.at' (i := t) (by rw [← HM.out]; exact f2)
          subst hga
          have hset := ho4.set t (((nth (imgB l) t).toNat ^^^ by'.toNat : Nat) : Int)
          obtain ⟨hxv, hxb⟩ := xor_byte hib (t := t) (by rw [← HM.out]; exact f2) hby
          have hkp := (HK2.out.tr HK4.out).setCell ⟨g, t, none⟩ (.int .u8 (((nth (imgB l) t).toNat ^^^ by'.toNat : Nat) : Int)) (.inr (Nat.le_trans hw1 hg1))
          obtain ⟨y, hy⟩ : ∃ y, y = nth (imgB l) t := ⟨_, rfl⟩
          rw [← hy] at hc hxv hset hxb hkp HF1
          obtain ⟨w5, hw5⟩ : ∃ w5, w5 = w4.setCell ⟨g, t, none⟩ (.int .u8 ((y.toNat ^^^ by'.toNat : Nat) : Int)) := ⟨_, rfl⟩
          rw [← hw5] at hset hkp
          have HSET := Lib.hid hset
          have HKP := Lib.hid hkp
          have HXB := Lib.hid hxb
          have hcap4 := ho4.rd.1
          rw [← HM.out] at hcap4
          have hcap5 := ho4.rd.2.1
          clear hset hkp hxb hy ho4 hib
          go_wp2_with fail
          rw [← hw5]
          refine (xRead_any (some ⟨g, 0, none⟩) cap2 M _ (by rw [List.length_set]; exact HM.out) _ HSET.out.rd HXB.out (by omega)).mono ?_
          rintro e w6 ⟨l6, ad6, cap6, rfl, -, -, -, -, kp6⟩
          rw [HF1.out]
          have HK6 := Lib.hid (HKP.out.tr kp6)
          clear kp6 hw5
          go_wp2_with fail
          refine (known21_any _).mono ?_
          rintro e w7 ⟨rfl, kp7⟩
          go_wp2_with fail
          go_ret
          exact ⟨rfl, HK6.out.tr kp7⟩
  · obtain ⟨v, hv⟩ : ∃ v, v = mayP l := ⟨_, rfl⟩
    rw [← hv] at hm0 ⊢
    have hmq : (v != 0) = true := by simpa using hm0
    clear hm0 hv
    go_wp2_with fail
    refine (known21_any _).mono ?_
    rintro e w3 ⟨rfl, kp3⟩
    go_wp2_with fail
    go_ret
    exact ⟨rfl, HK2.out.tr kp3⟩
end Go.Proofs.Ytegnobdablbahaa
