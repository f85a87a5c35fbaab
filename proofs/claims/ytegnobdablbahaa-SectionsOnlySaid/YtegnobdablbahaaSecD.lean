/-
  Sections: the law of reading alone.
-/
import Derived.Test.YtegnobdablbahaaSecB
import Derived.Test.YtegnobdablbahaaSecC
namespace Go.Proofs.Ytegnobdablbahaa
open Go.RowKit
set_option linter.unusedSimpArgs false
set_option linter.unusedVariables false

theorem rd_back {zs : List Int} {l : List Sec} (hb : Bytes8 zs) (hz : (rdP zs).1 = 0) (hk : l.map keyS = (rdP zs).2) : mayP l = 0 ∧ wrB l = zs ∧ 6 ≤ zs.length ∧ (∀ more, rdP (zs ++ [more]) = (5, [])) ∧ ∀ m, m < zs.length → rdP (sub zs 0 m) = (4, []) := by
  obtain ⟨h1, h2, h3⟩ := rd_of hb (K := (rdP zs).2) (by rw [← hz])
  rw [← hk] at h1 h2 h3
  have hm : mayP l = 0 := (may_iff l).2 ⟨by simpa using h1, h2⟩
  refine ⟨hm, by rw [wrB, if_pos hm, imgB_key, ← h3], ?_, fun more => ?_, fun m hlt => ?_⟩
  · rw [h3, imgS, List.length_append, headB_length]; omega
  · rw [h3, rd_img _ h1 h2, if_neg (by simp)]
  · rw [h3] at hlt ⊢
    exact rd_cut _ h1 h2 m hlt

set_option maxRecDepth 100000 in
set_option maxHeartbeats 1600000 in
theorem sectionsOnly_any (a0 : Option Addr) (cap0 n : Nat) (zs : List Int) (more cut : Int) (hn : n = zs.length) (w : World) (hr : Rd w .u8 a0 cap0 zs) (hb : Bytes8 zs) (hmo : 0 ≤ more ∧ more ≤ 255) :
    Calls Try.prog 9 #[.slice a0 n cap0, .int .u8 more, .int .i64 cut] w fun e w' => e = .returned (.bool true) ∧ Kp [] w w' := by
  have HR := Lib.hid hr
  have HN := Lib.hid hn
  have hcl := hr.1
  rw [← hn] at hcl
  have hcm := hr.2.1
  obtain ⟨u, hu, hul⟩ := u64_ex cut
  clear hr hn
  by_cases h0 : (3000 : Int) < (n : Int)
  · go_enter Try.func9, Try.ntmps9
    go_wp2_with fail
    refine (known21_any _).mono ?_
    rintro e w1 ⟨rfl, kp1⟩
    go_wp2_with fail
    go_ret
    exact ⟨rfl, kp1⟩
  · go_enter Try.func9, Try.ntmps9
    go_wp2_with fail
    refine (xRead_any a0 cap0 n zs HN.out _ HR.out hb (by omega)).mono ?_
    rintro e w2 ⟨l, ad2, cap2, rfl, hk2, ho2, hob2, hx2, kp2⟩
    obtain ⟨z, hz⟩ : ∃ z, z = (rdP zs).1 := ⟨_, rfl⟩
    rw [← hz]
    have HZ := Lib.hid hz
    have HK2 := Lib.hid kp2
    have HO2 := Lib.hid ho2
    have HOB2 := Lib.hid hob2
    have HX2 := Lib.hid hx2
    have HKE2 := Lib.hid hk2
    obtain ⟨L, hL⟩ : ∃ L, L = l.length := ⟨_, rfl⟩
    rw [← hL]
    have HL := Lib.hid hL
    clear kp2 ho2 hob2 hx2 hk2 hz hL
    by_cases hz0 : z = 0
    · subst hz0
      obtain ⟨p1, p2, p3, p4, p5⟩ := rd_back (l := l) hb HZ.out.symm HKE2.out
      rw [← HN.out] at p3 p5
      have HP1 := Lib.hid p1
      have HP2 := Lib.hid p2
      have HP4 := Lib.hid (p4 more)
      have HP5 := Lib.hid p5
      clear p1 p2 p4 p5
      have hn0 : ¬ (n : Int) = 0 := by omega
      have hnw : IntKind.u64.wrap (n : Int) = (n : Int) := by rw [IntWalk.u64_in _ (by omega)]
      go_wp2_with fail
      refine (xWrite_any ad2 cap2 L l HL.out _ (HO2.out.rd slies) (fun x hx => (HOB2.out x hx).rd) HX2.out).mono ?_
      rintro e w3 ⟨ad3, cap3, rfl, ho3, kp3⟩
      rw [HP1.out, HP2.out, ← HN.out]
      rw [HP2.out] at ho3
      have HK3 := Lib.hid (HK2.out.tr kp3)
      have HO3 := Lib.hid ho3
      clear kp3 ho3
      go_wp2_with first
        | (at_builtin; refine wpList_copyB rfl (.tmp 33) (.tmp 34) 39 39 rfl w3.heap.size 5 .u8 1 Try.underlying39 Try.underlying39 infoU8 (some ⟨w3.heap.size, 0, none⟩) a0 cap0 n zs HN.out rfl rfl ((HR.out.keep0 HK3.out).alloc _) (by omega) (by omega) (by simp) ?_; intro ad4 cap4 w4 ho4 kp4; have HO4 := Lib.hid ho4; have HK4 := Lib.hid (((Kp.refl [] w3).alloc _).tr kp4); clear ho4 kp4)
        | (at_builtin; refine wpList_app rfl (.tmp 35) (.tmp 37) 39 39 rfl w3.heap.size 5 .u8 1 Try.underlying39 infoU8 ad4 cap4 n zs HN.out [more] _ 1 rfl rfl rfl (HO4.out.alloc _) (src_one Try.underlying39 (World.cell?_alloc_at _ _ _ _ rfl)) (by omega) (by omega) (by have := HK4.out.size; simp; omega) ?_; intro ad5 cap5 w5 ho5 kp5 hob5 _; have HO5 := Lib.hid ho5; have HK5 := Lib.hid (((HK4.out.alloc _).trans kp5 (U := []) (by simp) (fun y hy => .inr (HO4.out.ob_ge y hy).1))); clear ho5 kp5 hob5)
      refine (xRead_any ad5 cap5 (n + 1) (zs ++ [more]) (by rw [List.length_append, ← HN.out]; rfl) _ HO5.out.rd (bytes8_append hb (by intro y hy; simp at hy; subst hy; exact hmo)) (by omega)).mono ?_
      rintro e w6 ⟨l6, ad6, cap6, rfl, -, -, -, -, kp6⟩
      rw [HP4.out]
      have HK6 := Lib.hid (HK5.out.tr kp6)
      have HK7 := Lib.hid (HK3.out.tr (HK5.out.tr kp6))
      clear kp6
      have hc1 := cvs w6 ad3 cap3 n zs (HO3.out.rd.keep0 HK6.out) HN.out
      have hc2 := cvs w6 a0 cap0 n zs (HR.out.keep0 HK7.out) HN.out
      have hq := strq hb hb true (by simp)
      obtain ⟨m, hm, hml⟩ : ∃ m : Nat, wrap64 ((u : Int) % (n : Int)) = (m : Int) ∧ m < n := by
        have h1 := Nat.mod_lt u (show 0 < n by omega)
        refine ⟨u % n, ?_, h1⟩
        rw [← Int.natCast_emod]
        unfold wrap64; omega
      go_wp2_with fail
      refine (xRead_any a0 cap0 m (sub zs 0 m) (by rw [sub_length _ _ _ (by rw [← HN.out]; omega)]; omega) _ ((HR.out.keep0 HK7.out).head (by rw [← HN.out]; omega)) (hb.sub _ _) (by omega)).mono ?_
      rintro e w8 ⟨l8, ad8, cap8, rfl, -, -, -, -, kp8⟩
      rw [HP5.out m hml]
      have HK8 := Lib.hid (HK7.out.tr kp8)
      clear kp8 hc1 hc2
      go_wp2_with fail
      refine (known21_any _).mono ?_
      rintro e w9 ⟨rfl, kp9⟩
      go_wp2_with fail
      go_ret
      exact ⟨rfl, HK8.out.tr kp9⟩
    · have hzq : (z != 0) = true := by simpa using hz0
      clear hz0
      go_wp2_with fail
      refine (known21_any _).mono ?_
      rintro e w3 ⟨rfl, kp3⟩
      go_wp2_with fail
      go_ret
      exact ⟨rfl, HK2.out.tr kp3⟩
end Go.Proofs.Ytegnobdablbahaa
