/-
  Schema: the law of bytes that are read.
-/
import Derived.Test.YtegnobdablbahaaSchL
namespace Go.Proofs.Ytegnobdablbahaa
open Go.RowKit
set_option linter.unusedSimpArgs false
set_option linter.unusedVariables false

theorem rdX_zero {zs : List Int} (h : (rdX zs).1 = 0) : ∃ l c, rdX zs = (0, l, some c) := by
  rw [rdX] at h ⊢
  split at h
  · cases h
  rename_i l a b hc
  cases hf : cfgF zs l.length a b with
  | none => rw [hf] at h; cases h
  | some t =>
    obtain ⟨c, a2, b2⟩ := t
    rw [hf, endR] at h
    show ∃ l' c', endR zs l _ = (0, l', some c')
    rw [endR]
    split at h
    · cases h
    split at h
    · cases h
    rename_i h1 h2
    exact ⟨l, c, by rw [if_neg h1, if_neg h2]⟩
theorem bytC_alike {l : List Col} {c d : Cfg} (h : alike c d) : bytC l d = bytC l c := by
  obtain ⟨h1, h2, h3, h4, h5⟩ := h
  have hf : flagN d = flagN c := by funext i; simp only [flagN, h2, h3]
  simp only [bytC, bytS, bytB, hf, h1, h4, h5]

set_option maxHeartbeats 1600000 in
set_option maxRecDepth 100000 in
theorem schemaOnly_any (a0 : Option Addr) (cap0 n : Nat) (zs : List Int) (more : Int) (hn : n = zs.length) (w : World) (hr : Rd w .u8 a0 cap0 zs) (hb : Bytes8 zs) (hmo : 0 ≤ more ∧ more ≤ 255) :
    Calls Try.prog 6 #[.slice a0 n cap0, .int .u8 more] w fun e w' => e = .returned (.bool true) ∧ Kp [] w w' := by
  have HR := Lib.hid hr
  have HN := Lib.hid hn
  have hcl := hr.1
  rw [← hn] at hcl
  have hcm := hr.2.1
  clear hr hn
  by_cases h0 : (3000 : Int) < (n : Int)
  · go_enter Try.func6, Try.ntmps6
    go_wp2_with fail
    refine (known17_any _).mono ?_
    rintro e w1 ⟨rfl, kp1⟩
    go_wp2_with fail
    go_ret
    exact ⟨rfl, kp1⟩
  · go_enter Try.func6, Try.ntmps6
    go_wp2_with fail
    refine (sRead_any a0 cap0 n zs HN.out _ HR.out hb (by omega)).mono ?_
    rintro e w2 ⟨l, d, ad2, cap2, rfl, hl2, ho2, hd2, hk2, hal2, kp2⟩
    obtain ⟨z, hz⟩ : ∃ z, z = (rdX zs).1 := ⟨_, rfl⟩
    rw [← hz]
    have HZ := Lib.hid hz
    have HK2 := Lib.hid kp2
    have HO2 := Lib.hid ho2
    have HD2 := Lib.hid hd2
    have HOK := Lib.hid hk2
    have HL2 := Lib.hid hl2
    have HAL := Lib.hid hal2
    obtain ⟨L, hL⟩ : ∃ L, L = l.length := ⟨_, rfl⟩
    rw [← hL]
    have HL := Lib.hid hL
    clear kp2 ho2 hd2 hk2 hl2 hal2 hz hL
    obtain ⟨ni, hni⟩ : ∃ ni, ni = d.inv.length := ⟨_, rfl⟩
    obtain ⟨nr, hnr⟩ : ∃ nr, nr = d.rng.length := ⟨_, rfl⟩
    obtain ⟨ns, hns⟩ : ∃ ns, ns = d.spl.length := ⟨_, rfl⟩
    have HVL : Hid (cfgV d = .agg #[.int .i64 d.srt, .slice d.ia ni d.ic, .slice d.ra nr d.rc, .slice d.sa ns d.sc, .int .i64 d.leaf]) := Lib.hid (by rw [hni, hnr, hns]; rfl)
    have HNI := Lib.hid hni
    have HNR := Lib.hid hnr
    have HNS := Lib.hid hns
    clear hni hnr hns
    rw [HVL.out]
    by_cases hz0 : z = 0
    · have HX := Lib.hid (rdX_zero (by rw [← HZ.out]; exact hz0))
      obtain ⟨l9, c, hx⟩ := HX.out
      have hl9 : l = l9 := by rw [HL2.out, hx]
      subst hl9
      have hal : alike c d := HAL.out c (by rw [hx])
      obtain ⟨hfit, hbyt, -, -⟩ := rd_back hb hx
      have HFD : Hid (wrC l d = zs ∧ errC l d = 0) := Lib.hid (by
        have hfd : fitsC l d = true := by rw [alike_fits hal]; exact hfit
        exact ⟨by rw [wrC, if_pos hfd, bytC_alike hal, hbyt], by rw [errC, if_pos hfd]⟩)
      have hlen : 4 ≤ n := by rw [HN.out, ← hbyt, bytC, List.length_append, le_length]; omega
      have HMO : Hid ((rdX (zs ++ [more])).1 = 5) := Lib.hid (by have := rd_more hfit more; rwa [hbyt] at this)
      have HLE : Hid ((rdX (sub zs 0 (n - 1))).1 = 4) := Lib.hid (by have := rd_less hfit; rw [hbyt] at this; rw [sub]; simpa [HN.out] using this)
      clear hx hal hfit hbyt HX
      subst hz0
      have hn0 : ¬ (n : Int) = 0 := by omega
      go_upto_region 4 with (fail)
      generalize hw3 : w2.alloc _ = w3
      have e0 : w3.cell? ⟨w2.heap.size, 0, none⟩ = some (.int .i64 d.srt) := by rw [← hw3]; simp
      have e1 : w3.cell? ⟨w2.heap.size, 1, none⟩ = some (.slice d.ia ni d.ic) := by rw [← hw3]; simp
      have e2 : w3.cell? ⟨w2.heap.size, 2, none⟩ = some (.slice d.ra nr d.rc) := by rw [← hw3]; simp
      have e3 : w3.cell? ⟨w2.heap.size, 3, none⟩ = some (.slice d.sa ns d.sc) := by rw [← hw3]; simp
      have e4 : w3.cell? ⟨w2.heap.size, 4, none⟩ = some (.int .i64 d.leaf) := by rw [← hw3]; simp
      have KX3 : Kp [] w2 w3 := by rw [← hw3]; exact (Kp.refl [] w2).alloc _
      have HK3 := Lib.hid (HK2.out.tr KX3)
      have HO3 := Lib.hid (HO2.out.keep0 KX3)
      have HD3 := Lib.hid (HD2.out.keep0 KX3)
      clear hw3 KX3
      go_wp2_with fail
      refine (sbytes_w HVL.out HL.out (HO3.out.rd clies) HOK.out HD3.out.rd).mono ?_
      rintro e w4 ⟨ad4, cap4, rfl, ho4, kp4⟩
      rw [HFD.out.1] at ho4
      rw [HFD.out.1, HFD.out.2, ← HN.out]
      have HO4 := Lib.hid ho4
      have HK4 := Lib.hid (HK3.out.tr kp4)
      have hs4 := HK4.out.size
      clear ho4 kp4 e0 e1 e2 e3 e4
      have HSRC : Hid (Src Try.prog 1 39 (.slice a0 n cap0) n (zs.map (Value.int .u8)) (w4.alloc (.cells #[] 5))) := Lib.hid (by have := src_rd ((HR.out.keep0 HK4.out).alloc (.cells #[] 5)) (tx := 39) (e' := 5) Try.underlying39; rw [← HN.out] at this; exact this)
      go_wp2_with first
        | (at_builtin; refine wpList_app rfl (.tmp 36) (.tmp 37) 39 39 rfl w4.heap.size 5 .u8 1 Try.underlying39 infoU8 _ 0 0 [] rfl zs _ n HN.out rfl rfl (.inl ⟨rfl, rfl⟩) HSRC.out (by omega) (by omega) (by simp) ?_; intro ad5 cap5 w5 ho5 kp5 _ _; have HO5 := Lib.hid ho5; have HK5 := Lib.hid (((Kp.refl [] w4).alloc (.cells #[] 5)).tr kp5); clear ho5 kp5)
        | (at_builtin; refine wpList_app rfl (.tmp 38) (.tmp 40) 39 39 rfl w4.heap.size 5 .u8 1 Try.underlying39 infoU8 ad5 cap5 n zs HN.out [more] _ 1 rfl rfl rfl (HO5.out.alloc _) (src_one Try.underlying39 (World.cell?_alloc_at _ _ _ _ rfl)) (by omega) (by omega) (by have := HK5.out.size; simp; omega) ?_; intro ad6 cap6 w6 ho6 kp6 hob6 _; have HO6 := Lib.hid ho6; have HK6 := Lib.hid (((HK5.out.alloc _).trans kp6 (U := []) (by simp) (fun y hy => .inr (HO5.out.ob_ge y hy).1))); clear ho6 kp6 hob6)
      refine (sRead_any ad6 cap6 (n + 1) (zs ++ [more]) (by rw [List.length_append, ← HN.out]; rfl) _ HO6.out.rd (bytes8_append hb (by intro y hy; simp at hy; subst hy; exact hmo)) (by omega)).mono ?_
      rintro e w7 ⟨l7, d7, ad7, cap7, rfl, -, -, -, -, -, kp7⟩
      rw [HMO.out]
      have HK7 := Lib.hid ((HK4.out.tr HK6.out).tr kp7)
      have HO47 := Lib.hid (HO4.out.keep0 (HK6.out.tr kp7))
      clear kp7
      obtain ⟨ni7, hni7⟩ : ∃ ni, ni = d7.inv.length := ⟨_, rfl⟩
      obtain ⟨nr7, hnr7⟩ : ∃ nr, nr = d7.rng.length := ⟨_, rfl⟩
      obtain ⟨ns7, hns7⟩ : ∃ ns, ns = d7.spl.length := ⟨_, rfl⟩
      have HVL7 : Hid (cfgV d7 = .agg #[.int .i64 d7.srt, .slice d7.ia ni7 d7.ic, .slice d7.ra nr7 d7.rc, .slice d7.sa ns7 d7.sc, .int .i64 d7.leaf]) := Lib.hid (by rw [hni7, hnr7, hns7]; rfl)
      have HNI7 := Lib.hid hni7
      have HNR7 := Lib.hid hnr7
      have HNS7 := Lib.hid hns7
      clear hni7 hnr7 hns7
      rw [HVL7.out]
      go_upto_region 8 with (fail)
      generalize hw8 : w7.alloc _ = w8
      have HK8 := Lib.hid (show Kp [] w w8 by rw [← hw8]; exact HK7.out.alloc _)
      have hcv1 := cvs w8 ad4 cap4 n zs (by rw [← hw8]; exact (HO47.out.alloc _).rd) HN.out
      have hcv2 := cvs w8 a0 cap0 n zs (HR.out.keep0 HK8.out) HN.out
      have HS8 := Lib.hid (Rd.head (HR.out.keep0 HK8.out) (b := n - 1) (by rw [← HN.out]; omega))
      have hsl : (sub zs 0 (n - 1)).length = n - 1 := by rw [sub_length _ _ _ (by rw [← HN.out]; omega)]; omega
      have HSL := Lib.hid hsl
      clear hw8 hsl
      go_wp2_with fail
      refine (sRead_any a0 cap0 (n - 1) (sub zs 0 (n - 1)) HSL.out.symm _ HS8.out (hb.sub _ _) (by omega)).mono ?_
      rintro e w9 ⟨l9, d9, ad9, cap9, rfl, -, -, -, -, -, kp9⟩
      rw [HLE.out]
      have HK9 := Lib.hid (HK8.out.tr kp9)
      clear kp9
      obtain ⟨ni9, hni9⟩ : ∃ ni, ni = d9.inv.length := ⟨_, rfl⟩
      obtain ⟨nr9, hnr9⟩ : ∃ nr, nr = d9.rng.length := ⟨_, rfl⟩
      obtain ⟨ns9, hns9⟩ : ∃ ns, ns = d9.spl.length := ⟨_, rfl⟩
      have HVL9 : Hid (cfgV d9 = .agg #[.int .i64 d9.srt, .slice d9.ia ni9 d9.ic, .slice d9.ra nr9 d9.rc, .slice d9.sa ns9 d9.sc, .int .i64 d9.leaf]) := Lib.hid (by rw [hni9, hnr9, hns9]; rfl)
      have HNI9 := Lib.hid hni9
      have HNR9 := Lib.hid hnr9
      have HNS9 := Lib.hid hns9
      clear hni9 hnr9 hns9
      rw [HVL9.out]
      go_upto_region 11 with (fail)
      generalize hw10 : w9.alloc _ = w10
      have HK10 := Lib.hid (show Kp [] w w10 by rw [← hw10]; exact HK9.out.alloc _)
      clear hw10
      go_wp2_with fail
      refine (known17_any _).mono ?_
      rintro e w11 ⟨rfl, kp11⟩
      go_wp2_with fail
      go_ret
      exact ⟨rfl, HK10.out.tr kp11⟩
    · have hq : (z != 0) = true := by simpa using hz0
      go_wp2_with fail
      refine (known17_any _).mono ?_
      rintro e w3 ⟨rfl, kp3⟩
      go_wp2_with fail
      go_ret
      exact ⟨rfl, (HK2.out.alloc _).tr kp3⟩
end Go.Proofs.Ytegnobdablbahaa
