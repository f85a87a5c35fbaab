/-
  The walk of ForwardBack.
-/
import Derived.Test.YtgdiffabnalidaaForL
namespace Go.Proofs.Ytgdiffabnalidaa
open Go.RowKit
set_option linter.unusedSimpArgs false
set_option linter.unusedVariables false

theorem fRead_x (ad : Option Addr) (cap n : Nat) (bs : List Int) (hn : n = bs.length) (rows many : Int) (x : Int) (hx : frE bs rows many = x) (h0 : x ≠ 0) (w : World) (hr : Rd w .u8 ad cap bs) (hb : Bytes8 bs) (hl : n ≤ 100000) :
    Calls Try.prog 33 #[.slice ad n cap, .int .i64 rows, .int .i64 many] w fun e w' => e = .returned (.tuple #[.pointer none, .int .i64 x]) ∧ Kp [] w w' := by
  refine (fRead_any ad cap n bs hn rows many w hr hb hl).mono ?_
  rintro e w' ⟨k, v, rfl, -, h2⟩
  rw [h2 (by rw [hx]; exact h0), hx]
  exact ⟨rfl, k⟩

set_option maxRecDepth 100000 in
set_option maxHeartbeats 2000000 in
theorem back12_walk (a0 : Option Addr) (cap0 n : Nat) (l : List Int) (hn : n = l.length) (many rows others : Int) (w : World) (r0 : Rd w .i64 a0 cap0 l) :
    Calls Try.prog 9 #[.slice a0 n cap0, .int .i64 many, .int .i64 rows, .int .i64 others] w fun e w' => e = .returned (.bool true) ∧ Kp [] w w' := by
  have HN := Lib.hid hn
  have HR := Lib.hid r0
  clear hn r0
  by_cases h1 : 300 < n
  · go_enter Try.func9, Try.ntmps9
    go_wp2_with (go_at_call 23; refine (known12 _).mono ?_; rintro e w' ⟨rfl, kp⟩)
    go_ret
    exact ⟨rfl, kp⟩
  go_enter Try.func9, Try.ntmps9
  go_wp2_with fail
  refine (fOf_any a0 cap0 n l many HN.out w HR.out (by omega)).mono ?_
  intro e w1 hpo
  obtain ⟨kp1, hcase⟩ := ofPost_fxh (by rw [← HN.out]; omega) hpo
  clear hpo
  rcases hcase with ⟨p, q, rfl, rfl, hok, hof, hx⟩ | ⟨hbad, rfl⟩
  case inr =>
    go_wp2_with (go_at_call 23; refine (known12 _).mono ?_; rintro e w' ⟨rfl, kp⟩)
    go_ret
    exact ⟨rfl, kp1.tr kp⟩
  have HOK := Lib.hid hok
  have HX := Lib.hid hx.fx
  have hw := hok.rng
  obtain ⟨I, hI⟩ : ∃ I, I = imgF l q := ⟨_, rfl⟩
  obtain ⟨m, hm⟩ : ∃ m, m = 9 + sizeN n (wdF q) := ⟨_, rfl⟩
  have hml : m = I.length := by rw [hm, hI, imgF_length, HN.out]
  have hm9 : 9 ≤ m := by omega
  have hmb : m ≤ 2000 := by
    have h3 := sizeN_lt n (wdF q)
    have h4 : n * wdF q ≤ 300 * 24 := Nat.mul_le_mul (by omega) hw.2
    omega
  have hB8 : Bytes8 I := by rw [hI]; exact imgF_bytes hok
  have hby : ∀ wx p', FX wx p' l q → Calls Try.prog 27 #[.pointer (some ⟨p', 0, none⟩)] wx fun e w' => ∃ ad' cap', e = .returned (.slice ad' m cap') ∧ Own w' wx.heap.size 5 .u8 ad' cap' I ∧ Kp [] wx w' := fun wx p' h => by
    rw [hm, hI, HN.out]; exact h.bytes hok
  have hfi : frE I (n : Nat) (q : Nat) = 0 ∧ frL I = l ∧ frM I = q := by rw [hI, HN.out]; exact fr_img hok
  have hfo : ¬ (rows = (n : Nat) ∧ others = (q : Nat)) → frE I rows others = 5 := by rw [hI, HN.out]; exact fr_other hok rows others
  have hfm : frE (I ++ [0]) (n : Nat) (q : Nat) = 5 := by rw [hI, HN.out]; exact fr_more hok
  have hfl : frE (sub I 0 (m - 1)) (n : Nat) (q : Nat) = 4 := by rw [hml, hI, HN.out]; exact fr_less hok
  have HI := Lib.hid hI
  have HML := Lib.hid hml
  have HB8 := Lib.hid hB8
  have HBY := Lib.hid hby
  have HFI := Lib.hid hfi
  have HFO := Lib.hid hfo
  have HFM := Lib.hid hfm
  have HFL := Lib.hid hfl
  clear hok hof hx hI hm hml hB8 hby hfi hfo hfm hfl hw
  go_wp2_with fail
  refine (HBY.out _ p HX.out).mono ?_
  rintro e w2 ⟨ad2, cap2, rfl, ho2, kp2⟩
  have HO2 := Lib.hid ho2
  have HK2 := Lib.hid (kp1.tr kp2)
  clear ho2 kp1 kp2
  go_wp2_with fail
  refine (fRead_any ad2 cap2 m I HML.out (n : Nat) (q : Nat) w2 HO2.out.rd HB8.out (by omega)).mono ?_
  rintro e w3 ⟨kp3, v, rfl, hv0, -⟩
  rw [HFI.out.1, HFI.out.2.1, HFI.out.2.2] at hv0
  rw [HFI.out.1]
  obtain ⟨p', rfl, hX'⟩ := hv0 rfl
  have HX' := Lib.hid hX'.fx
  have HO3 := Lib.hid (HO2.out.keep0 kp3)
  have HK3 := Lib.hid (HK2.out.tr kp3)
  clear kp3 hv0 hX' HO2 HK2
  go_upto_region 10 with (fail)
  refine wp_region_K (by kernel_rfl) [.val (.int .i64 0), .val (.bool false), .val (.bool false), .val (.pointer (some ⟨p', 0, none⟩)), .val (.bool false), .val (.bool false), .val (.bool false), .val (.pointer (some ⟨p', 0, none⟩)), .own w3.heap.size 5 .u8 m I, .val (.string (strOfNums I)), .val (.slice ad2 m cap2), .val (.string (strOfNums I)), .val (.bool false), .val (.bool false)] [[(13, none)], [(46, some 0)], [(47, some 1)], [(48, some 2), (12, none)], [(48, some 2), (49, some 3)], [(48, some 2), (50, some 4)], [(51, some 5)], [(52, some 6), (12, none)], [(52, some 6), (53, some 7)], [(52, some 6), (54, some 8)], [(52, some 6), (11, none)], [(52, some 6), (56, some 10)], [(52, some 6), (55, some 9), (57, some 11)], [(52, some 6), (58, some 12)]] rfl (by kernel_rfl) ?_ ?_
  · refine ⟨?o0, ?o1, ?o2, ?o3, ?o4, ?o5, ?o6, ?o7, ?o8, ?o9, ?o10, ?o11, ?o12, ?o13, trivial⟩
    case o0 => intro aR wR hR; replace hR := hR.undrew; intro (h13 : aR.tmps[13]? = some (.int .i64 0)); exact exec_val (c := .int .i64 0) (wanted_none rfl) (by go_simp) rfl
    case o1 => intro aR wR hR; replace hR := hR.undrew; intro v46 h46 e46; replace e46 : v46 = .int .i64 0 := e46; subst e46; exact exec_val (c := .bool false) (wanted_none rfl) (by go_simp) rfl
    case o2 => intro aR wR hR; replace hR := hR.undrew; intro v47 h47 e47; replace e47 : v47 = .bool false := e47; subst e47; exact exec_val (c := .bool false) (wanted_none rfl) (by go_simp) rfl
    case o3 => intro aR wR hR; replace hR := hR.undrew; intro v48 h48 e48; replace e48 : v48 = .bool false := e48; subst e48; intro (h12 : aR.tmps[12]? = some (.pointer (some ⟨p', 0, none⟩))); exact exec_val (c := .pointer (some ⟨p', 0, none⟩)) (wanted_yes (b := false) (t := 48) rfl rfl h48) (by go_simp) rfl
    case o4 => intro aR wR hR; replace hR := hR.undrew; intro v48 h48 e48; replace e48 : v48 = .bool false := e48; subst e48; intro v49 h49 e49; replace e49 : v49 = .pointer (some ⟨p', 0, none⟩) := e49; subst e49; exact exec_val (c := .bool false) (wanted_yes (b := false) (t := 48) rfl rfl h48) (by go_simp) rfl
    case o5 => intro aR wR hR; replace hR := hR.undrew; intro v48 h48 e48; replace e48 : v48 = .bool false := e48; subst e48; intro v50 h50 e50; replace e50 : v50 = .bool false := e50; subst e50; exact exec_val (c := .bool false) (wanted_none rfl) (by go_simp) rfl
    case o6 => intro aR wR hR; replace hR := hR.undrew; intro v51 h51 e51; replace e51 : v51 = .bool false := e51; subst e51; exact exec_val (c := .bool false) (wanted_none rfl) (by go_simp) rfl
    case o7 => intro aR wR hR; replace hR := hR.undrew; intro v52 h52 e52; replace e52 : v52 = .bool false := e52; subst e52; intro (h12 : aR.tmps[12]? = some (.pointer (some ⟨p', 0, none⟩))); exact exec_val (c := .pointer (some ⟨p', 0, none⟩)) (wanted_yes (b := false) (t := 52) rfl rfl h52) (by go_simp) rfl
    case o8 => intro aR wR hR; replace hR := hR.undrew; intro v52 h52 e52; replace e52 : v52 = .bool false := e52; subst e52; intro v53 h53 e53; replace e53 : v53 = .pointer (some ⟨p', 0, none⟩) := e53; subst e53; refine exec_call (wanted_yes (b := false) (t := 52) rfl rfl h52) (by go_simp; exact ⟨rfl, rfl⟩) ?_; refine (HBY.out wR p' (HX'.out.keep hR)).mono ?_; rintro e7 w8 ⟨ad, cap, rfl, ho8, kp8⟩; exact ⟨_, rfl, ⟨ad, cap, rfl, ho8.mono hR.size⟩, kp8⟩
    case o9 => intro aR wR hR; replace hR := hR.undrew; intro v52 h52 e52; replace e52 : v52 = .bool false := e52; subst e52; intro v54 h54 e54; (obtain ⟨ad, cap, rfl, ho⟩ := e54; have hcv := conv_str wR 24 9 5 Try.underlying24 Try.underlying5 Try.underlying9 ad cap m I ho.rd HML.out); exact exec_val (c := .string (strOfNums I)) (wanted_yes (b := false) (t := 52) rfl rfl h52) (by go_simp) rfl
    case o10 => intro aR wR hR; replace hR := hR.undrew; intro v52 h52 e52; replace e52 : v52 = .bool false := e52; subst e52; intro (h11 : aR.tmps[11]? = some (.slice ad2 m cap2)); exact exec_val (c := .slice ad2 m cap2) (wanted_yes (b := false) (t := 52) rfl rfl h52) (by go_simp) rfl
    case o11 => intro aR wR hR; replace hR := hR.undrew; intro v52 h52 e52; replace e52 : v52 = .bool false := e52; subst e52; intro v56 h56 e56; replace e56 : v56 = .slice ad2 m cap2 := e56; subst e56; (have hcv := conv_str wR 24 9 5 Try.underlying24 Try.underlying5 Try.underlying9 ad2 cap2 m I ((HO3.out.keep0 hR).rd) HML.out); exact exec_val (c := .string (strOfNums I)) (wanted_yes (b := false) (t := 52) rfl rfl h52) (by go_simp) rfl
    case o12 => intro aR wR hR; replace hR := hR.undrew; intro v52 h52 e52; replace e52 : v52 = .bool false := e52; subst e52; intro v55 h55 e55; replace e55 : v55 = .string (strOfNums I) := e55; subst e55; intro v57 h57 e57; replace e57 : v57 = .string (strOfNums I) := e57; subst e57; exact exec_val (c := .bool false) (wanted_yes (b := false) (t := 52) rfl rfl h52) (by go_simp) rfl
    case o13 => intro aR wR hR; replace hR := hR.undrew; intro v52 h52 e52; replace e52 : v52 = .bool false := e52; subst e52; intro v58 h58 e58; replace e58 : v58 = .bool false := e58; subst e58; exact exec_val (c := .bool false) (wanted_none rfl) (by go_simp) rfl
  · intro vs wR hR hV
    obtain ⟨e0, e1, e2, e3, e4, e5, e6, e7, e8, e9, e10, e11, e12, e13, -⟩ := hV
    replace e0 : vs 0 = .int .i64 0 := e0
    replace e1 : vs 1 = .bool false := e1
    replace e2 : vs 2 = .bool false := e2
    replace e3 : vs 3 = .pointer (some ⟨p', 0, none⟩) := e3
    replace e4 : vs 4 = .bool false := e4
    replace e5 : vs 5 = .bool false := e5
    replace e6 : vs 6 = .bool false := e6
    replace e7 : vs 7 = .pointer (some ⟨p', 0, none⟩) := e7
    replace e9 : vs 9 = .string (strOfNums I) := e9
    replace e10 : vs 10 = .slice ad2 m cap2 := e10
    replace e11 : vs 11 = .string (strOfNums I) := e11
    replace e12 : vs 12 = .bool false := e12
    replace e13 : vs 13 = .bool false := e13
    simp only [putAll, e0, e1, e2, e3, e4, e5, e6, e7, e9, e10, e11, e12, e13, Nat.reduceAdd, Nat.zero_add]
    clear e0 e1 e2 e3 e4 e5 e6 e7 e9 e10 e11 e12 e13
    try simp only [List.setIfInBounds_toArray, List.set_cons_succ, List.set_cons_zero]
    have HO4 := Lib.hid (HO3.out.keep0 hR)
    have HK4 := Lib.hid (HK3.out.tr hR)
    obtain ⟨g, hg⟩ : ∃ g, g = frE I rows others := ⟨_, rfl⟩
    have hcond : (g = 0 ∧ rows = (n : Int) ∧ others = (q : Int)) ∨ (g = 5 ∧ ¬ (rows = (n : Int) ∧ others = (q : Int))) := by
      by_cases hc : rows = (n : Int) ∧ others = (q : Int)
      · exact .inl ⟨by rw [hg, hc.1, hc.2]; exact HFI.out.1, hc⟩
      · exact .inr ⟨by rw [hg]; exact HFO.out hc, hc⟩
    have HG := Lib.hid hg
    have HC := Lib.hid hcond
    clear hg hcond HO3 HK3
    go_wp2_with fail
    refine (fRead_any ad2 cap2 m I HML.out rows others _ HO4.out.rd HB8.out (by omega)).mono ?_
    rintro e w5 ⟨kp5, v5, rfl, -, -⟩
    rw [← HG.out]
    have HO5 := Lib.hid (HO4.out.keep0 kp5)
    have HK5 := Lib.hid (HK4.out.tr kp5)
    clear kp5 HO4 HK4
    have hs5 := HK5.out.size
    go_wp2_with (first
      | (at_builtin; refine wpList_app rfl (.tmp 68) (.tmp 69) 24 24 rfl w5.heap.size 5 .u8 1 Try.underlying24 infoU8 (some ⟨w5.heap.size, 0, none⟩) 0 0 [] rfl I _ m HML.out rfl rfl (.inl ⟨rfl, rfl⟩) (by rw [HML.out]; exact src_rd (HO5.out.rd.alloc _) Try.underlying24) (by omega) (by omega) (by simp) ?_; intro adA capA wA hoA kpA hobA _; rw [List.nil_append] at hoA; have hsA := kpA.size; rw [World.size_alloc] at hsA)
      | (at_builtin; refine wpList_app rfl (.tmp 70) (.tmp 71) 24 24 rfl w5.heap.size 5 .u8 1 Try.underlying24 infoU8 adA capA m I HML.out [0] _ 1 rfl rfl rfl (hoA.alloc _) (src_one Try.underlying24 (World.cell?_alloc_at _ _ _ _ rfl)) (by omega) (by omega) (by simp; omega) ?_; intro adB capB wB hoB kpB hobB _))
    have hsB := kpB.size
    have hA1 : ∀ x, x ∈ ob adA capA → w5.heap.size ≤ x := fun x hx => (hoA.ob_ge x hx).1
    have HKB := Lib.hid (show Kp [] w5 wB from (((Kp.refl [] w5).alloc _).trans kpA (U := []) (by simp) (by simp [ob])).alloc _ |>.trans kpB (by simp) (fun x hx => .inr (hA1 x hx)))
    have HOB := Lib.hid hoB
    clear hoA kpA hobA hoB kpB hobB hA1
    refine (fRead_x adB capB (m + 1) (I ++ [0]) (by rw [List.length_append, ← HML.out]; rfl) (n : Nat) (q : Nat) 5 HFM.out (by omega) wB HOB.out.rd (bytes8_append HB8.out (by intro z hz; simp at hz; omega)) (by omega)).mono ?_
    rintro e w6 ⟨rfl, kp6⟩
    have HK6 := Lib.hid ((HK5.out.tr HKB.out).tr kp6)
    have HO6 := Lib.hid ((HO5.out.keep0 HKB.out).keep0 kp6)
    clear kp6 HOB HKB HO5 HK5
    obtain ⟨m1, hm1⟩ : ∃ m1, m1 = m - 1 := ⟨_, rfl⟩
    obtain ⟨adh, caph, hsl, hrh⟩ := head_rdF w6 ad2 cap2 m m1 I HML.out (by omega) HO6.out.rd
    have hw1 : IntKind.i64.wrap ((m : Int) - 1) = (m1 : Int) := by rw [IntWalk.i64_in _ (by omega)]; omega
    have hw2 : (m : Int) - 1 = (m1 : Int) := by omega
    have HRH := Lib.hid hrh
    have HM1 := Lib.hid hm1
    clear hm1 hrh
    go_wp2_with fail
    refine (fRead_x adh caph m1 (sub I 0 m1) (by have := HM1.out; rw [sub_length _ _ _ (by rw [← HML.out]; omega)]; omega) (n : Nat) (q : Nat) 4 (by rw [HM1.out]; exact HFL.out) (by omega) w6 HRH.out (HB8.out.sub 0 m1) (by have := HM1.out; omega)).mono ?_
    rintro e w7 ⟨rfl, kp7⟩
    have HK7 := Lib.hid (HK6.out.tr kp7)
    clear kp7 hsl hw1 hw2
    rcases HC.out with ⟨rfl, rfl, rfl⟩ | ⟨rfl, hno⟩
    · have hnn : ((n : Int) == (n : Int)) = true := by simp
      have hqq : ((q : Int) == (q : Int)) = true := by simp
      go_wp2_with (go_at_call 23; refine (known12 _).mono ?_; rintro e w' ⟨rfl, kp⟩)
      go_ret
      exact ⟨rfl, HK7.out.tr kp⟩
    · by_cases hr : rows = (n : Int)
      · subst hr
        have hnn : ((n : Int) == (n : Int)) = true := by simp
        have hqq : (others == (q : Int)) = false := by rw [beq_eq_false_iff_ne]; exact fun h => hno ⟨rfl, h⟩
        clear hno
        go_wp2_with (go_at_call 23; refine (known12 _).mono ?_; rintro e w' ⟨rfl, kp⟩)
        go_ret
        exact ⟨rfl, HK7.out.tr kp⟩
      · have hnn : (rows == (n : Int)) = false := by rw [beq_eq_false_iff_ne]; exact hr
        clear hno hr
        go_wp2_with (go_at_call 23; refine (known12 _).mono ?_; rintro e w' ⟨rfl, kp⟩)
        go_ret
        exact ⟨rfl, HK7.out.tr kp⟩
end Go.Proofs.Ytgdiffabnalidaa
