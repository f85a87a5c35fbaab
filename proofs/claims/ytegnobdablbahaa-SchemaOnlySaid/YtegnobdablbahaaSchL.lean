/-
  Schema: the law of the bytes.
-/
import Derived.Test.YtegnobdablbahaaSchK
namespace Go.Proofs.Ytegnobdablbahaa
open Go.RowKit
set_option linter.unusedSimpArgs false
set_option linter.unusedVariables false

theorem bytC_b8 {l : List Col} {c : Cfg} (h : CFit l c) : Bytes8 (bytC l c) := by
  have hn := h.ns
  refine bytes8_append (bytes8_append (bytes8_append (bytes8_append (bytes8_append (bytes8_append (le_bytes _ _) ?_) (le_bytes _ _)) ?_) ?_) ?_) (le_bytes _ _)
  · intro z hz
    obtain ⟨x, hx, hz⟩ := List.mem_flatMap.1 hz
    rw [List.take_length] at hx
    obtain ⟨i, hi, rfl⟩ := List.getElem_of_mem hx
    have h1 := h.col i hi
    rw [atC_eq l i hi] at h1
    exact bytes8_append (fun y hy => by simp at hy; omega) (sbytes_b8 _) z hz
  · intro z hz
    obtain ⟨i, -, rfl⟩ := List.mem_map.1 hz
    have := fb_rng (hasB c.inv (i : Nat), hasB c.rng (i : Nat))
    show 0 ≤ fb (hasB c.inv (i : Nat), hasB c.rng (i : Nat)) ∧ fb (hasB c.inv (i : Nat), hasB c.rng (i : Nat)) ≤ 255
    omega
  · intro z hz
    simp at hz; omega
  · intro z hz
    obtain ⟨x, -, hz⟩ := List.mem_flatMap.1 hz
    exact le_bytes _ _ z hz
theorem bytC_len {l : List Col} {c : Cfg} (h : CFit l c) : (bytC l c).length ≤ 20000 := by
  have h1 := h.n
  have h2 := h.ns
  have h3 := bytA_length l c h l.length (Nat.le_refl _)
  rw [bytC, List.length_append, le_length, bytS_length l c _ (Nat.le_refl _), bytB_length]; omega
theorem alike_same2 {c k d : Cfg} (h : alike k d) (hs : sameC c k = true) : sameC c d = true := by
  obtain ⟨h1, h2, h3, h4, h5⟩ := h
  rw [← hs]; simp only [sameC, maxF]
  have : difF c d = difF c k := by funext i; simp only [difF, h2, h3]
  rw [this, h1, h2, h3, h4, h5]

set_option maxHeartbeats 1600000 in
set_option maxRecDepth 100000 in
theorem schemaBytes_any (a0 : Option Addr) (cap0 n : Nat) (l : List Col) (hn : n = l.length) (c : Cfg) (w : World) (h : RdC w a0 cap0 l) (ho : COk l) (hc : RdCfg w c) :
    Calls Try.prog 5 #[.slice a0 n cap0, cfgV c] w fun e w' => e = .returned (.bool true) ∧ Kp [] w w' := by
  have H := Lib.hid h
  have HN := Lib.hid hn
  have HO := Lib.hid ho
  have HC := Lib.hid hc
  have hcap := h.1
  rw [← hn] at hcap
  have hcap2 := h.2.1
  clear h hn ho hc
  obtain ⟨ni, hni⟩ : ∃ ni, ni = c.inv.length := ⟨_, rfl⟩
  obtain ⟨nr, hnr⟩ : ∃ nr, nr = c.rng.length := ⟨_, rfl⟩
  obtain ⟨ns, hns⟩ : ∃ ns, ns = c.spl.length := ⟨_, rfl⟩
  have HVL : Hid (cfgV c = .agg #[.int .i64 c.srt, .slice c.ia ni c.ic, .slice c.ra nr c.rc, .slice c.sa ns c.sc, .int .i64 c.leaf]) := Lib.hid (by rw [hni, hnr, hns]; rfl)
  have HNI := Lib.hid hni
  have HNR := Lib.hid hnr
  have HNS := Lib.hid hns
  clear hni hnr hns
  rw [HVL.out]
  go_enter Try.func5, Try.ntmps5
  go_upto_region 1 with (fail)
  generalize hw2 : w.alloc _ = w2
  have p0 : w2.cell? ⟨w.heap.size, 0, none⟩ = some (.int .i64 c.srt) := by rw [← hw2]; simp
  have p1 : w2.cell? ⟨w.heap.size, 1, none⟩ = some (.slice c.ia ni c.ic) := by rw [← hw2]; simp
  have p2 : w2.cell? ⟨w.heap.size, 2, none⟩ = some (.slice c.ra nr c.rc) := by rw [← hw2]; simp
  have p3 : w2.cell? ⟨w.heap.size, 3, none⟩ = some (.slice c.sa ns c.sc) := by rw [← hw2]; simp
  have p4 : w2.cell? ⟨w.heap.size, 4, none⟩ = some (.int .i64 c.leaf) := by rw [← hw2]; simp
  have HK2 := Lib.hid (show Kp [] w w2 by rw [← hw2]; exact (Kp.refl [] w).alloc _)
  clear hw2
  go_wp2_with fail
  refine (great_w HVL.out HN.out (H.out.keep0 HK2.out) HO.out).mono ?_
  rintro e w3 ⟨rfl, kp3⟩
  replace p0 := kp3.cell p0 (by simp)
  replace p1 := kp3.cell p1 (by simp)
  replace p2 := kp3.cell p2 (by simp)
  replace p3 := kp3.cell p3 (by simp)
  replace p4 := kp3.cell p4 (by simp)
  have HK3 := Lib.hid (HK2.out.tr kp3)
  clear kp3
  have hs34 : w.heap.size < w3.heap.size := World.block_lt_of_cell? w3 _ p0
  cases hg : greatC l c with
  | true =>
    go_wp2_with fail
    refine (known17_any _).mono ?_
    rintro e w4 ⟨rfl, kp4⟩
    go_wp2_with fail
    go_ret
    exact ⟨rfl, HK3.out.tr kp4⟩
  | false =>
  clear hg
  go_wp2_with fail
  refine (sbytes_w HVL.out HN.out (H.out.keep0 HK3.out) HO.out (HC.out.keep0 HK3.out)).mono ?_
  rintro e w4 ⟨ad4, cap4, rfl, ho4, kp4⟩
  replace p0 := kp4.cell p0 (by simp)
  replace p1 := kp4.cell p1 (by simp)
  replace p2 := kp4.cell p2 (by simp)
  replace p3 := kp4.cell p3 (by simp)
  replace p4 := kp4.cell p4 (by simp)
  have HK4 := Lib.hid (HK3.out.tr kp4)
  clear kp4
  go_wp2_with fail
  refine (rfits_w HVL.out HN.out (H.out.keep0 HK4.out) HO.out (HC.out.keep0 HK4.out)).mono ?_
  rintro e w5 ⟨rfl, kp5⟩
  replace p0 := kp5.cell p0 (by simp)
  replace p1 := kp5.cell p1 (by simp)
  replace p2 := kp5.cell p2 (by simp)
  replace p3 := kp5.cell p3 (by simp)
  replace p4 := kp5.cell p4 (by simp)
  have HK5 := Lib.hid (HK4.out.tr kp5)
  have HO5 := Lib.hid (ho4.keep0 kp5)
  clear kp5 ho4
  cases hf : fitsC l c with
  | false =>
    have e1 : wrC l c = [] := by rw [wrC, hf]; rfl
    have e2 : errC l c = 2 := by rw [errC, hf]; rfl
    rw [e1, e2]
    clear hf e1 e2
    simp only [List.length_nil]
    go_wp2_with fail
    refine (known17_any _).mono ?_
    rintro e w6 ⟨rfl, kp6⟩
    go_wp2_with fail
    go_ret
    exact ⟨rfl, HK5.out.tr kp6⟩
  | true =>
  have e1 : wrC l c = bytC l c := by rw [wrC, hf]; rfl
  have e2 : errC l c = 0 := by rw [errC, hf]; rfl
  have hfit := fitsC_ok hf
  rw [e1] at HO5
  rw [e1, e2]
  have HF := Lib.hid hf
  have HFT := Lib.hid hfit
  have hlen := bytC_len hfit
  obtain ⟨M, hM⟩ : ∃ M, M = (bytC l c).length := ⟨_, rfl⟩
  rw [← hM] at hlen ⊢
  have HM := Lib.hid hM
  have HB8 := Lib.hid (bytC_b8 hfit)
  have HP0 := Lib.hid p0
  have HP1 := Lib.hid p1
  have HP2 := Lib.hid p2
  have HP3 := Lib.hid p3
  have HP4 := Lib.hid p4
  clear hf e1 e2 hfit hM p0 p1 p2 p3 p4
  go_upto_region 6 with (fail)
  refine wp_region_K (by kernel_rfl) [.val (.int .i64 0), .val (.bool false), .val (.bool false), .val (.slice ad4 M cap4), .val (.string (strOfNums (bytC l c))), .val (.slice a0 n cap0), .val (.agg #[.int .i64 c.srt, .slice c.ia ni c.ic, .slice c.ra nr c.rc, .slice c.sa ns c.sc, .int .i64 c.leaf]), .own w5.heap.size 5 .u8 M (bytC l c), .val (.string (strOfNums (bytC l c))), .val (.bool false), .val (.bool false)] [[(6, none)], [(35, some 0)], [(36, some 1)], [(37, some 2), (5, none)], [(37, some 2), (38, some 3)], [(37, some 2), (0, none)], [(37, some 2), (3, none)], [(37, some 2), (40, some 5), (41, some 6)], [(37, some 2), (42, some 7)], [(37, some 2), (39, some 4), (43, some 8)], [(37, some 2), (44, some 9)]] rfl (by kernel_rfl) ?_ ?_
  · refine ⟨?o0, ?o1, ?o2, ?o3, ?o4, ?o5, ?o6, ?o7, ?o8, ?o9, ?o10, trivial⟩
    case o0 => intro aR wR hR; replace hR := hR.undrew; intro (h6 : aR.tmps[6]? = some (.int .i64 0)); exact exec_val (c := .int .i64 0) (wanted_none rfl) (by go_simp) rfl
    case o1 => intro aR wR hR; replace hR := hR.undrew; intro v35 h35 e35; replace e35 : v35 = .int .i64 0 := e35; subst e35; exact exec_val (c := .bool false) (wanted_none rfl) (by go_simp) rfl
    case o2 => intro aR wR hR; replace hR := hR.undrew; intro v36 h36 e36; replace e36 : v36 = .bool false := e36; subst e36; exact exec_val (c := .bool false) (wanted_none rfl) (by go_simp) rfl
    case o3 => intro aR wR hR; replace hR := hR.undrew; intro v37 h37 e37; replace e37 : v37 = .bool false := e37; subst e37; intro (h5 : aR.tmps[5]? = some (.slice ad4 M cap4)); exact exec_val (c := .slice ad4 M cap4) (wanted_yes (b := false) (t := 37) rfl rfl h37) (by go_simp) rfl
    case o4 => intro aR wR hR; replace hR := hR.undrew; intro v37 h37 e37; replace e37 : v37 = .bool false := e37; subst e37; intro v38 h38 e38; replace e38 : v38 = .slice ad4 M cap4 := e38; subst e38; (have hcv := cvs wR ad4 cap4 M (bytC l c) ((HO5.out.keep0 hR).rd) HM.out); exact exec_val (c := .string (strOfNums (bytC l c))) (wanted_yes (b := false) (t := 37) rfl rfl h37) (by go_simp) rfl
    case o5 => intro aR wR hR; replace hR := hR.undrew; intro v37 h37 e37; replace e37 : v37 = .bool false := e37; subst e37; intro (h0 : aR.tmps[0]? = some (.slice a0 n cap0)); exact exec_val (c := .slice a0 n cap0) (wanted_yes (b := false) (t := 37) rfl rfl h37) (by go_simp) rfl
    case o6 => intro aR wR hR; replace hR := hR.undrew; intro v37 h37 e37; replace e37 : v37 = .bool false := e37; subst e37; intro (h3 : aR.tmps[3]? = some (.pointer (some ⟨w.heap.size, 0, none⟩))); (have h0 := hR.cell HP0.out (by simp); have h1 := hR.cell HP1.out (by simp); have h2 := hR.cell HP2.out (by simp); have h3 := hR.cell HP3.out (by simp); have h4 := hR.cell HP4.out (by simp)); exact exec_val (c := .agg #[.int .i64 c.srt, .slice c.ia ni c.ic, .slice c.ra nr c.rc, .slice c.sa ns c.sc, .int .i64 c.leaf]) (wanted_yes (b := false) (t := 37) rfl rfl h37) (by go_simp) rfl
    case o7 => intro aR wR hR; replace hR := hR.undrew; intro v37 h37 e37; replace e37 : v37 = .bool false := e37; subst e37; intro v40 h40 e40; replace e40 : v40 = .slice a0 n cap0 := e40; subst e40; intro v41 h41 e41; replace e41 : v41 = .agg #[.int .i64 c.srt, .slice c.ia ni c.ic, .slice c.ra nr c.rc, .slice c.sa ns c.sc, .int .i64 c.leaf] := e41; subst e41; refine exec_call (wanted_yes (b := false) (t := 37) rfl rfl h37) (by go_simp; exact ⟨rfl, rfl⟩) ?_; refine (rbytes_w HVL.out HN.out ((H.out.keep0 HK5.out).keep0 hR) HO.out ((HC.out.keep0 HK5.out).keep0 hR) HFT.out).mono ?_; rintro e7 w8 ⟨ad8, cap8, rfl, ho8, kp8⟩; exact ⟨_, rfl, ⟨ad8, cap8, by rw [HM.out], ho8.mono hR.size⟩, kp8⟩
    case o8 => intro aR wR hR; replace hR := hR.undrew; intro v37 h37 e37; replace e37 : v37 = .bool false := e37; subst e37; intro v42 h42 e42; (obtain ⟨ad, cap, rfl, ho⟩ := e42; have hcv := cvs wR ad cap M (bytC l c) ho.rd HM.out); exact exec_val (c := .string (strOfNums (bytC l c))) (wanted_yes (b := false) (t := 37) rfl rfl h37) (by go_simp) rfl
    case o9 => intro aR wR hR; replace hR := hR.undrew; intro v37 h37 e37; replace e37 : v37 = .bool false := e37; subst e37; intro v39 h39 e39; replace e39 : v39 = .string (strOfNums (bytC l c)) := e39; subst e39; intro v43 h43 e43; replace e43 : v43 = .string (strOfNums (bytC l c)) := e43; subst e43; exact exec_val (c := .bool false) (wanted_yes (b := false) (t := 37) rfl rfl h37) (by go_simp) rfl
    case o10 => intro aR wR hR; replace hR := hR.undrew; intro v37 h37 e37; replace e37 : v37 = .bool false := e37; subst e37; intro v44 h44 e44; replace e44 : v44 = .bool false := e44; subst e44; exact exec_val (c := .bool false) (wanted_none rfl) (by go_simp) rfl
  · intro vs wR hR hV
    obtain ⟨e0, e1, e2, e3, e4, e5, e6, e7, e8, e9, e10, -⟩ := hV
    replace e0 : vs 0 = .int .i64 0 := e0
    replace e1 : vs 1 = .bool false := e1
    replace e2 : vs 2 = .bool false := e2
    replace e3 : vs 3 = .slice ad4 M cap4 := e3
    replace e4 : vs 4 = .string (strOfNums (bytC l c)) := e4
    replace e5 : vs 5 = .slice a0 n cap0 := e5
    replace e6 : vs 6 = .agg #[.int .i64 c.srt, .slice c.ia ni c.ic, .slice c.ra nr c.rc, .slice c.sa ns c.sc, .int .i64 c.leaf] := e6
    replace e8 : vs 8 = .string (strOfNums (bytC l c)) := e8
    replace e9 : vs 9 = .bool false := e9
    replace e10 : vs 10 = .bool false := e10
    simp only [putAll, e0, e1, e2, e3, e4, e5, e6, e8, e9, e10, Nat.reduceAdd, Nat.zero_add]
    clear e0 e1 e2 e3 e4 e5 e6 e8 e9 e10
    try simp only [List.setIfInBounds_toArray, List.set_cons_succ, List.set_cons_zero]
    have HKR := Lib.hid (HK5.out.tr hR)
    have HOR := Lib.hid (HO5.out.keep0 hR)
    have HQ0 := Lib.hid (hR.cell HP0.out (by simp))
    have HQ1 := Lib.hid (hR.cell HP1.out (by simp))
    have HQ2 := Lib.hid (hR.cell HP2.out (by simp))
    have HQ3 := Lib.hid (hR.cell HP3.out (by simp))
    have HQ4 := Lib.hid (hR.cell HP4.out (by simp))
    clear hR
    go_wp2_with fail
    refine (sRead_any ad4 cap4 M (bytC l c) HM.out _ HOR.out.rd HB8.out (by omega)).mono ?_
    rintro e w6 ⟨l6, d, ad6, cap6, rfl, hl6, ho6, hd6, hk6, hal6, kp6⟩
    rw [rd_wrC HF.out] at hl6 hal6 ⊢
    dsimp only at hl6 hal6 ⊢
    have hR6 := kp6.size
    have hl7 : l6 = l := hl6
    clear hl6
    subst l6
    have HAL := Lib.hid (alike_same2 (hal6 _ rfl) (same_norm HF.out))
    have HLI : Hid (d.inv.length = n ∧ d.rng.length = n) := Lib.hid (by
      obtain ⟨-, h2, h3, -, -⟩ := hal6 _ rfl
      rw [h2, h3, HN.out]; exact ⟨by simp [normC, mkC, flF_length], by simp [normC, mkC, flF_length]⟩)
    have HO6 := Lib.hid ho6
    have HD6 := Lib.hid hd6
    have HK6 := Lib.hid (HKR.out.tr kp6)
    have HOB6 := Lib.hid (HOR.out.keep0 kp6)
    have HS0 := Lib.hid (kp6.cell HQ0.out (by simp))
    have HS1 := Lib.hid (kp6.cell HQ1.out (by simp))
    have HS2 := Lib.hid (kp6.cell HQ2.out (by simp))
    have HS3 := Lib.hid (kp6.cell HQ3.out (by simp))
    have HS4 := Lib.hid (kp6.cell HQ4.out (by simp))
    clear ho6 hd6 hk6 hal6 kp6
    obtain ⟨ni2, hni2⟩ : ∃ ni, ni = d.inv.length := ⟨_, rfl⟩
    obtain ⟨nr2, hnr2⟩ : ∃ nr, nr = d.rng.length := ⟨_, rfl⟩
    obtain ⟨ns2, hns2⟩ : ∃ ns, ns = d.spl.length := ⟨_, rfl⟩
    have HVL2 : Hid (cfgV d = .agg #[.int .i64 d.srt, .slice d.ia ni2 d.ic, .slice d.ra nr2 d.rc, .slice d.sa ns2 d.sc, .int .i64 d.leaf]) := Lib.hid (by rw [hni2, hnr2, hns2]; rfl)
    have HNI2 := Lib.hid hni2
    have HNR2 := Lib.hid hnr2
    have HNS2 := Lib.hid hns2
    clear hni2 hnr2 hns2
    rw [HVL2.out]
    go_upto_region 9 with (fail)
    generalize hw7 : w6.alloc _ = w7
    have KX7 : Kp [] w6 w7 := by rw [← hw7]; exact (Kp.refl [] w6).alloc _
    have hd1 : w7.cell? ⟨w6.heap.size, 1, none⟩ = some (.slice d.ia ni2 d.ic) := by rw [← hw7]; simp
    have hd2 : w7.cell? ⟨w6.heap.size, 2, none⟩ = some (.slice d.ra nr2 d.rc) := by rw [← hw7]; simp
    have hd0 : w7.cell? ⟨w6.heap.size, 0, none⟩ = some (.int .i64 d.srt) := by rw [← hw7]; simp
    have hd3 : w7.cell? ⟨w6.heap.size, 3, none⟩ = some (.slice d.sa ns2 d.sc) := by rw [← hw7]; simp
    have hd4 : w7.cell? ⟨w6.heap.size, 4, none⟩ = some (.int .i64 d.leaf) := by rw [← hw7]; simp
    have HD0 := Lib.hid hd0
    have HD1 := Lib.hid hd1
    have HD2 := Lib.hid hd2
    have HD3 := Lib.hid hd3
    have HD4 := Lib.hid hd4
    have HK7 := Lib.hid (HK6.out.tr KX7)
    have HOB7 := Lib.hid (HOB6.out.keep0 KX7)
    have HO7 := Lib.hid (HO6.out.keep0 KX7)
    have HDC7 := Lib.hid (HD6.out.keep0 KX7)
    have HT0 := Lib.hid (KX7.cell HS0.out (by simp))
    have HT1 := Lib.hid (KX7.cell HS1.out (by simp))
    have HT2 := Lib.hid (KX7.cell HS2.out (by simp))
    have HT3 := Lib.hid (KX7.cell HS3.out (by simp))
    have HT4 := Lib.hid (KX7.cell HS4.out (by simp))
    have HOBL : Hid (∀ y ∈ ob ad4 cap4, w3.heap.size ≤ y ∧ y < wR.heap.size) := Lib.hid (fun y hy => ⟨(HOR.out.ob_ge y hy).1, (HOR.out.ob_ge y hy).2⟩)
    clear hw7 KX7 hd0 hd1 hd2 hd3 hd4
    go_wp2_with fail
    go_loopw [10, 54] (fun _ vi wr => ∃ (k : Nat) (xs : List Int), k ≤ M ∧ vi = .int .i64 k ∧ Own wr w3.heap.size 5 .u8 ad4 cap4 xs ∧ xs.length = M ∧ Kp (ob ad4 cap4) w7 wr) (fun _ i _ => M - (intOf i).toNat)
    case atStart => exact ⟨0, bytC l c, Nat.zero_le _, rfl, HOB7.out, HM.out.symm, Kp.refl _ _⟩
    case round =>
      obtain ⟨k, xs, hk, rfl, ho, hxs, kp⟩ := hrel
      by_cases hlt : k < M
      · obtain ⟨g, hga, hc, hf, hg1, hg2⟩ := ho.at' (i := k) (by omega)
        subst hga
        obtain ⟨z, hz⟩ : ∃ z, z = nth xs k := ⟨_, rfl⟩
        rw [← hz] at hc
        have hset := ho.set k (IntKind.u8.wrap (z + 1))
        have hkp := kp_same kp ((Kp.refl (ob (some ⟨g, 0, none⟩) cap4) wr).setCell ⟨g, k, none⟩ (.int .u8 (IntKind.u8.wrap (z + 1))) (.inl hg2))
        have hcap4 := ho.rd.1
        have HOS := Lib.hid hset
        have HKP := Lib.hid hkp
        have hws : (IntKind.u8.wrap (z + 1)) = (z + 1) % 256 := IntKind.wrap_u8 _
        rw [hws] at HOS HKP
        clear hset hkp hz hws ho kp
        go_wp2_with fail
        go_roundw
        case rel => exact ⟨k + 1, _, by omega, by go_num, HOS.out, by simp [hxs], HKP.out⟩
        case measure => simp [intOf]; omega
      · have HKP := Lib.hid kp
        have HKW := Lib.hid (show Kp [] w wr from HK7.out.trans kp (U := []) (by simp) (fun y hy => .inr (by have := (HOBL.out y hy).1; omega)))
        have hO8 := HO7.out.keep kp (fun y hy hx => by have h1 := (HOBL.out y hx).2; have h2 := (HO6.out.ob_ge y hy).1; omega)
        have hD8 := HDC7.out.keep kp (fun y hy => (HOBL.out y hy).2)
        have s0 := kp.cell HT0.out (fun hx => by have := (HOBL.out _ hx).1; simp at this; omega)
        have s1 := kp.cell HT1.out (fun hx => by have := (HOBL.out _ hx).1; simp at this; omega)
        have s2 := kp.cell HT2.out (fun hx => by have := (HOBL.out _ hx).1; simp at this; omega)
        have s3 := kp.cell HT3.out (fun hx => by have := (HOBL.out _ hx).1; simp at this; omega)
        have s4 := kp.cell HT4.out (fun hx => by have := (HOBL.out _ hx).1; simp at this; omega)
        have d0 := kp.cell HD0.out (fun hx => by have := (HOBL.out _ hx).2; simp at this; omega)
        have d1 := kp.cell HD1.out (fun hx => by have := (HOBL.out _ hx).2; simp at this; omega)
        have d2 := kp.cell HD2.out (fun hx => by have := (HOBL.out _ hx).2; simp at this; omega)
        have d3 := kp.cell HD3.out (fun hx => by have := (HOBL.out _ hx).2; simp at this; omega)
        have d4 := kp.cell HD4.out (fun hx => by have := (HOBL.out _ hx).2; simp at this; omega)
        have HO8 := Lib.hid hO8
        have HD8 := Lib.hid hD8
        clear hO8 hD8 kp ho hxs
        go_wp2_with fail
        refine (r17SameC_any ad6 cap6 l.length l rfl a0 cap0 n l HN.out _ (HO8.out.rd clies) (H.out.keep0 HKW.out)).mono ?_
        rintro e w9 ⟨rfl, kp9⟩
        rw [eqCs_self]
        have HK9 := Lib.hid (HKW.out.tr kp9)
        have HD9 := Lib.hid (HD8.out.keep0 kp9)
        replace s0 := kp9.cell s0 (by simp)
        replace s1 := kp9.cell s1 (by simp)
        replace s2 := kp9.cell s2 (by simp)
        replace s3 := kp9.cell s3 (by simp)
        replace s4 := kp9.cell s4 (by simp)
        replace d0 := kp9.cell d0 (by simp)
        replace d1 := kp9.cell d1 (by simp)
        replace d2 := kp9.cell d2 (by simp)
        replace d3 := kp9.cell d3 (by simp)
        replace d4 := kp9.cell d4 (by simp)
        clear kp9
        go_wp2_with fail
        refine (rsame_w HVL.out HVL2.out (HC.out.keep0 HK9.out) HD9.out.rd).mono ?_
        rintro e w10 ⟨rfl, kp10⟩
        rw [HAL.out]
        have HK10 := Lib.hid (HK9.out.tr kp10)
        replace d0 := kp10.cell d0 (by simp)
        replace d1 := kp10.cell d1 (by simp)
        replace d2 := kp10.cell d2 (by simp)
        replace d3 := kp10.cell d3 (by simp)
        replace d4 := kp10.cell d4 (by simp)
        obtain rfl : ni2 = n := by rw [HNI2.out]; exact HLI.out.1
        have hnr : nr2 = ni2 := by rw [HNR2.out]; exact HLI.out.2
        rw [hnr] at d2
        clear kp10 hnr
        go_wp2_with fail
        refine (known17_any _).mono ?_
        rintro e w11 ⟨rfl, kp11⟩
        go_wp2_with fail
        go_ret
        exact ⟨rfl, HK10.out.tr kp11⟩
end Go.Proofs.Ytegnobdablbahaa
