/-
  Schema: the bytes that the document tells.
-/
import Derived.Test.YtegnobdablbahaaSchA
namespace Go.Proofs.Ytegnobdablbahaa
open Go.RowKit
set_option linter.unusedSimpArgs false
set_option linter.unusedVariables false

set_option maxHeartbeats 3200000 in
set_option maxRecDepth 100000 in
theorem r17Bytes_any (ad : Option Addr) (cap n : Nat) (l : List Col) (hn : n = l.length) (c : Cfg) (w : World) (h : RdC w ad cap l) (ho : COk l) (hc : RdCfg w c) (hf : CFit l c) :
    Calls Try.prog 28 #[.slice ad n cap, cfgV c] w fun e w' => ∃ ad' cap', e = .returned (.slice ad' (bytC l c).length cap') ∧ Own w' w.heap.size 5 .u8 ad' cap' (bytC l c) ∧ Kp [] w w' := by
  have H := Lib.hid h
  have HN := Lib.hid hn
  have HO := Lib.hid ho
  have HC := Lib.hid hc
  have hcap := h.1
  rw [← hn] at hcap
  have hcap2 := h.2.1
  clear h hn ho hc
  obtain ⟨ni, hni⟩ : ∃ ni, ni = c.inv.length := ⟨_, rfl⟩
  obtain ⟨nr, hnr⟩ : ∃ nr, nr = c.rng.length := ⟨_, rfl⟩
  obtain ⟨ns, hns⟩ : ∃ ns, ns = c.spl.length := ⟨_, rfl⟩
  have HNI := Lib.hid hni
  have HNR := Lib.hid hnr
  have HNS := Lib.hid hns
  have HVL : Hid (cfgV c = .agg #[.int .i64 c.srt, .slice c.ia ni c.ic, .slice c.ra nr c.rc, .slice c.sa ns c.sc, .int .i64 c.leaf]) := Lib.hid (by rw [hni, hnr, hns]; rfl)
  clear hni hnr hns
  obtain ⟨srt, hsrt⟩ : ∃ z, z = c.srt := ⟨_, rfl⟩
  obtain ⟨leaf, hleaf⟩ : ∃ z, z = c.leaf := ⟨_, rfl⟩
  rw [← hsrt, ← hleaf] at HVL
  have HSRT := Lib.hid hsrt
  have HLEAF := Lib.hid hleaf
  clear hsrt hleaf
  obtain ⟨ia, ic, hia⟩ : ∃ a b, a = c.ia ∧ b = c.ic := ⟨_, _, rfl, rfl⟩
  obtain ⟨ra, rc, hra⟩ : ∃ a b, a = c.ra ∧ b = c.rc := ⟨_, _, rfl, rfl⟩
  obtain ⟨sa, sc, hsa⟩ : ∃ a b, a = c.sa ∧ b = c.sc := ⟨_, _, rfl, rfl⟩
  rw [← hia.1, ← hia.2, ← hra.1, ← hra.2, ← hsa.1, ← hsa.2] at HVL
  have HCI : Hid (RdB w ia ic c.inv) := Lib.hid (by rw [hia.1, hia.2]; exact HC.out.1)
  have HCR : Hid (RdB w ra rc c.rng) := Lib.hid (by rw [hra.1, hra.2]; exact HC.out.2.1)
  have HCS : Hid (Rd w .i64 sa sc c.spl) := Lib.hid (by rw [hsa.1, hsa.2]; exact HC.out.2.2)
  clear hia hra hsa
  have hs1 := HCS.out.1
  have hs2 := HCS.out.2.1
  rw [← HNS.out] at hs1
  have HFT := Lib.hid hf
  clear hf
  have hn1 : 1 ≤ n ∧ n ≤ 256 := by rw [HN.out]; exact HFT.out.n
  have hns8 : ns ≤ 8 := by rw [HNS.out]; exact HFT.out.ns
  have hsr : -1 ≤ srt ∧ srt < (n : Int) := by rw [HN.out, HSRT.out]; exact HFT.out.srt
  have hlf : 1 ≤ leaf ∧ leaf ≤ 1000000 := by rw [HLEAF.out]; exact HFT.out.leaf
  obtain ⟨lf, hlf2⟩ : ∃ q : Nat, leaf = (q : Int) := ⟨leaf.toNat, by omega⟩
  have HLF := Lib.hid hlf2
  obtain ⟨sq, hsq⟩ : ∃ q : Nat, srt + 1 = (q : Int) := ⟨(srt + 1).toNat, by omega⟩
  have hsqb : sq ≤ 256 := by omega
  have HSQ := Lib.hid hsq
  clear hsq hlf2
  have hw64 : IntKind.u64.wrap (n : Int) = (n : Int) := by rw [IntWalk.u64_in _ (by omega)]
  rw [HVL.out]
  go_enter Try.func28, Try.ntmps28
  go_upto_region 1 with (fail)
  generalize hw2 : w.alloc _ = w3
  have p0 : w3.cell? ⟨w.heap.size, 0, none⟩ = some (.int .i64 srt) := by rw [← hw2]; simp
  have p1 : w3.cell? ⟨w.heap.size, 1, none⟩ = some (.slice ia ni ic) := by rw [← hw2]; simp
  have p2 : w3.cell? ⟨w.heap.size, 2, none⟩ = some (.slice ra nr rc) := by rw [← hw2]; simp
  have p3 : w3.cell? ⟨w.heap.size, 3, none⟩ = some (.slice sa ns sc) := by rw [← hw2]; simp
  have p4 : w3.cell? ⟨w.heap.size, 4, none⟩ = some (.int .i64 leaf) := by rw [← hw2]; simp
  have HK3 := Lib.hid (show Kp [] w w3 by rw [← hw2]; exact (Kp.refl [] w).alloc _)
  have HQ0 := Lib.hid p0
  have HQ1 := Lib.hid p1
  have HQ2 := Lib.hid p2
  have HQ3 := Lib.hid p3
  have HQ4 := Lib.hid p4
  have hbl : w.heap.size < w3.heap.size := World.block_lt_of_cell? _ _ p0
  clear hw2 p0 p1 p2 p3 p4
  go_wp2_with fail
  refine (little_any n 2 _ (by omega) (by omega)).mono ?_
  rintro e w4 ⟨ad4, cap4, rfl, ho4, kp4⟩
  have HO4 := Lib.hid ho4
  have HK4 := Lib.hid kp4
  clear ho4 kp4
  go_wp2_with fail
  go_loopw [5, 6] (fun vb vi wr => ∃ (k m : Nat) (ad' : Option Addr) (cap' : Nat), k ≤ n ∧ vi = .int .i64 k ∧ vb = .slice ad' m cap' ∧ m ≤ 2 + 66 * k ∧ Hid (m = (bytA l k).length) ∧ Hid (Own wr w3.heap.size 5 .u8 ad' cap' (bytA l k)) ∧ Hid (Kp [] w3 wr)) (fun _ vi _ => n - (intOf vi).toNat)
  case atStart => exact ⟨0, 2, ad4, cap4, Nat.zero_le _, rfl, rfl, by omega, Lib.hid (by rw [bytA_zero, le_length]), Lib.hid (by rw [bytA_zero, ← HN.out]; exact HO4.out), HK4⟩
  case round =>
    obtain ⟨k, m, ad', cap', hk, rfl, rfl, hm, HL, HOW, HK⟩ := hrel
    obtain ⟨w5, rfl⟩ : ∃ w5, w5 = wr := ⟨_, rfl⟩
    by_cases hlt : k < n
    · have hkl : k < l.length := by rw [← HN.out]; exact hlt
      obtain ⟨b, off, rfl, c0, c1⟩ := (H.out.keep0 (HK3.out.tr HK.out)).atC k hkl
      obtain ⟨hz1, hz2, hz3, hz4⟩ := HFT.out.col k hkl
      have hst := bytA_step l k hkl
      obtain ⟨x, hx⟩ : ∃ x, x = atC l k := ⟨_, rfl⟩
      rw [← hx] at c0 c1 hz1 hz2 hz3 hz4 hst
      have HST := Lib.hid hst
      have HXX := Lib.hid hx
      have HKL := Lib.hid hkl
      have HD0 := Lib.hid c0
      have HD1 := Lib.hid c1
      have hs5 := HK.out.size
      have hi1 : (k : Int) < (n : Int) := by omega
      clear hx hkl hst c0 c1
      obtain ⟨cp, ww, hcw⟩ := conv_bytes_fn x.nm (by omega)
      have hcv2 := fun wx => (hcw wx).1
      have HCW := Lib.hid hcw
      clear hcw
      have eB : bytA l k ++ [x.kd, (x.nm.size : Int)] ++ sbytes x.nm = bytA l k ++ colB x := by rw [colB, List.append_assoc]
      have HEB := Lib.hid eB
      clear eB
      have hS0 : ∀ y ∈ ([] : List Nat), y < w5.heap.size := by simp
      go_upto_region 5 with (fail)
      refine wp_region_GS (by kernel_rfl) [] [.val (.slice ad' m cap'), .val (.slice (some ⟨b, off, none⟩) n cap), .val (.int .i64 (k : Int)), .val (.pointer (some ⟨b, off + k * 2, none⟩)), .val (.pointer (some ⟨b, off + k * 2 + 1, none⟩)), .val (.int .u8 x.kd), .val (.slice (some ⟨b, off, none⟩) n cap), .val (.int .i64 (k : Int)), .val (.pointer (some ⟨b, off + k * 2, none⟩)), .val (.pointer (some ⟨b, off + k * 2, none⟩)), .val (.string x.nm), .val (.int .i64 (x.nm.size : Int)), .val (.int .u8 (x.nm.size : Int)), .own w5.heap.size hS0 5 .u8 2 [x.kd, (x.nm.size : Int)]] [[(5, none)], [(0, none)], [(6, none)], [(21, some 1), (22, some 2)], [(23, some 3)], [(24, some 4)], [(0, none)], [(6, none)], [(26, some 6), (27, some 7)], [(28, some 8)], [(29, some 9)], [(30, some 10)], [(31, some 11)], [(25, some 5), (32, some 12)]] [] (fun _ _ => True) 14 rfl (by kernel_rfl) (by kernel_rfl) (by kernel_rfl) (by kernel_rfl) (by kernel_rfl) (by simp) (fun _ _ _ h _ => h) trivial ?_ ?_
      · refine (ObG.free rfl ?o0 (ObG.free rfl ?o1 (ObG.free rfl ?o2 (ObG.free rfl ?o3 (ObG.free rfl ?o4 (ObG.free rfl ?o5 (ObG.free rfl ?o6 (ObG.free rfl ?o7 (ObG.free rfl ?o8 (ObG.free rfl ?o9 (ObG.free rfl ?o10 (ObG.free rfl ?o11 (ObG.free rfl ?o12 (ObG.free rfl ?o13 trivial))))))))))))))
        case o0 => intro aR wR mR hR hI; replace hR := hR.undrew; intro (h5 : aR.tmps[5]? = some (.slice ad' m cap')); exact exec_val (c := .slice ad' m cap') (wanted_none rfl) (by go_simp) rfl
        case o1 => intro aR wR mR hR hI; replace hR := hR.undrew; intro (h0 : aR.tmps[0]? = some (.slice (some ⟨b, off, none⟩) n cap)); exact exec_val (c := .slice (some ⟨b, off, none⟩) n cap) (wanted_none rfl) (by go_simp) rfl
        case o2 => intro aR wR mR hR hI; replace hR := hR.undrew; intro (h6 : aR.tmps[6]? = some (.int .i64 (k : Int))); exact exec_val (c := .int .i64 (k : Int)) (wanted_none rfl) (by go_simp) rfl
        case o3 => intro aR wR mR hR hI; replace hR := hR.undrew; intro v21 h21 e21; replace e21 : v21 = .slice (some ⟨b, off, none⟩) n cap := e21; subst e21; intro v22 h22 e22; replace e22 : v22 = .int .i64 (k : Int) := e22; subst e22; (skip); exact exec_val (c := .pointer (some ⟨b, off + k * 2, none⟩)) (wanted_none rfl) (by go_simp) rfl
        case o4 => intro aR wR mR hR hI; replace hR := hR.undrew; intro v23 h23 e23; replace e23 : v23 = .pointer (some ⟨b, off + k * 2, none⟩) := e23; subst e23; (skip); exact exec_val (c := .pointer (some ⟨b, off + k * 2 + 1, none⟩)) (wanted_none rfl) (by go_simp) rfl
        case o5 => intro aR wR mR hR hI; replace hR := hR.undrew; intro v24 h24 e24; replace e24 : v24 = .pointer (some ⟨b, off + k * 2 + 1, none⟩) := e24; subst e24; (have hc := hR.cell HD1.out (by simp)); exact exec_val (c := .int .u8 x.kd) (wanted_none rfl) (by go_simp) rfl
        case o6 => intro aR wR mR hR hI; replace hR := hR.undrew; intro (h0 : aR.tmps[0]? = some (.slice (some ⟨b, off, none⟩) n cap)); exact exec_val (c := .slice (some ⟨b, off, none⟩) n cap) (wanted_none rfl) (by go_simp) rfl
        case o7 => intro aR wR mR hR hI; replace hR := hR.undrew; intro (h6 : aR.tmps[6]? = some (.int .i64 (k : Int))); exact exec_val (c := .int .i64 (k : Int)) (wanted_none rfl) (by go_simp) rfl
        case o8 => intro aR wR mR hR hI; replace hR := hR.undrew; intro v26 h26 e26; replace e26 : v26 = .slice (some ⟨b, off, none⟩) n cap := e26; subst e26; intro v27 h27 e27; replace e27 : v27 = .int .i64 (k : Int) := e27; subst e27; (skip); exact exec_val (c := .pointer (some ⟨b, off + k * 2, none⟩)) (wanted_none rfl) (by go_simp) rfl
        case o9 => intro aR wR mR hR hI; replace hR := hR.undrew; intro v28 h28 e28; replace e28 : v28 = .pointer (some ⟨b, off + k * 2, none⟩) := e28; subst e28; (skip); exact exec_val (c := .pointer (some ⟨b, off + k * 2, none⟩)) (wanted_none rfl) (by go_simp) rfl
        case o10 => intro aR wR mR hR hI; replace hR := hR.undrew; intro v29 h29 e29; replace e29 : v29 = .pointer (some ⟨b, off + k * 2, none⟩) := e29; subst e29; (have hc := hR.cell HD0.out (by simp)); exact exec_val (c := .string x.nm) (wanted_none rfl) (by go_simp) rfl
        case o11 => intro aR wR mR hR hI; replace hR := hR.undrew; intro v30 h30 e30; replace e30 : v30 = .string x.nm := e30; subst e30; (skip); exact exec_val (c := .int .i64 (x.nm.size : Int)) (wanted_none rfl) (by go_simp) rfl
        case o12 => intro aR wR mR hR hI; replace hR := hR.undrew; intro v31 h31 e31; replace e31 : v31 = .int .i64 (x.nm.size : Int) := e31; subst e31; (have ex := IntWalk.u8_in (x.nm.size : Int) (by omega)); exact exec_val (c := .int .u8 (x.nm.size : Int)) (wanted_none rfl) (by go_simp) rfl
        case o13 => intro aR wR mR hR hI; replace hR := hR.undrew; intro v25 h25 e25; replace e25 : v25 = .int .u8 x.kd := e25; subst e25; intro v32 h32 e32; replace e32 : v32 = .int .u8 (x.nm.size : Int) := e32; subst e32; exact exec_do (c := .slice (some ⟨wR.heap.size, 0, none⟩) 2 2) (w' := wR.alloc (.cells #[.int .u8 x.kd, .int .u8 (x.nm.size : Int)] 5)) (wanted_none rfl) (by go_simp) ⟨_, _, rfl, .inr ⟨_, _, rfl, hR.size, heap_alloc_at rfl, rfl, by simp, by omega, rfl⟩⟩ ((Kp.refl [] _).alloc _)
      · intro vs wR hR hI hV
        obtain ⟨e0, e1, e2, e3, e4, e5, e6, e7, e8, e9, e10, e11, e12, e13, -⟩ := hV
        replace e0 : vs 0 = .slice ad' m cap' := e0
        replace e1 : vs 1 = .slice (some ⟨b, off, none⟩) n cap := e1
        replace e2 : vs 2 = .int .i64 (k : Int) := e2
        replace e3 : vs 3 = .pointer (some ⟨b, off + k * 2, none⟩) := e3
        replace e4 : vs 4 = .pointer (some ⟨b, off + k * 2 + 1, none⟩) := e4
        replace e5 : vs 5 = .int .u8 x.kd := e5
        replace e6 : vs 6 = .slice (some ⟨b, off, none⟩) n cap := e6
        replace e7 : vs 7 = .int .i64 (k : Int) := e7
        replace e8 : vs 8 = .pointer (some ⟨b, off + k * 2, none⟩) := e8
        replace e9 : vs 9 = .pointer (some ⟨b, off + k * 2, none⟩) := e9
        replace e10 : vs 10 = .string x.nm := e10
        replace e11 : vs 11 = .int .i64 (x.nm.size : Int) := e11
        replace e12 : vs 12 = .int .u8 (x.nm.size : Int) := e12
        simp only [putAll, List.take_succ_cons, List.take_zero, List.drop_succ_cons, List.drop_zero, e0, e1, e2, e3, e4, e5, e6, e7, e8, e9, e10, e11, e12, Nat.reduceAdd, Nat.zero_add]
        clear e0 e1 e2 e3 e4 e5 e6 e7 e8 e9 e10 e11 e12
        try simp only [List.setIfInBounds_toArray, List.set_cons_succ, List.set_cons_zero]
        simp only [Nat.reduceAdd, Nat.zero_add] at e13
        obtain ⟨ad9, cap9, hv9, ho9⟩ := e13
        rw [hv9]
        have HO7 := Lib.hid (HOW.out.keep0 hR)
        have HKR := Lib.hid (HK.out.tr hR)
        have HS9 := Lib.hid (src_rd ho9.rd (tx := 39) (e' := 5) Try.underlying39)
        have hs9 := HKR.out.size
        clear ho9 hR hI
        refine wpList_app rfl (.tmp 20) (.tmp 33) 39 39 rfl w3.heap.size 5 .u8 1 Try.underlying39 infoU8 ad' cap' m (bytA l k) HL.out [x.kd, (x.nm.size : Int)] (.slice ad9 2 cap9) 2 rfl rfl rfl HO7.out HS9.out (by omega) (by omega) hs9 ?_
        intro ad7 cap7 w7 ho7 kp7 hob7 _
        have HO8 := Lib.hid ho7
        have HK8 := Lib.hid (HKR.out.trans kp7 (U := []) (by simp) (fun y hy => .inr (HO7.out.ob_ge y hy).1))
        have hs8 := HK8.out.size
        obtain ⟨b8, off8, e8, d0, -⟩ := (H.out.keep0 (HK3.out.tr HK8.out)).atC k HKL.out
        cases e8
        rw [← HXX.out] at d0
        clear ho7 kp7 hob7
        go_wp2_with (at_builtin; refine wpList_app rfl (.tmp 35) (.tmp 41) 39 39 rfl w3.heap.size 5 .u8 1 Try.underlying39 infoU8 ad7 cap7 (m + 2) (bytA l k ++ [x.kd, (x.nm.size : Int)]) (by rw [List.length_append, ← HL.out]; rfl) (sbytes x.nm) _ x.nm.size (sbytes_length _).symm rfl rfl (HO8.out.keep0 (HCW.out w7).2.2) (by have := src_rd (HCW.out w7).2.1 (tx := 39) (e' := 5) Try.underlying39; rw [sbytes_length] at this; exact this) (by omega) (by omega) (Nat.le_trans hs8 (HCW.out w7).2.2.size) ?_; intro adx capx wx hox kpx hobx _; have HOX : Hid (Own wx w3.heap.size 5 .u8 adx capx (bytA l k ++ colB x)) := Lib.hid (HEB.out ▸ hox); have HKX := Lib.hid ((HK8.out.tr (HCW.out w7).2.2).trans kpx (U := []) (by simp) (fun y hy => .inr (HO8.out.ob_ge y hy).1)); clear hox kpx hobx d0)
        go_roundw
        case rel => exact ⟨k + 1, m + 2 + x.nm.size, adx, capx, hlt, by go_num, rfl, by omega, Lib.hid (by rw [HST.out, List.length_append, colB_length, ← HL.out]; omega), Lib.hid (by rw [HST.out]; exact HOX.out), HKX⟩
        case measure => simp [intOf]; omega
    · obtain rfl : k = n := by omega
      have q0 := HK.out.cell HQ0.out (by simp)
      have hsk := HK.out.size
      have hx1 : IntKind.u64.wrap (srt + 1) = (sq : Int) := by rw [HSQ.out]; exact IntWalk.u64_in _ (by omega)
      go_wp2_with fail
      try rw [HSQ.out]
      refine (little_any sq 2 _ (by omega) (by omega)).mono ?_
      rintro e w6 ⟨ad6, cap6, rfl, ho6, kp6⟩
      have HO6 := Lib.hid ho6
      have HOW6 := Lib.hid (HOW.out.keep0 kp6)
      have HK6 := Lib.hid (HK.out.tr kp6)
      have hs6 := HK6.out.size
      clear ho6 kp6 q0 hx1 hw64
      have e0 : bytA l k ++ le sq 2 = bytB l c 0 := by rw [bytB_zero, HN.out, ← HSRT.out, HSQ.out]; rfl
      have HE0 := Lib.hid e0
      clear e0
      go_wp2_with (at_builtin; refine wpList_app rfl (.tmp 43) (.tmp 48) 39 39 rfl w3.heap.size 5 .u8 1 Try.underlying39 infoU8 ad' cap' m (bytA l k) HL.out (le sq 2) _ 2 (le_length _ _).symm rfl rfl HOW6.out (by have := src_rd HO6.out.rd (tx := 39) (e' := 5) Try.underlying39; rw [le_length] at this; exact this) (by omega) (by omega) hs6 ?_; intro ad9 cap9 w9 ho9 kp9 hob9 _; have HO9 : Hid (Own w9 w3.heap.size 5 .u8 ad9 cap9 (bytB l c 0)) := Lib.hid (HE0.out ▸ ho9); have HK9 := Lib.hid (HK6.out.trans kp9 (U := []) (by simp) (fun y hy => .inr (HOW6.out.ob_ge y hy).1)); clear ho9 kp9 hob9)
      have HL9 : Hid (m + 2 = (bytB l c 0).length) := Lib.hid (by rw [← HE0.out, List.length_append, le_length, ← HL.out])
      go_loopw [5, 7, 8] (fun vb vi _ wj => ∃ (j mj : Nat) (adj : Option Addr) (capj : Nat), j ≤ k ∧ vi = .int .i64 j ∧ vb = .slice adj mj capj ∧ mj ≤ 4 + 66 * k + j ∧ Hid (mj = (bytB l c j).length) ∧ Hid (Own wj w3.heap.size 5 .u8 adj capj (bytB l c j)) ∧ Hid (Kp [] w3 wj)) (fun _ vi _ _ => k - (intOf vi).toNat)
      case atStart => exact ⟨0, m + 2, ad9, cap9, Nat.zero_le _, rfl, rfl, by omega, HL9, HO9, HK9⟩
      case round =>
        obtain ⟨j, mj, adj, capj, hj, rfl, rfl, hmj, HLJ, HOJ, HKJ⟩ := hrel
        obtain ⟨wj, rfl⟩ : ∃ wj, wj = wr := ⟨_, rfl⟩
        by_cases hltj : j < k
        · have r1 := HKJ.out.cell HQ1.out (by simp)
          have r2 := HKJ.out.cell HQ2.out (by simp)
          have hsj := HKJ.out.size
          go_wp2_with fail
          refine (r17Has_any _ _ _ c.inv _ HNI.out _ (HCI.out.keep0 (HK3.out.tr HKJ.out))).mono ?_
          rintro e w8 ⟨rfl, h8⟩
          subst w8
          cases hb1 : hasB c.inv (j : Nat) with
          | true =>
            have HB1 := Lib.hid hb1
            clear hb1
            go_wp2_with fail
            refine (r17Has_any _ _ _ c.rng _ HNR.out _ (HCR.out.keep0 (HK3.out.tr HKJ.out))).mono ?_
            rintro e w8 ⟨rfl, h8⟩
            subst w8
            cases hb2 : hasB c.rng (j : Nat) with
            | true =>
              have HB2 := Lib.hid hb2
              clear hb2
              go_wp2_with (at_builtin; refine wpList_app rfl (.tmp 68) (.tmp 70) 39 39 rfl w3.heap.size 5 .u8 1 Try.underlying39 infoU8 adj capj mj (bytB l c j) HLJ.out [(3 : Int)] _ 1 rfl rfl rfl (HOJ.out.alloc _) (src_one Try.underlying39 (World.cell?_alloc_at _ _ _ _ rfl)) (by omega) (by omega) (by simp; omega) ?_; intro ad9 cap9 w9 ho9 kp9 hob9 _; have HO9 := Lib.hid ho9; have HK9 := Lib.hid ((HKJ.out.alloc _).trans kp9 (U := []) (by simp) (fun y hy => .inr (HOJ.out.ob_ge y hy).1)); clear ho9 kp9 hob9)
              go_roundw
              case rel =>
                have eF : flagN c j = 3 := by rw [flagN, HB1.out, HB2.out]; rfl
                exact ⟨j + 1, mj + 1, ad9, cap9, hltj, by go_num, rfl, by omega, Lib.hid (by rw [bytB_step, List.length_append, ← HLJ.out]; rfl), Lib.hid (by rw [bytB_step, eF]; exact HO9.out), HK9⟩
              case measure => simp [intOf]; omega
            | false =>
              have HB2 := Lib.hid hb2
              clear hb2
              go_wp2_with (at_builtin; refine wpList_app rfl (.tmp 68) (.tmp 70) 39 39 rfl w3.heap.size 5 .u8 1 Try.underlying39 infoU8 adj capj mj (bytB l c j) HLJ.out [(1 : Int)] _ 1 rfl rfl rfl (HOJ.out.alloc _) (src_one Try.underlying39 (World.cell?_alloc_at _ _ _ _ rfl)) (by omega) (by omega) (by simp; omega) ?_; intro ad9 cap9 w9 ho9 kp9 hob9 _; have HO9 := Lib.hid ho9; have HK9 := Lib.hid ((HKJ.out.alloc _).trans kp9 (U := []) (by simp) (fun y hy => .inr (HOJ.out.ob_ge y hy).1)); clear ho9 kp9 hob9)
              go_roundw
              case rel =>
                have eF : flagN c j = 1 := by rw [flagN, HB1.out, HB2.out]; rfl
                exact ⟨j + 1, mj + 1, ad9, cap9, hltj, by go_num, rfl, by omega, Lib.hid (by rw [bytB_step, List.length_append, ← HLJ.out]; rfl), Lib.hid (by rw [bytB_step, eF]; exact HO9.out), HK9⟩
              case measure => simp [intOf]; omega
          | false =>
            have HB1 := Lib.hid hb1
            clear hb1
            go_wp2_with fail
            refine (r17Has_any _ _ _ c.rng _ HNR.out _ (HCR.out.keep0 (HK3.out.tr HKJ.out))).mono ?_
            rintro e w8 ⟨rfl, h8⟩
            subst w8
            cases hb2 : hasB c.rng (j : Nat) with
            | true =>
              have HB2 := Lib.hid hb2
              clear hb2
              go_wp2_with (at_builtin; refine wpList_app rfl (.tmp 68) (.tmp 70) 39 39 rfl w3.heap.size 5 .u8 1 Try.underlying39 infoU8 adj capj mj (bytB l c j) HLJ.out [(2 : Int)] _ 1 rfl rfl rfl (HOJ.out.alloc _) (src_one Try.underlying39 (World.cell?_alloc_at _ _ _ _ rfl)) (by omega) (by omega) (by simp; omega) ?_; intro ad9 cap9 w9 ho9 kp9 hob9 _; have HO9 := Lib.hid ho9; have HK9 := Lib.hid ((HKJ.out.alloc _).trans kp9 (U := []) (by simp) (fun y hy => .inr (HOJ.out.ob_ge y hy).1)); clear ho9 kp9 hob9)
              go_roundw
              case rel =>
                have eF : flagN c j = 2 := by rw [flagN, HB1.out, HB2.out]; rfl
                exact ⟨j + 1, mj + 1, ad9, cap9, hltj, by go_num, rfl, by omega, Lib.hid (by rw [bytB_step, List.length_append, ← HLJ.out]; rfl), Lib.hid (by rw [bytB_step, eF]; exact HO9.out), HK9⟩
              case measure => simp [intOf]; omega
            | false =>
              have HB2 := Lib.hid hb2
              clear hb2
              go_wp2_with (at_builtin; refine wpList_app rfl (.tmp 68) (.tmp 70) 39 39 rfl w3.heap.size 5 .u8 1 Try.underlying39 infoU8 adj capj mj (bytB l c j) HLJ.out [(0 : Int)] _ 1 rfl rfl rfl (HOJ.out.alloc _) (src_one Try.underlying39 (World.cell?_alloc_at _ _ _ _ rfl)) (by omega) (by omega) (by simp; omega) ?_; intro ad9 cap9 w9 ho9 kp9 hob9 _; have HO9 := Lib.hid ho9; have HK9 := Lib.hid ((HKJ.out.alloc _).trans kp9 (U := []) (by simp) (fun y hy => .inr (HOJ.out.ob_ge y hy).1)); clear ho9 kp9 hob9)
              go_roundw
              case rel =>
                have eF : flagN c j = 0 := by rw [flagN, HB1.out, HB2.out]; rfl
                exact ⟨j + 1, mj + 1, ad9, cap9, hltj, by go_num, rfl, by omega, Lib.hid (by rw [bytB_step, List.length_append, ← HLJ.out]; rfl), Lib.hid (by rw [bytB_step, eF]; exact HO9.out), HK9⟩
              case measure => simp [intOf]; omega
        · obtain rfl : j = k := by omega
          have r3 := HKJ.out.cell HQ3.out (by simp)
          have hsj := HKJ.out.size
          have hx2 : IntKind.u8.wrap (ns : Int) = (ns : Int) := IntWalk.u8_in _ (by omega)
          go_wp2_with (at_builtin; refine wpList_app rfl (.tmp 72) (.tmp 77) 39 39 rfl w3.heap.size 5 .u8 1 Try.underlying39 infoU8 adj capj mj (bytB l c j) HLJ.out [(ns : Int)] _ 1 rfl rfl rfl (HOJ.out.alloc _) (src_one Try.underlying39 (World.cell?_alloc_at _ _ _ _ rfl)) (by omega) (by omega) (by simp; omega) ?_; intro ad9 cap9 w9 ho9 kp9 hob9 _; have HO9 := Lib.hid ho9; have HK9 := Lib.hid ((HKJ.out.alloc _).trans kp9 (U := []) (by simp) (fun y hy => .inr (HOJ.out.ob_ge y hy).1)); have t3 := HK9.out.cell HQ3.out (by simp); clear ho9 kp9 hob9 r3)
          have eS : bytB l c j ++ [(ns : Int)] = bytS l c 0 := by rw [bytS_zero, ← HN.out, ← HNS.out]
          have HL9 : Hid (mj + 1 = (bytS l c 0).length) := Lib.hid (by rw [← eS, List.length_append, ← HLJ.out]; rfl)
          have HO10 : Hid (Own w9 w3.heap.size 5 .u8 ad9 cap9 (bytS l c 0)) := Lib.hid (by rw [← eS]; exact HO9.out)
          clear eS
          go_loopw [5, 9] (fun vb vi wi => ∃ (i mi : Nat) (adi : Option Addr) (capi : Nat), i ≤ ns ∧ vi = .int .i64 i ∧ vb = .slice adi mi capi ∧ mi ≤ 5 + 67 * j + 2 * i ∧ Hid (mi = (bytS l c i).length) ∧ Hid (Own wi w3.heap.size 5 .u8 adi capi (bytS l c i)) ∧ Hid (Kp [] w3 wi)) (fun _ vi _ => ns - (intOf vi).toNat)
          case atStart => exact ⟨0, mj + 1, ad9, cap9, Nat.zero_le _, rfl, rfl, by omega, HL9, HO10, HK9⟩
          case round =>
            clear t3
            obtain ⟨i, mi, adi, capi, hi, rfl, rfl, hmi, HLI, HOI, HKI⟩ := hrel
            obtain ⟨wi, rfl⟩ : ∃ wi, wi = wr := ⟨_, rfl⟩
            have r3 := HKI.out.cell HQ3.out (by simp)
            have hsi := HKI.out.size
            by_cases hlti : i < ns
            · have hkl : i < c.spl.length := by rw [← HNS.out]; exact hlti
              obtain ⟨b, off, hab, c0⟩ := (HCS.out.keep0 (HK3.out.tr HKI.out)).2.2 i hkl
              subst hab
              have hz := HFT.out.spl i hkl
              rw [← HN.out] at hz
              have HST := Lib.hid (bytS_step l c i hkl)
              obtain ⟨z, hzz⟩ : ∃ z : Nat, nth c.spl i = (z : Int) := ⟨(nth c.spl i).toNat, by omega⟩
              rw [hzz] at c0 hz
              have HZZ := Lib.hid hzz
              have hz2 : z < 256 := by omega
              clear hz hkl hzz
              have hx3 : IntKind.u64.wrap (z : Int) = (z : Int) := IntWalk.u64_in _ (by omega)
              go_wp2_with fail
              refine (little_any z 2 _ (by omega) (by omega)).mono ?_
              rintro e w5 ⟨ad5, cap5, rfl, ho5, kp5⟩
              have HO5 := Lib.hid ho5
              have HOI5 := Lib.hid (HOI.out.keep0 kp5)
              have HK5 := Lib.hid (HKI.out.tr kp5)
              have hs5 := HK5.out.size
              clear ho5 kp5
              have HST2 : Hid (bytS l c (i + 1) = bytS l c i ++ le z 2) := Lib.hid (by rw [HST.out, HZZ.out]; rfl)
              go_wp2_with (at_builtin; refine wpList_app rfl (.tmp 86) (.tmp 93) 39 39 rfl w3.heap.size 5 .u8 1 Try.underlying39 infoU8 adi capi mi (bytS l c i) HLI.out (le z 2) _ 2 (le_length _ _).symm rfl rfl HOI5.out (by have := src_rd HO5.out.rd (tx := 39) (e' := 5) Try.underlying39; rw [le_length] at this; exact this) (by omega) (by omega) hs5 ?_; intro ad9 cap9 w9 ho9 kp9 hob9 _; have HO9 := Lib.hid ho9; have HK9 := Lib.hid (HK5.out.trans kp9 (U := []) (by simp) (fun y hy => .inr (HOI5.out.ob_ge y hy).1)); clear ho9 kp9 hob9)
              go_roundw
              case rel => exact ⟨i + 1, mi + 2, ad9, cap9, hlti, by go_num, rfl, by omega, Lib.hid (by rw [HST2.out, List.length_append, le_length, ← HLI.out]), Lib.hid (by rw [HST2.out]; exact HO9.out), HK9⟩
              case measure => simp [intOf]; omega
            · obtain rfl : i = ns := by omega
              have r4 := HKI.out.cell HQ4.out (by simp)
              have hx4 : IntKind.u64.wrap leaf = (lf : Int) := by rw [HLF.out]; exact IntWalk.u64_in _ (by have := HLF.out; omega)
              have hlb : lf ≤ 1000000 := by have := HLF.out; omega
              go_wp2_with fail
              try rw [HLF.out]
              refine (little_any lf 4 _ (by omega) (by omega)).mono ?_
              rintro e w5 ⟨ad5, cap5, rfl, ho5, kp5⟩
              have HO5 := Lib.hid ho5
              have HOI5 := Lib.hid (HOI.out.keep0 kp5)
              have HK5 := Lib.hid (HKI.out.tr kp5)
              have hs5 := HK5.out.size
              have e5 : bytS l c i ++ le lf 4 = bytC l c := by rw [bytC, ← HNS.out, ← HLEAF.out, HLF.out]; rfl
              have HE5 := Lib.hid e5
              clear ho5 kp5 e5
              go_wp2_with (at_builtin; refine wpList_app rfl (.tmp 95) (.tmp 99) 39 39 rfl w3.heap.size 5 .u8 1 Try.underlying39 infoU8 adi capi mi (bytS l c i) HLI.out (le lf 4) _ 4 (le_length _ _).symm rfl rfl HOI5.out (by have := src_rd HO5.out.rd (tx := 39) (e' := 5) Try.underlying39; rw [le_length] at this; exact this) (by omega) (by omega) hs5 ?_; intro ad9 cap9 w9 ho9 kp9 hob9 _; have HO9 := Lib.hid ho9; have HK9 := Lib.hid (HK5.out.trans kp9 (U := []) (by simp) (fun y hy => .inr (HOI5.out.ob_ge y hy).1)); clear ho9 kp9 hob9)
              go_ret
              refine ⟨ad9, cap9, ?_, ?_, HK3.out.tr HK9.out⟩
              · rw [← HE5.out, List.length_append, le_length, ← HLI.out]; rfl
              · rw [← HE5.out]; exact HO9.out.mono HK3.out.size
end Go.Proofs.Ytegnobdablbahaa
