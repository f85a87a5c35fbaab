/-
  Schema: the bytes that package schema tells.
-/
import Derived.Test.YtegnobdablbahaaSch9
import Derived.Test.YtegnobdablbahaaRegionR
import Derived.Test.YtegnobdablbahaaCurW
import Derived.Deep.DeepCutAuto
namespace Go.Proofs.Ytegnobdablbahaa
open Go.RowKit
set_option linter.unusedSimpArgs false
set_option linter.unusedVariables false

set_option maxHeartbeats 3200000 in
set_option maxRecDepth 100000 in
theorem sBytes_any (ad : Option Addr) (cap n : Nat) (l : List Col) (hn : n = l.length) (c : Cfg) (w : World) (h : RdC w ad cap l) (ho : COk l) (hc : RdCfg w c) :
    Calls Try.prog 27 #[.slice ad n cap, cfgV c] w fun e w' => ∃ ad' cap', e = .returned (.tuple #[.slice ad' (wrC l c).length cap', .int .i64 (errC l c)]) ∧ Own w' w.heap.size 5 .u8 ad' cap' (wrC l c) ∧ Kp [] w w' := by
  have H := Lib.hid h
  have HN := Lib.hid hn
  have HO := Lib.hid ho
  have HC := Lib.hid hc
  have hcap := h.1
  rw [← hn] at hcap
  have hcap2 := h.2.1
  clear h hn ho hc
  obtain ⟨ni, hni⟩ : ∃ ni, ni = c.inv.length := ⟨_, rfl⟩
  obtain ⟨nr, hnr⟩ : ∃ nr, nr = c.rng.length := ⟨_, rfl⟩
  obtain ⟨ns, hns⟩ : ∃ ns, ns = c.spl.length := ⟨_, rfl⟩
  have HNI := Lib.hid hni
  have HNR := Lib.hid hnr
  have HNS := Lib.hid hns
  have HVL : Hid (cfgV c = .agg #[.int .i64 c.srt, .slice c.ia ni c.ic, .slice c.ra nr c.rc, .slice c.sa ns c.sc, .int .i64 c.leaf]) := Lib.hid (by rw [hni, hnr, hns]; rfl)
  clear hni hnr hns
  obtain ⟨srt, hsrt⟩ : ∃ z, z = c.srt := ⟨_, rfl⟩
  obtain ⟨leaf, hleaf⟩ : ∃ z, z = c.leaf := ⟨_, rfl⟩
  rw [← hsrt, ← hleaf] at HVL
  have HSRT := Lib.hid hsrt
  have HLEAF := Lib.hid hleaf
  clear hsrt hleaf
  obtain ⟨ia, ic, hia⟩ : ∃ a b, a = c.ia ∧ b = c.ic := ⟨_, _, rfl, rfl⟩
  obtain ⟨ra, rc, hra⟩ : ∃ a b, a = c.ra ∧ b = c.rc := ⟨_, _, rfl, rfl⟩
  obtain ⟨sa, sc, hsa⟩ : ∃ a b, a = c.sa ∧ b = c.sc := ⟨_, _, rfl, rfl⟩
  rw [← hia.1, ← hia.2, ← hra.1, ← hra.2, ← hsa.1, ← hsa.2] at HVL
  have HCI : Hid (RdB w ia ic c.inv) := Lib.hid (by rw [hia.1, hia.2]; exact HC.out.1)
  have HCR : Hid (RdB w ra rc c.rng) := Lib.hid (by rw [hra.1, hra.2]; exact HC.out.2.1)
  have HCS : Hid (Rd w .i64 sa sc c.spl) := Lib.hid (by rw [hsa.1, hsa.2]; exact HC.out.2.2)
  clear hia hra hsa
  have hs1 := HCS.out.1
  have hs2 := HCS.out.2.1
  rw [← HNS.out] at hs1
  have HFIT := fun w2 (k2 : Kp [] w w2) => sFits_any ad cap n l HN.out c w2 (H.out.keep0 k2) HO.out (HC.out.keep0 k2)
  rw [HVL.out] at HFIT
  have HF := Lib.hid HFIT
  clear HFIT
  rw [HVL.out]
  go_enter Try.func27, Try.ntmps27
  go_upto_region 1 with (fail)
  generalize hw2 : w.alloc _ = w2
  have p0 : w2.cell? ⟨w.heap.size, 0, none⟩ = some (.int .i64 srt) := by rw [← hw2]; simp
  have p1 : w2.cell? ⟨w.heap.size, 1, none⟩ = some (.slice ia ni ic) := by rw [← hw2]; simp
  have p2 : w2.cell? ⟨w.heap.size, 2, none⟩ = some (.slice ra nr rc) := by rw [← hw2]; simp
  have p3 : w2.cell? ⟨w.heap.size, 3, none⟩ = some (.slice sa ns sc) := by rw [← hw2]; simp
  have p4 : w2.cell? ⟨w.heap.size, 4, none⟩ = some (.int .i64 leaf) := by rw [← hw2]; simp
  have HK2 := Lib.hid (show Kp [] w w2 by rw [← hw2]; exact (Kp.refl [] w).alloc _)
  clear hw2
  go_wp2_with fail
  refine (HF.out _ HK2.out).mono ?_
  rintro e w3 ⟨rfl, kp3⟩
  have q0 := kp3.cell p0 (by simp)
  have q1 := kp3.cell p1 (by simp)
  have q2 := kp3.cell p2 (by simp)
  have q3 := kp3.cell p3 (by simp)
  have q4 := kp3.cell p4 (by simp)
  have HK3 := Lib.hid (HK2.out.tr kp3)
  clear kp3 p0 p1 p2 p3 p4
  cases hf : fitsC l c with
  | false =>
    have e1 : wrC l c = [] := by rw [wrC, hf]; rfl
    have e2 : errC l c = 2 := by rw [errC, hf]; rfl
    go_wp2_with fail
    go_ret2
    exact ⟨none, 0, by rw [e1, e2]; rfl, by rw [e1]; exact Own.nil _ _ _ _, HK3.out⟩
  | true =>
  have HV : Hid (wrC l c = bytC l c) := Lib.hid (by rw [wrC, hf]; rfl)
  have HE : Hid (errC l c = 0) := Lib.hid (by rw [errC, hf]; rfl)
  have HFT := Lib.hid (fitsC_ok hf)
  clear hf
  have hn1 : 1 ≤ n ∧ n ≤ 256 := by rw [HN.out]; exact HFT.out.n
  have hns8 : ns ≤ 8 := by rw [HNS.out]; exact HFT.out.ns
  have hsr : -1 ≤ srt ∧ srt < (n : Int) := by rw [HN.out, HSRT.out]; exact HFT.out.srt
  have hlf : 1 ≤ leaf ∧ leaf ≤ 1000000 := by rw [HLEAF.out]; exact HFT.out.leaf
  have hw16 : IntKind.u16.wrap (n : Int) = (n : Int) := by rw [IntWalk.u16_in _ (by omega)]
  go_wp2_with fail
  refine (appU16_any none 0 0 (n : Int) [] rfl _ (Own.nil w3 0 5 .u8).rd (by omega) (by omega) (by omega)).mono ?_
  rintro e w4 ⟨ad4, cap4, rfl, ho4, kp4⟩
  rw [Int.toNat_natCast, List.nil_append] at ho4
  have HO4 := Lib.hid ho4
  have HK4 := Lib.hid kp4
  have HQ0 := Lib.hid q0
  have HQ1 := Lib.hid q1
  have HQ2 := Lib.hid q2
  have HQ3 := Lib.hid q3
  have HQ4 := Lib.hid q4
  have hbl : w.heap.size < w3.heap.size := World.block_lt_of_cell? _ _ q0
  clear ho4 kp4 q0 q1 q2 q3 q4
  go_wp2_with fail
  go_loopw [6, 8, 23] (fun vb _ vi wr => ∃ (k m : Nat) (ad' : Option Addr) (cap' : Nat), k ≤ n ∧ vi = .int .i64 k ∧ vb = .slice ad' m cap' ∧ m ≤ 2 + 66 * k ∧ Hid (m = (bytA l k).length) ∧ Hid (Own wr w3.heap.size 5 .u8 ad' cap' (bytA l k)) ∧ Hid (Kp [] w3 wr)) (fun _ _ vi _ => n - (intOf vi).toNat)
  case atStart => exact ⟨0, 2, ad4, cap4, Nat.zero_le _, rfl, rfl, by omega, Lib.hid (by rw [bytA_zero, le_length]), Lib.hid (by rw [bytA_zero, ← HN.out]; exact HO4.out), HK4⟩
  case round =>
    obtain ⟨k, m, ad', cap', hk, rfl, rfl, hm, HL, HOW, HK⟩ := hrel
    by_cases hlt : k < n
    · have hkl : k < l.length := by rw [← HN.out]; exact hlt
      obtain ⟨b, off, rfl, c0, c1⟩ := (H.out.keep0 (HK3.out.tr HK.out)).atC k hkl
      obtain ⟨hz1, hz2, hz3, hz4⟩ := HFT.out.col k hkl
      have hst := bytA_step l k hkl
      obtain ⟨x, hx⟩ : ∃ x, x = atC l k := ⟨_, rfl⟩
      rw [← hx] at c0 c1 hz1 hz2 hz3 hz4 hst
      have HST := Lib.hid hst
      have HXX := Lib.hid hx
      clear hx hkl hst
      have hni : wr.heap.size ∉ ob ad' cap' := fun hb => by have := (HOW.out.ob_ge _ hb).2; omega
      go_upto_region 7 with (fail)
      generalize hw5 : wr.alloc _ = w5
      have d0 : w5.heap[wr.heap.size]? = some (.cells #[.string x.nm, .int .u8 x.kd] 38) := by rw [← hw5]; exact heap_alloc_at rfl
      have kp5 : Kp [] wr w5 := by rw [← hw5]; exact (Kp.refl [] wr).alloc _
      have HO5 := Lib.hid (HOW.out.keep0 kp5)
      have HK5 := Lib.hid (HK.out.tr kp5)
      have hws : wr.heap.size < w5.heap.size := lt_of_heap d0
      have HD0 : Hid (w5.cell? ⟨wr.heap.size, 0, none⟩ = some (.string x.nm)) := Lib.hid (by rw [cell_of_row w5 _ 0 _ _ _ d0]; rfl)
      have HD1 : Hid (w5.cell? ⟨wr.heap.size, 1, none⟩ = some (.int .u8 x.kd)) := Lib.hid (by rw [cell_of_row w5 _ 1 _ _ _ d0]; rfl)
      have hS : ∀ y ∈ ob ad' cap', y < w5.heap.size := fun y hy => (HO5.out.ob_ge y hy).2
      have hs5 := HK5.out.size
      clear hw5 d0 c0 c1 kp5
      have eB : bytA l k ++ [x.kd, (x.nm.size : Int)] ++ sbytes x.nm = bytA l k ++ colB x := by rw [colB, List.append_assoc]
      have HEB := Lib.hid eB
      clear eB
      have hS0 : ∀ y ∈ ([] : List Nat), y < w5.heap.size := by simp
      by_cases hroom : m + 2 ≤ cap'
      · have HNI := hni
        refine wp_region_GS (by kernel_rfl) (ob ad' cap') [.val (.slice ad' m cap'), .val (.pointer (some ⟨wr.heap.size, 1, none⟩)), .val (.int .u8 x.kd), .val (.pointer (some ⟨wr.heap.size, 0, none⟩)), .val (.string x.nm), .val (.int .i64 (x.nm.size : Int)), .val (.int .u8 (x.nm.size : Int)), .own w5.heap.size hS 5 .u8 2 [x.kd, (x.nm.size : Int)], .val (.slice ad' (m + 2) cap'), .val (.pointer (some ⟨wr.heap.size, 0, none⟩)), .val (.string x.nm)] [[(6, none)], [(8, none)], [(28, some 1)], [(8, none)], [(30, some 3)], [(31, some 4)], [(32, some 5)], [(29, some 2), (33, some 6)], [(27, some 0), (34, some 7)], [(8, none)], [(36, some 9)]] [8] (fun j wx => Own wx w3.heap.size 5 .u8 ad' cap' (bytA l k ++ [x.kd, (x.nm.size : Int)].take (2 * j))) 11 rfl (by kernel_rfl) (by kernel_rfl) (by kernel_rfl) (by kernel_rfl) (by kernel_rfl) (by simp) (fun _ _ _ h k => h.keep0 k) (by rw [Nat.mul_zero, List.take_zero, List.append_nil]; exact HO5.out) ?_ ?_
        · refine (ObG.free rfl ?o0 (ObG.free rfl ?o1 (ObG.free rfl ?o2 (ObG.free rfl ?o3 (ObG.free rfl ?o4 (ObG.free rfl ?o5 (ObG.free rfl ?o6 (ObG.free rfl ?o7 (ObG.chain 0 rfl ?o8 (ObG.free rfl ?o9 (ObG.free rfl ?o10 trivial)))))))))))
          case o0 => intro aR wR mR hR hI; replace hR := hR.undrew; intro (h6 : aR.tmps[6]? = some (.slice ad' m cap')); exact exec_val (c := .slice ad' m cap') (wanted_none rfl) (by go_simp) rfl
          case o1 => intro aR wR mR hR hI; replace hR := hR.undrew; intro (h8 : aR.tmps[8]? = some (.pointer (some ⟨wr.heap.size, 0, none⟩))); exact exec_val (c := .pointer (some ⟨wr.heap.size, 1, none⟩)) (wanted_none rfl) (by go_simp) rfl
          case o2 => intro aR wR mR hR hI; replace hR := hR.undrew; intro v28 h28 e28; replace e28 : v28 = .pointer (some ⟨wr.heap.size, 1, none⟩) := e28; subst e28; (have hc := hR.cell HD1.out HNI); exact exec_val (c := .int .u8 x.kd) (wanted_none rfl) (by go_simp) rfl
          case o3 => intro aR wR mR hR hI; replace hR := hR.undrew; intro (h8 : aR.tmps[8]? = some (.pointer (some ⟨wr.heap.size, 0, none⟩))); exact exec_val (c := .pointer (some ⟨wr.heap.size, 0, none⟩)) (wanted_none rfl) (by go_simp) rfl
          case o4 => intro aR wR mR hR hI; replace hR := hR.undrew; intro v30 h30 e30; replace e30 : v30 = .pointer (some ⟨wr.heap.size, 0, none⟩) := e30; subst e30; (have hc := hR.cell HD0.out HNI); exact exec_val (c := .string x.nm) (wanted_none rfl) (by go_simp) rfl
          case o5 => intro aR wR mR hR hI; replace hR := hR.undrew; intro v31 h31 e31; replace e31 : v31 = .string x.nm := e31; subst e31; (skip); exact exec_val (c := .int .i64 (x.nm.size : Int)) (wanted_none rfl) (by go_simp) rfl
          case o6 => intro aR wR mR hR hI; replace hR := hR.undrew; intro v32 h32 e32; replace e32 : v32 = .int .i64 (x.nm.size : Int) := e32; subst e32; (have ex := IntWalk.u8_in (x.nm.size : Int) (by omega)); exact exec_val (c := .int .u8 (x.nm.size : Int)) (wanted_none rfl) (by go_simp) rfl
          case o7 => intro aR wR mR hR hI; replace hR := hR.undrew; intro v29 h29 e29; replace e29 : v29 = .int .u8 x.kd := e29; subst e29; intro v33 h33 e33; replace e33 : v33 = .int .u8 (x.nm.size : Int) := e33; subst e33; exact exec_do (c := .slice (some ⟨wR.heap.size, 0, none⟩) 2 2) (w' := wR.alloc (.cells #[.int .u8 x.kd, .int .u8 (x.nm.size : Int)] 5)) (wanted_none rfl) (by go_simp) ⟨_, _, rfl, .inr ⟨_, _, rfl, hR.size, heap_alloc_at rfl, rfl, by simp, by omega, rfl⟩⟩ ((Kp.refl [] _).alloc _)
          case o8 => intro aR wR hR hI; replace hR := hR.undrew; intro v27 h27 e27; replace e27 : v27 = .slice ad' m cap' := e27; subst e27; intro v34 h34 e34; obtain ⟨ad9, cap9, rfl, ho9⟩ := e34; have hIO : Own wR w3.heap.size 5 .u8 ad' cap' (bytA l k) := (by simpa using hI); exact exec_roomS (wanted_none rfl) (.tmp 27) (.tmp 34) 39 39 rfl w3.heap.size 5 .u8 1 Try.underlying39 infoU8 ad' cap' m (bytA l k) HL.out [x.kd, (x.nm.size : Int)] (.slice ad9 2 cap9) 2 rfl (by go_simp) (by go_simp) hIO (src_rd ho9.rd Try.underlying39) hroom (fun w' g1 g2 => ⟨rfl, g2, g1⟩)
          case o9 => intro aR wR mR hR hI; replace hR := hR.undrew; intro (h8 : aR.tmps[8]? = some (.pointer (some ⟨wr.heap.size, 0, none⟩))); exact exec_val (c := .pointer (some ⟨wr.heap.size, 0, none⟩)) (wanted_none rfl) (by go_simp) rfl
          case o10 => intro aR wR mR hR hI; replace hR := hR.undrew; intro v36 h36 e36; replace e36 : v36 = .pointer (some ⟨wr.heap.size, 0, none⟩) := e36; subst e36; (have hc := hR.cell HD0.out HNI); exact exec_val (c := .string x.nm) (wanted_none rfl) (by go_simp) rfl
        · intro vs wR hR hI hV
          obtain ⟨e0, e1, e2, e3, e4, e5, e6, e7, e8, e9, e10, -⟩ := hV
          replace e0 : vs 0 = .slice ad' m cap' := e0
          replace e1 : vs 1 = .pointer (some ⟨wr.heap.size, 1, none⟩) := e1
          replace e2 : vs 2 = .int .u8 x.kd := e2
          replace e3 : vs 3 = .pointer (some ⟨wr.heap.size, 0, none⟩) := e3
          replace e4 : vs 4 = .string x.nm := e4
          replace e5 : vs 5 = .int .i64 (x.nm.size : Int) := e5
          replace e6 : vs 6 = .int .u8 (x.nm.size : Int) := e6
          replace e8 : vs 8 = .slice ad' (m + 2) cap' := e8
          replace e9 : vs 9 = .pointer (some ⟨wr.heap.size, 0, none⟩) := e9
          replace e10 : vs 10 = .string x.nm := e10
          simp only [putAll, List.take_succ_cons, List.take_zero, List.drop_succ_cons, List.drop_zero, e0, e1, e2, e3, e4, e5, e6, e8, e9, e10, Nat.reduceAdd, Nat.zero_add]
          clear e0 e1 e2 e3 e4 e5 e6 e8 e9 e10
          try simp only [List.setIfInBounds_toArray, List.set_cons_succ, List.set_cons_zero]
          have hO7 : Own wR w3.heap.size 5 .u8 ad' cap' (bytA l k ++ [x.kd, (x.nm.size : Int)]) := hI
          have HK7 : Hid (Kp [] w3 wR) := Lib.hid (HK5.out.trans hR (U := []) (by simp) (fun y hy => .inr (HO5.out.ob_ge y hy).1))
          have hs7 := HK7.out.size
          exact wpList_app rfl (.tmp 35) (.tmp 37) 39 9 rfl w3.heap.size 5 .u8 1 Try.underlying39 infoU8 ad' cap' (m + 2) (bytA l k ++ [x.kd, (x.nm.size : Int)]) (by rw [List.length_append, ← HL.out]; rfl) (sbytes x.nm) (.string x.nm) x.nm.size (sbytes_length _).symm rfl rfl hO7 (byteCells_sb x.nm ▸ Src.ofString _ Try.underlying9 x.nm) (by omega) (by omega) hs7 (by
            intro ad9 cap9 w9 ho9 kp9 hob9 _
            have HO9 : Hid (Own w9 w3.heap.size 5 .u8 ad9 cap9 (bytA l k ++ colB x)) := Lib.hid (by rw [← HEB.out]; exact ho9)
            have HK9 := Lib.hid (HK7.out.trans kp9 (U := []) (by simp) (fun y hy => .inr (hO7.ob_ge y hy).1))
            clear ho9 kp9 hob9
            go_wp2_with fail
            go_roundw
            case rel => exact ⟨k + 1, m + 2 + x.nm.size, ad9, cap9, hlt, by go_num, rfl, by omega, Lib.hid (by rw [HST.out, List.length_append, colB_length, ← HL.out]; omega), Lib.hid (by rw [HST.out]; exact HO9.out), HK9⟩
            case measure => simp [intOf]; omega)
      · have hgrow : cap' < m + 2 := by omega
        refine wp_region_GS (by kernel_rfl) [] [.val (.slice ad' m cap'), .val (.pointer (some ⟨wr.heap.size, 1, none⟩)), .val (.int .u8 x.kd), .val (.pointer (some ⟨wr.heap.size, 0, none⟩)), .val (.string x.nm), .val (.int .i64 (x.nm.size : Int)), .val (.int .u8 (x.nm.size : Int)), .own w5.heap.size hS0 5 .u8 2 [x.kd, (x.nm.size : Int)], .own w3.heap.size (by simp) 5 .u8 (m + 2) (bytA l k ++ [x.kd, (x.nm.size : Int)]), .val (.pointer (some ⟨wr.heap.size, 0, none⟩)), .val (.string x.nm)] [[(6, none)], [(8, none)], [(28, some 1)], [(8, none)], [(30, some 3)], [(31, some 4)], [(32, some 5)], [(29, some 2), (33, some 6)], [(27, some 0), (34, some 7)], [(8, none)], [(36, some 9)]] [] (fun _ _ => True) 11 rfl (by kernel_rfl) (by kernel_rfl) (by kernel_rfl) (by kernel_rfl) (by kernel_rfl) (by simp) (fun _ _ _ h _ => h) trivial ?_ ?_
        · refine (ObG.free rfl ?o0 (ObG.free rfl ?o1 (ObG.free rfl ?o2 (ObG.free rfl ?o3 (ObG.free rfl ?o4 (ObG.free rfl ?o5 (ObG.free rfl ?o6 (ObG.free rfl ?o7 (ObG.free rfl ?o8 (ObG.free rfl ?o9 (ObG.free rfl ?o10 trivial)))))))))))
          case o0 => intro aR wR mR hR hI; replace hR := hR.undrew; intro (h6 : aR.tmps[6]? = some (.slice ad' m cap')); exact exec_val (c := .slice ad' m cap') (wanted_none rfl) (by go_simp) rfl
          case o1 => intro aR wR mR hR hI; replace hR := hR.undrew; intro (h8 : aR.tmps[8]? = some (.pointer (some ⟨wr.heap.size, 0, none⟩))); exact exec_val (c := .pointer (some ⟨wr.heap.size, 1, none⟩)) (wanted_none rfl) (by go_simp) rfl
          case o2 => intro aR wR mR hR hI; replace hR := hR.undrew; intro v28 h28 e28; replace e28 : v28 = .pointer (some ⟨wr.heap.size, 1, none⟩) := e28; subst e28; (have hc := hR.cell HD1.out (by simp)); exact exec_val (c := .int .u8 x.kd) (wanted_none rfl) (by go_simp) rfl
          case o3 => intro aR wR mR hR hI; replace hR := hR.undrew; intro (h8 : aR.tmps[8]? = some (.pointer (some ⟨wr.heap.size, 0, none⟩))); exact exec_val (c := .pointer (some ⟨wr.heap.size, 0, none⟩)) (wanted_none rfl) (by go_simp) rfl
          case o4 => intro aR wR mR hR hI; replace hR := hR.undrew; intro v30 h30 e30; replace e30 : v30 = .pointer (some ⟨wr.heap.size, 0, none⟩) := e30; subst e30; (have hc := hR.cell HD0.out (by simp)); exact exec_val (c := .string x.nm) (wanted_none rfl) (by go_simp) rfl
          case o5 => intro aR wR mR hR hI; replace hR := hR.undrew; intro v31 h31 e31; replace e31 : v31 = .string x.nm := e31; subst e31; (skip); exact exec_val (c := .int .i64 (x.nm.size : Int)) (wanted_none rfl) (by go_simp) rfl
          case o6 => intro aR wR mR hR hI; replace hR := hR.undrew; intro v32 h32 e32; replace e32 : v32 = .int .i64 (x.nm.size : Int) := e32; subst e32; (have ex := IntWalk.u8_in (x.nm.size : Int) (by omega)); exact exec_val (c := .int .u8 (x.nm.size : Int)) (wanted_none rfl) (by go_simp) rfl
          case o7 => intro aR wR mR hR hI; replace hR := hR.undrew; intro v29 h29 e29; replace e29 : v29 = .int .u8 x.kd := e29; subst e29; intro v33 h33 e33; replace e33 : v33 = .int .u8 (x.nm.size : Int) := e33; subst e33; exact exec_do (c := .slice (some ⟨wR.heap.size, 0, none⟩) 2 2) (w' := wR.alloc (.cells #[.int .u8 x.kd, .int .u8 (x.nm.size : Int)] 5)) (wanted_none rfl) (by go_simp) ⟨_, _, rfl, .inr ⟨_, _, rfl, hR.size, heap_alloc_at rfl, rfl, by simp, by omega, rfl⟩⟩ ((Kp.refl [] _).alloc _)
          case o8 => intro aR wR mR hR hI; replace hR := hR.undrew; intro v27 h27 e27; replace e27 : v27 = .slice ad' m cap' := e27; subst e27; intro v34 h34 e34; obtain ⟨ad9, cap9, rfl, ho9⟩ := e34; exact exec_growS (wanted_none rfl) (.tmp 27) (.tmp 34) 39 39 rfl w3.heap.size 5 .u8 1 Try.underlying39 infoU8 ad' cap' m (bytA l k) HL.out [x.kd, (x.nm.size : Int)] (.slice ad9 2 cap9) 2 rfl (by go_simp) (by go_simp) (HO5.out.rd.keep0 hR) (src_rd ho9.rd Try.underlying39) hgrow (by omega) (by omega) (Nat.le_trans hs5 hR.size) (fun ad8 cap8 w' g1 g2 => ⟨ad8, cap8, rfl, g1⟩)
          case o9 => intro aR wR mR hR hI; replace hR := hR.undrew; intro (h8 : aR.tmps[8]? = some (.pointer (some ⟨wr.heap.size, 0, none⟩))); exact exec_val (c := .pointer (some ⟨wr.heap.size, 0, none⟩)) (wanted_none rfl) (by go_simp) rfl
          case o10 => intro aR wR mR hR hI; replace hR := hR.undrew; intro v36 h36 e36; replace e36 : v36 = .pointer (some ⟨wr.heap.size, 0, none⟩) := e36; subst e36; (have hc := hR.cell HD0.out (by simp)); exact exec_val (c := .string x.nm) (wanted_none rfl) (by go_simp) rfl
        · intro vs wR hR hI hV
          obtain ⟨e0, e1, e2, e3, e4, e5, e6, e7, e8, e9, e10, -⟩ := hV
          replace e0 : vs 0 = .slice ad' m cap' := e0
          replace e1 : vs 1 = .pointer (some ⟨wr.heap.size, 1, none⟩) := e1
          replace e2 : vs 2 = .int .u8 x.kd := e2
          replace e3 : vs 3 = .pointer (some ⟨wr.heap.size, 0, none⟩) := e3
          replace e4 : vs 4 = .string x.nm := e4
          replace e5 : vs 5 = .int .i64 (x.nm.size : Int) := e5
          replace e6 : vs 6 = .int .u8 (x.nm.size : Int) := e6
          replace e9 : vs 9 = .pointer (some ⟨wr.heap.size, 0, none⟩) := e9
          replace e10 : vs 10 = .string x.nm := e10
          simp only [putAll, List.take_succ_cons, List.take_zero, List.drop_succ_cons, List.drop_zero, e0, e1, e2, e3, e4, e5, e6, e9, e10, Nat.reduceAdd, Nat.zero_add]
          clear e0 e1 e2 e3 e4 e5 e6 e9 e10
          try simp only [List.setIfInBounds_toArray, List.set_cons_succ, List.set_cons_zero]
          simp only [Nat.reduceAdd, Nat.zero_add] at e7 e8
          obtain ⟨adx, capx, -, -⟩ := e7
          obtain ⟨ad7, cap7, hv7, hO7⟩ := e8
          rw [hv7]
          have HK7 : Hid (Kp [] w3 wR) := Lib.hid (HK5.out.tr hR)
          have hs7 := HK7.out.size
          exact wpList_app rfl (.tmp 35) (.tmp 37) 39 9 rfl w3.heap.size 5 .u8 1 Try.underlying39 infoU8 ad7 cap7 (m + 2) (bytA l k ++ [x.kd, (x.nm.size : Int)]) (by rw [List.length_append, ← HL.out]; rfl) (sbytes x.nm) (.string x.nm) x.nm.size (sbytes_length _).symm rfl rfl hO7 (byteCells_sb x.nm ▸ Src.ofString _ Try.underlying9 x.nm) (by omega) (by omega) hs7 (by
            intro ad9 cap9 w9 ho9 kp9 hob9 _
            have HO9 : Hid (Own w9 w3.heap.size 5 .u8 ad9 cap9 (bytA l k ++ colB x)) := Lib.hid (by rw [← HEB.out]; exact ho9)
            have HK9 := Lib.hid (HK7.out.trans kp9 (U := []) (by simp) (fun y hy => .inr (hO7.ob_ge y hy).1))
            clear ho9 kp9 hob9
            go_wp2_with fail
            go_roundw
            case rel => exact ⟨k + 1, m + 2 + x.nm.size, ad9, cap9, hlt, by go_num, rfl, by omega, Lib.hid (by rw [HST.out, List.length_append, colB_length, ← HL.out]; omega), Lib.hid (by rw [HST.out]; exact HO9.out), HK9⟩
            case measure => simp [intOf]; omega)
    · obtain rfl : k = n := by omega
      have q0 := HK.out.cell HQ0.out (by simp)
      have hx1 : IntKind.u16.wrap (srt + 1) = srt + 1 := IntWalk.u16_in _ (by omega)
      go_wp2_with fail
      refine (appU16_any ad' cap' m (srt + 1) (bytA l k) HL.out _ HOW.out.rd (by omega) (by omega) (by omega)).mono ?_
      rintro e w6 ⟨ad6, cap6, rfl, ho6, kp6⟩
      have HK6 := Lib.hid (HK.out.tr kp6)
      have e0 : bytA l k ++ le (srt + 1).toNat 2 = bytB l c 0 := by rw [bytB_zero, HN.out, HSRT.out]
      rw [e0] at ho6
      have HO6 := Lib.hid (ho6.mono HK.out.size)
      have HL6 : Hid (m + 2 = (bytB l c 0).length) := Lib.hid (by rw [← e0, List.length_append, le_length, ← HL.out])
      clear ho6 kp6 e0 q0 hx1 hw16
      go_wp2_with fail
      go_loopw [6, 9, 10, 48] (fun vb _ _ vi wj => ∃ (j mj : Nat) (adj : Option Addr) (capj : Nat), j ≤ k ∧ vi = .int .i64 j ∧ vb = .slice adj mj capj ∧ mj ≤ 4 + 66 * k + j ∧ Hid (mj = (bytB l c j).length) ∧ Hid (Own wj w3.heap.size 5 .u8 adj capj (bytB l c j)) ∧ Hid (Kp [] w3 wj)) (fun _ _ _ vi _ => k - (intOf vi).toNat)
      case atStart => exact ⟨0, m + 2, ad6, cap6, Nat.zero_le _, rfl, rfl, by omega, HL6, HO6, HK6⟩
      case round =>
        obtain ⟨j, mj, adj, capj, hj, rfl, rfl, hmj, HLJ, HOJ, HKJ⟩ := hrel
        obtain ⟨wj, rfl⟩ : ∃ wj, wj = wr := ⟨_, rfl⟩
        by_cases hltj : j < k
        · have r1 := HKJ.out.cell HQ1.out (by simp)
          have r2 := HKJ.out.cell HQ2.out (by simp)
          have hsj := HKJ.out.size
          go_wp2_with fail
          refine (sHas_any _ _ _ c.inv _ HNI.out _ (HCI.out.keep0 (HK3.out.tr HKJ.out))).mono ?_
          rintro e w8 ⟨rfl, h8⟩
          subst w8
          cases hb1 : hasB c.inv (j : Nat) with
          | true =>
            have HB1 := Lib.hid hb1
            clear hb1
            go_wp2_with fail
            refine (sHas_any _ _ _ c.rng _ HNR.out _ (HCR.out.keep0 (HK3.out.tr HKJ.out))).mono ?_
            rintro e w8 ⟨rfl, h8⟩
            subst w8
            cases hb2 : hasB c.rng (j : Nat) with
            | true =>
              have HB2 := Lib.hid hb2
              clear hb2
              go_wp2_with (at_builtin; refine wpList_app rfl (.tmp 61) (.tmp 63) 39 39 rfl w3.heap.size 5 .u8 1 Try.underlying39 infoU8 adj capj mj (bytB l c j) HLJ.out [(3 : Int)] _ 1 rfl rfl rfl (HOJ.out.alloc _) (src_one Try.underlying39 (World.cell?_alloc_at _ _ _ _ rfl)) (by omega) (by omega) (by simp; omega) ?_; intro ad9 cap9 w9 ho9 kp9 hob9 _; have HO9 := Lib.hid ho9; have HK9 := Lib.hid ((HKJ.out.alloc _).trans kp9 (U := []) (by simp) (fun y hy => .inr (HOJ.out.ob_ge y hy).1)); clear ho9 kp9 hob9)
              go_roundw
              case rel =>
                have eF : flagN c j = 3 := by rw [flagN, HB1.out, HB2.out]; rfl
                exact ⟨j + 1, mj + 1, ad9, cap9, hltj, by go_num, rfl, by omega, Lib.hid (by rw [bytB_step, List.length_append, ← HLJ.out]; rfl), Lib.hid (by rw [bytB_step, eF]; exact HO9.out), HK9⟩
              case measure => simp [intOf]; omega
            | false =>
              have HB2 := Lib.hid hb2
              clear hb2
              go_wp2_with (at_builtin; refine wpList_app rfl (.tmp 61) (.tmp 63) 39 39 rfl w3.heap.size 5 .u8 1 Try.underlying39 infoU8 adj capj mj (bytB l c j) HLJ.out [(1 : Int)] _ 1 rfl rfl rfl (HOJ.out.alloc _) (src_one Try.underlying39 (World.cell?_alloc_at _ _ _ _ rfl)) (by omega) (by omega) (by simp; omega) ?_; intro ad9 cap9 w9 ho9 kp9 hob9 _; have HO9 := Lib.hid ho9; have HK9 := Lib.hid ((HKJ.out.alloc _).trans kp9 (U := []) (by simp) (fun y hy => .inr (HOJ.out.ob_ge y hy).1)); clear ho9 kp9 hob9)
              go_roundw
              case rel =>
                have eF : flagN c j = 1 := by rw [flagN, HB1.out, HB2.out]; rfl
                exact ⟨j + 1, mj + 1, ad9, cap9, hltj, by go_num, rfl, by omega, Lib.hid (by rw [bytB_step, List.length_append, ← HLJ.out]; rfl), Lib.hid (by rw [bytB_step, eF]; exact HO9.out), HK9⟩
              case measure => simp [intOf]; omega
          | false =>
            have HB1 := Lib.hid hb1
            clear hb1
            go_wp2_with fail
            refine (sHas_any _ _ _ c.rng _ HNR.out _ (HCR.out.keep0 (HK3.out.tr HKJ.out))).mono ?_
            rintro e w8 ⟨rfl, h8⟩
            subst w8
            cases hb2 : hasB c.rng (j : Nat) with
            | true =>
              have HB2 := Lib.hid hb2
              clear hb2
              go_wp2_with (at_builtin; refine wpList_app rfl (.tmp 61) (.tmp 63) 39 39 rfl w3.heap.size 5 .u8 1 Try.underlying39 infoU8 adj capj mj (bytB l c j) HLJ.out [(2 : Int)] _ 1 rfl rfl rfl (HOJ.out.alloc _) (src_one Try.underlying39 (World.cell?_alloc_at _ _ _ _ rfl)) (by omega) (by omega) (by simp; omega) ?_; intro ad9 cap9 w9 ho9 kp9 hob9 _; have HO9 := Lib.hid ho9; have HK9 := Lib.hid ((HKJ.out.alloc _).trans kp9 (U := []) (by simp) (fun y hy => .inr (HOJ.out.ob_ge y hy).1)); clear ho9 kp9 hob9)
              go_roundw
              case rel =>
                have eF : flagN c j = 2 := by rw [flagN, HB1.out, HB2.out]; rfl
                exact ⟨j + 1, mj + 1, ad9, cap9, hltj, by go_num, rfl, by omega, Lib.hid (by rw [bytB_step, List.length_append, ← HLJ.out]; rfl), Lib.hid (by rw [bytB_step, eF]; exact HO9.out), HK9⟩
              case measure => simp [intOf]; omega
            | false =>
              have HB2 := Lib.hid hb2
              clear hb2
              go_wp2_with (at_builtin; refine wpList_app rfl (.tmp 61) (.tmp 63) 39 39 rfl w3.heap.size 5 .u8 1 Try.underlying39 infoU8 adj capj mj (bytB l c j) HLJ.out [(0 : Int)] _ 1 rfl rfl rfl (HOJ.out.alloc _) (src_one Try.underlying39 (World.cell?_alloc_at _ _ _ _ rfl)) (by omega) (by omega) (by simp; omega) ?_; intro ad9 cap9 w9 ho9 kp9 hob9 _; have HO9 := Lib.hid ho9; have HK9 := Lib.hid ((HKJ.out.alloc _).trans kp9 (U := []) (by simp) (fun y hy => .inr (HOJ.out.ob_ge y hy).1)); clear ho9 kp9 hob9)
              go_roundw
              case rel =>
                have eF : flagN c j = 0 := by rw [flagN, HB1.out, HB2.out]; rfl
                exact ⟨j + 1, mj + 1, ad9, cap9, hltj, by go_num, rfl, by omega, Lib.hid (by rw [bytB_step, List.length_append, ← HLJ.out]; rfl), Lib.hid (by rw [bytB_step, eF]; exact HO9.out), HK9⟩
              case measure => simp [intOf]; omega
        · obtain rfl : j = k := by omega
          have r3 := HKJ.out.cell HQ3.out (by simp)
          have hsj := HKJ.out.size
          have hx2 : IntKind.u8.wrap (ns : Int) = (ns : Int) := IntWalk.u8_in _ (by omega)
          go_wp2_with (at_builtin; refine wpList_app rfl (.tmp 66) (.tmp 71) 39 39 rfl w3.heap.size 5 .u8 1 Try.underlying39 infoU8 adj capj mj (bytB l c j) HLJ.out [(ns : Int)] _ 1 rfl rfl rfl (HOJ.out.alloc _) (src_one Try.underlying39 (World.cell?_alloc_at _ _ _ _ rfl)) (by omega) (by omega) (by simp; omega) ?_; intro ad9 cap9 w9 ho9 kp9 hob9 _; have HO9 := Lib.hid ho9; have HK9 := Lib.hid ((HKJ.out.alloc _).trans kp9 (U := []) (by simp) (fun y hy => .inr (HOJ.out.ob_ge y hy).1)); have t3 := HK9.out.cell HQ3.out (by simp); clear ho9 kp9 hob9 r3)
          have eS : bytB l c j ++ [(ns : Int)] = bytS l c 0 := by rw [bytS_zero, ← HN.out, ← HNS.out]
          have HL9 : Hid (mj + 1 = (bytS l c 0).length) := Lib.hid (by rw [← eS, List.length_append, ← HLJ.out]; rfl)
          have HO10 : Hid (Own w9 w3.heap.size 5 .u8 ad9 cap9 (bytS l c 0)) := Lib.hid (by rw [← eS]; exact HO9.out)
          clear eS
          go_loopw [6, 12, 76] (fun vb _ vi wi => ∃ (i mi : Nat) (adi : Option Addr) (capi : Nat), i ≤ ns ∧ vi = .int .i64 i ∧ vb = .slice adi mi capi ∧ mi ≤ 5 + 67 * j + 2 * i ∧ Hid (mi = (bytS l c i).length) ∧ Hid (Own wi w3.heap.size 5 .u8 adi capi (bytS l c i)) ∧ Hid (Kp [] w3 wi)) (fun _ _ vi _ => ns - (intOf vi).toNat)
          case atStart => exact ⟨0, mj + 1, ad9, cap9, Nat.zero_le _, rfl, rfl, by omega, HL9, HO10, HK9⟩
          case round =>
            obtain ⟨i, mi, adi, capi, hi, rfl, rfl, hmi, HLI, HOI, HKI⟩ := hrel
            obtain ⟨wi, rfl⟩ : ∃ wi, wi = wr := ⟨_, rfl⟩
            by_cases hlti : i < ns
            · have hkl : i < c.spl.length := by rw [← HNS.out]; exact hlti
              obtain ⟨b, off, hab, c0⟩ := (HCS.out.keep0 (HK3.out.tr HKI.out)).2.2 i hkl
              subst hab
              have hz := HFT.out.spl i hkl
              rw [← HN.out] at hz
              have HST := Lib.hid (bytS_step l c i hkl)
              have hz1 := hz.1
              have hz2 := hz.2
              clear hz hkl
              generalize nth c.spl i = z at *
              have hx3 : IntKind.u16.wrap z = z := IntWalk.u16_in _ (by omega)
              go_wp2_with fail
              refine (appU16_any adi capi mi z (bytS l c i) HLI.out _ HOI.out.rd (by omega) (by omega) (by omega)).mono ?_
              rintro e w5 ⟨ad5, cap5, rfl, ho5, kp5⟩
              have HO5 := Lib.hid (ho5.mono HKI.out.size)
              have HK5 := Lib.hid (HKI.out.tr kp5)
              clear ho5 kp5
              go_wp2_with fail
              go_roundw
              case rel => exact ⟨i + 1, mi + 2, ad5, cap5, hlti, by go_num, rfl, by omega, Lib.hid (by rw [HST.out, List.length_append, le_length, ← HLI.out]), Lib.hid (by rw [HST.out]; exact HO5.out), HK5⟩
              case measure => simp [intOf]; omega
            · obtain rfl : i = ns := by omega
              have r4 := HKI.out.cell HQ4.out (by simp)
              have hx4 : IntKind.u32.wrap leaf = leaf := IntWalk.u32_in _ (by omega)
              go_wp2_with fail
              refine (appU32_any adi capi mi leaf (bytS l c i) HLI.out _ HOI.out.rd (by omega) (by omega) (by omega)).mono ?_
              rintro e w5 ⟨ad5, cap5, rfl, ho5, kp5⟩
              have HO5 := Lib.hid (ho5.mono HKI.out.size)
              have HK5 := Lib.hid (HKI.out.tr kp5)
              have e5 : bytS l c i ++ le leaf.toNat 4 = bytC l c := by rw [bytC, ← HNS.out, ← HLEAF.out]
              have HE5 := Lib.hid e5
              clear ho5 kp5 e5
              go_wp2_with fail
              go_ret2
              refine ⟨ad5, cap5, ?_, ?_, HK3.out.tr HK5.out⟩
              · rw [HV.out, HE.out, ← HE5.out, List.length_append, le_length, ← HLI.out]; rfl
              · rw [HV.out, ← HE5.out]; exact HO5.out.mono HK3.out.size
end Go.Proofs.Ytegnobdablbahaa
