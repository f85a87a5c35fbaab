/-
  Schema: the law of what may be.
-/
import Derived.Test.YtegnobdablbahaaSchD
import Derived.Test.YtegnobdablbahaaCols
namespace Go.Proofs.Ytegnobdablbahaa
open Go.RowKit
set_option linter.unusedSimpArgs false
set_option linter.unusedVariables false

theorem great_no {l : List Col} {c : Cfg} (h : greatC l c = false) : l.length ≤ 300 ∧ c.inv.length ≤ 400 ∧ c.rng.length ≤ 400 ∧ c.spl.length ≤ 50 := by
  simp only [greatC, Bool.or_eq_false_iff, decide_eq_false_iff_not] at h; omega
theorem eqCs_self (l : List Col) : eqCs l l = true := (eqCs_iff l l).2 rfl
/-! The contracts, with the configuration written out. -/
section
variable {ad : Option Addr} {cap n : Nat} {l : List Col} {c d : Cfg} {w : World} {cv dv : Value}
theorem great_w (e : cfgV c = cv) (hn : n = l.length) (h : RdC w ad cap l) (ho : COk l) : Calls Try.prog 11 #[.slice ad n cap, cv] w fun e w' => e = .returned (.bool (greatC l c)) ∧ Kp [] w w' := e ▸ r17Great_any ad cap n l hn c w h ho
theorem sfits_w (e : cfgV c = cv) (hn : n = l.length) (h : RdC w ad cap l) (ho : COk l) (hc : RdCfg w c) : Calls Try.prog 16 #[.slice ad n cap, cv] w fun e w' => e = .returned (.bool (fitsC l c)) ∧ Kp [] w w' := e ▸ sFits_any ad cap n l hn c w h ho hc
theorem rfits_w (e : cfgV c = cv) (hn : n = l.length) (h : RdC w ad cap l) (ho : COk l) (hc : RdCfg w c) : Calls Try.prog 17 #[.slice ad n cap, cv] w fun e w' => e = .returned (.bool (fitsC l c)) ∧ Kp [] w w' := e ▸ r17Fits_any ad cap n l hn c w h ho hc
theorem ssame_w (e : cfgV c = cv) (e2 : cfgV d = dv) (hc : RdCfg w c) (hd : RdCfg w d) : Calls Try.prog 24 #[cv, dv] w fun e w' => e = .returned (.bool (sameC c d)) ∧ Kp [] w w' := e ▸ e2 ▸ sSame_any c d w hc hd
theorem rsame_w (e : cfgV c = cv) (e2 : cfgV d = dv) (hc : RdCfg w c) (hd : RdCfg w d) : Calls Try.prog 25 #[cv, dv] w fun e w' => e = .returned (.bool (sameC c d)) ∧ Kp [] w w' := e ▸ e2 ▸ r17Same_any c d w hc hd
theorem copy_w (e : cfgV c = cv) (hc : RdCfg w c) (h1 : c.inv.length ≤ 1000000) (h2 : c.rng.length ≤ 1000000) (h3 : c.spl.length ≤ 1000000) :
    Calls Try.prog 13 #[cv] w fun e w' => ∃ d, e = .returned (cfgV d) ∧ RdCfg w' d ∧ alike c d ∧ Kp [] w w' := e ▸ r17Copy_any c w hc h1 h2 h3
theorem sbytes_w (e : cfgV c = cv) (hn : n = l.length) (h : RdC w ad cap l) (ho : COk l) (hc : RdCfg w c) :
    Calls Try.prog 27 #[.slice ad n cap, cv] w fun e w' => ∃ ad' cap', e = .returned (.tuple #[.slice ad' (wrC l c).length cap', .int .i64 (errC l c)]) ∧ Own w' w.heap.size 5 .u8 ad' cap' (wrC l c) ∧ Kp [] w w' := e ▸ sBytes_any ad cap n l hn c w h ho hc
theorem rbytes_w (e : cfgV c = cv) (hn : n = l.length) (h : RdC w ad cap l) (ho : COk l) (hc : RdCfg w c) (hf : CFit l c) :
    Calls Try.prog 28 #[.slice ad n cap, cv] w fun e w' => ∃ ad' cap', e = .returned (.slice ad' (bytC l c).length cap') ∧ Own w' w.heap.size 5 .u8 ad' cap' (bytC l c) ∧ Kp [] w w' := e ▸ r17Bytes_any ad cap n l hn c w h ho hc hf
end
theorem src_rdC {w : World} {ad : Option Addr} {cap n : Nat} {l : List Col} (hn : n = l.length) (h : RdC w ad cap l) : Src Try.prog 2 22 (.slice ad n cap) n (l.flatMap ccells) w := by
  subst hn
  exact src_rdS (P := Try.prog) clies h (tx := 22) (e' := 38) Try.underlying22

set_option maxHeartbeats 3200000 in
set_option maxRecDepth 100000 in
theorem schemaMay_any (a0 : Option Addr) (cap0 n : Nat) (l : List Col) (hn : n = l.length) (c d : Cfg) (s : ByteArray) (p : Int) (w : World) (h : RdC w a0 cap0 l) (ho : COk l) (hc : RdCfg w c) (hd : RdCfg w d) (hs : s.size ≤ maxLen) :
    Calls Try.prog 3 #[.slice a0 n cap0, cfgV c, cfgV d, .string s, .int .i64 p] w fun e w' => e = .returned (.bool true) ∧ Kp [] w w' := by
  have H := Lib.hid h
  have HN := Lib.hid hn
  have HO := Lib.hid ho
  have HC := Lib.hid hc
  have HD := Lib.hid hd
  have hs2 : s.size ≤ 9223372036854775807 := by unfold maxLen at hs; omega
  clear h hn ho hc hd hs
  obtain ⟨ni, hni⟩ : ∃ ni, ni = c.inv.length := ⟨_, rfl⟩
  obtain ⟨nr, hnr⟩ : ∃ nr, nr = c.rng.length := ⟨_, rfl⟩
  obtain ⟨ns, hns⟩ : ∃ ns, ns = c.spl.length := ⟨_, rfl⟩
  have HVL : Hid (cfgV c = .agg #[.int .i64 c.srt, .slice c.ia ni c.ic, .slice c.ra nr c.rc, .slice c.sa ns c.sc, .int .i64 c.leaf]) := Lib.hid (by rw [hni, hnr, hns]; rfl)
  have HNI := Lib.hid hni
  have HNR := Lib.hid hnr
  have HNS := Lib.hid hns
  clear hni hnr hns
  obtain ⟨ni2, hni2⟩ : ∃ ni, ni = d.inv.length := ⟨_, rfl⟩
  obtain ⟨nr2, hnr2⟩ : ∃ nr, nr = d.rng.length := ⟨_, rfl⟩
  obtain ⟨ns2, hns2⟩ : ∃ ns, ns = d.spl.length := ⟨_, rfl⟩
  have HVL2 : Hid (cfgV d = .agg #[.int .i64 d.srt, .slice d.ia ni2 d.ic, .slice d.ra nr2 d.rc, .slice d.sa ns2 d.sc, .int .i64 d.leaf]) := Lib.hid (by rw [hni2, hnr2, hns2]; rfl)
  have HNI2 := Lib.hid hni2
  have HNR2 := Lib.hid hnr2
  have HNS2 := Lib.hid hns2
  clear hni2 hnr2 hns2
  rw [HVL.out, HVL2.out]
  go_enter Try.func3, Try.ntmps3
  go_upto_region 1 with (fail)
  generalize hw2 : (w.alloc _).alloc _ = w2
  have p0 : w2.cell? ⟨w.heap.size, 0, none⟩ = some (.int .i64 c.srt) := by rw [← hw2]; simp
  have p1 : w2.cell? ⟨w.heap.size, 1, none⟩ = some (.slice c.ia ni c.ic) := by rw [← hw2]; simp
  have p2 : w2.cell? ⟨w.heap.size, 2, none⟩ = some (.slice c.ra nr c.rc) := by rw [← hw2]; simp
  have p3 : w2.cell? ⟨w.heap.size, 3, none⟩ = some (.slice c.sa ns c.sc) := by rw [← hw2]; simp
  have p4 : w2.cell? ⟨w.heap.size, 4, none⟩ = some (.int .i64 c.leaf) := by rw [← hw2]; simp
  have q0 : w2.cell? ⟨(w.heap.size + 1), 0, none⟩ = some (.int .i64 d.srt) := by rw [← hw2]; simp
  have q1 : w2.cell? ⟨(w.heap.size + 1), 1, none⟩ = some (.slice d.ia ni2 d.ic) := by rw [← hw2]; simp
  have q2 : w2.cell? ⟨(w.heap.size + 1), 2, none⟩ = some (.slice d.ra nr2 d.rc) := by rw [← hw2]; simp
  have q3 : w2.cell? ⟨(w.heap.size + 1), 3, none⟩ = some (.slice d.sa ns2 d.sc) := by rw [← hw2]; simp
  have q4 : w2.cell? ⟨(w.heap.size + 1), 4, none⟩ = some (.int .i64 d.leaf) := by rw [← hw2]; simp
  have HK2 := Lib.hid (show Kp [] w w2 by rw [← hw2]; exact ((Kp.refl [] w).alloc _).alloc _)
  have HROW : Hid (w2.heap[w.heap.size]? = some (.cells #[.int .i64 c.srt, .slice c.ia ni c.ic, .slice c.ra nr c.rc, .slice c.sa ns c.sc, .int .i64 c.leaf] 26)) := Lib.hid (by rw [← hw2]; exact cells_alloc (heap_alloc_at rfl))
  clear hw2
  go_cut [26] (fun v26 wx => ∃ g : Bool, v26 = .bool g ∧ Hid (g = false → greatC l c = false ∧ greatC l d = false) ∧ Hid (Kp [] w2 wx))
  case first =>
    go_wp2_with fail
    refine (great_w HVL.out HN.out (H.out.keep0 HK2.out) HO.out).mono ?_
    rintro e w3 ⟨rfl, kp3⟩
    have HK3 := Lib.hid kp3
    have rq0 := kp3.cell q0 (by simp)
    have rq1 := kp3.cell q1 (by simp)
    have rq2 := kp3.cell q2 (by simp)
    have rq3 := kp3.cell q3 (by simp)
    have rq4 := kp3.cell q4 (by simp)
    clear kp3
    cases hg : greatC l c with
    | true =>
      go_wp2_with fail
      go_meet
      exact ⟨true, rfl, Lib.hid (fun h => by cases h), HK3⟩
    | false =>
      have HG := Lib.hid hg
      clear hg
      go_wp2_with fail
      refine (great_w HVL2.out HN.out (H.out.keep0 (HK2.out.tr HK3.out)) HO.out).mono ?_
      rintro e w4 ⟨rfl, kp4⟩
      have HK4 := Lib.hid (HK3.out.tr kp4)
      clear kp4
      cases hg : greatC l d with
      | true =>
        go_wp2_with fail
        go_meet
        exact ⟨true, rfl, Lib.hid (fun h => by cases h), HK4⟩
      | false =>
        have HG2 := Lib.hid hg
        clear hg
        go_wp2_with fail
        go_meet
        exact ⟨_, rfl, Lib.hid (fun _ => ⟨HG.out, HG2.out⟩), HK4⟩
  obtain ⟨g, rfl, HG, HKX⟩ := hcut
  obtain ⟨w3, rfl⟩ : ∃ w3, w3 = wc := ⟨_, rfl⟩
  replace p0 := HKX.out.cell p0 (by simp)
  replace p1 := HKX.out.cell p1 (by simp)
  replace p2 := HKX.out.cell p2 (by simp)
  replace p3 := HKX.out.cell p3 (by simp)
  replace p4 := HKX.out.cell p4 (by simp)
  replace q0 := HKX.out.cell q0 (by simp)
  replace q1 := HKX.out.cell q1 (by simp)
  replace q2 := HKX.out.cell q2 (by simp)
  replace q3 := HKX.out.cell q3 (by simp)
  replace q4 := HKX.out.cell q4 (by simp)
  have HROW3 := Lib.hid (HKX.out.get HROW.out (by simp))
  have HK3 := Lib.hid (HK2.out.tr HKX.out)
  cases g with
  | true =>
    go_wp2_with fail
    refine (known17_any _).mono ?_
    rintro e w4 ⟨rfl, kp4⟩
    go_wp2_with fail
    go_ret
    exact ⟨rfl, HK3.out.tr kp4⟩
  | false =>
  have hgr := HG.out rfl
  have hn3 : n ≤ 300 := by rw [HN.out]; exact (great_no hgr.1).1
  have HGN := Lib.hid (great_no hgr.1)
  clear hgr HG HKX
  have HSRC : Hid (Src Try.prog 2 22 (.slice a0 n cap0) n (l.flatMap ccells) (w3.alloc (.cells #[] 38))) := Lib.hid (src_rdC HN.out (H.out.keep0 (HK3.out.alloc _)))
  have HB3 : Hid (w.heap.size ≤ (w3.alloc (.cells #[] 38)).heap.size) := Lib.hid (by have := HK3.out.size; simp; omega)
  go_upto_region 4 with (at_builtin; refine wpList_appS clies rfl (.tmp 28) (.tmp 29) 22 22 rfl w.heap.size 38 (.agg #[.string ⟨#[]⟩, .int .u8 0]) 24 Try.underlying22 infoColm rfl _ 0 0 [] rfl l _ n HN.out rfl rfl (.inl ⟨rfl, rfl⟩) HSRC.out (by omega) (by omega) HB3.out ?_; intro ad5 cap5 w5 ho5 kp5 _ _; have HOWN := Lib.hid ho5; have HKA := Lib.hid (((Kp.refl [] w3).alloc (.cells #[] 38)).tr kp5); clear ho5 kp5)
  try simp only [Nat.zero_add]
  replace p0 := HKA.out.cell p0 (by simp)
  replace p1 := HKA.out.cell p1 (by simp)
  replace p2 := HKA.out.cell p2 (by simp)
  replace p3 := HKA.out.cell p3 (by simp)
  replace p4 := HKA.out.cell p4 (by simp)
  replace q0 := HKA.out.cell q0 (by simp)
  replace q1 := HKA.out.cell q1 (by simp)
  replace q2 := HKA.out.cell q2 (by simp)
  replace q3 := HKA.out.cell q3 (by simp)
  replace q4 := HKA.out.cell q4 (by simp)
  have HK5 := Lib.hid (HK3.out.tr HKA.out)
  go_wp2_with fail
  refine (copy_w HVL.out (HC.out.keep0 HK5.out) (by have := HGN.out; omega) (by have := HGN.out; omega) (by have := HGN.out; omega)).mono ?_
  rintro e w6 ⟨k, rfl, hk6, hal6, kp6⟩
  obtain ⟨ni3, hni3⟩ : ∃ ni, ni = k.inv.length := ⟨_, rfl⟩
  obtain ⟨nr3, hnr3⟩ : ∃ nr, nr = k.rng.length := ⟨_, rfl⟩
  obtain ⟨ns3, hns3⟩ : ∃ ns, ns = k.spl.length := ⟨_, rfl⟩
  have HVL3 : Hid (cfgV k = .agg #[.int .i64 k.srt, .slice k.ia ni3 k.ic, .slice k.ra nr3 k.rc, .slice k.sa ns3 k.sc, .int .i64 k.leaf]) := Lib.hid (by rw [hni3, hnr3, hns3]; rfl)
  have HNI3 := Lib.hid hni3
  have HNR3 := Lib.hid hnr3
  have HNS3 := Lib.hid hns3
  clear hni3 hnr3 hns3
  rw [HVL3.out]
  have HK6 := Lib.hid (HK5.out.tr kp6)
  have HKK := Lib.hid hk6
  have HAL := Lib.hid (alike_same hal6)
  replace p0 := kp6.cell p0 (by simp)
  replace p1 := kp6.cell p1 (by simp)
  replace p2 := kp6.cell p2 (by simp)
  replace p3 := kp6.cell p3 (by simp)
  replace p4 := kp6.cell p4 (by simp)
  replace q0 := kp6.cell q0 (by simp)
  replace q1 := kp6.cell q1 (by simp)
  replace q2 := kp6.cell q2 (by simp)
  replace q3 := kp6.cell q3 (by simp)
  replace q4 := kp6.cell q4 (by simp)
  have HOWN6 := Lib.hid (HOWN.out.keep0 kp6)
  clear kp6 hk6 hal6
  go_upto_region 5 with (fail)
  generalize hw8 : w6.alloc _ = w8
  have KW8 : Kp [] w6 w8 := by rw [← hw8]; exact (Kp.refl [] w6).alloc _
  have s0 : w8.cell? ⟨w6.heap.size, 0, none⟩ = some (.int .i64 k.srt) := by rw [← hw8]; simp
  have s1 : w8.cell? ⟨w6.heap.size, 1, none⟩ = some (.slice k.ia ni3 k.ic) := by rw [← hw8]; simp
  have s2 : w8.cell? ⟨w6.heap.size, 2, none⟩ = some (.slice k.ra nr3 k.rc) := by rw [← hw8]; simp
  have s3 : w8.cell? ⟨w6.heap.size, 3, none⟩ = some (.slice k.sa ns3 k.sc) := by rw [← hw8]; simp
  have s4 : w8.cell? ⟨w6.heap.size, 4, none⟩ = some (.int .i64 k.leaf) := by rw [← hw8]; simp
  have HK8 := Lib.hid (HK6.out.tr KW8)
  have HOWN8 := Lib.hid (HOWN6.out.keep0 KW8)
  have HKK8 := Lib.hid (HKK.out.keep0 KW8)
  have HP0 := Lib.hid (KW8.cell p0 (by simp))
  have HP1 := Lib.hid (KW8.cell p1 (by simp))
  have HP2 := Lib.hid (KW8.cell p2 (by simp))
  have HP3 := Lib.hid (KW8.cell p3 (by simp))
  have HP4 := Lib.hid (KW8.cell p4 (by simp))
  have HQ0 := Lib.hid (KW8.cell q0 (by simp))
  have HQ1 := Lib.hid (KW8.cell q1 (by simp))
  have HQ2 := Lib.hid (KW8.cell q2 (by simp))
  have HQ3 := Lib.hid (KW8.cell q3 (by simp))
  have HQ4 := Lib.hid (KW8.cell q4 (by simp))
  have HS0 := Lib.hid s0
  have HS1 := Lib.hid s1
  have HS2 := Lib.hid s2
  have HS3 := Lib.hid s3
  have HS4 := Lib.hid s4
  clear KW8 hw8 p0 p1 p2 p3 p4 q0 q1 q2 q3 q4 s0 s1 s2 s3 s4
  refine wp_region_K (by kernel_rfl) [.val (.slice ad5 n cap5), .val (.bool (mayC l)), .val (.slice a0 n cap0), .val (.bool (mayC l)), .val (.bool true), .val (.bool true), .val (.slice ad5 n cap5), .val (.agg #[.int .i64 c.srt, .slice c.ia ni c.ic, .slice c.ra nr c.rc, .slice c.sa ns c.sc, .int .i64 c.leaf]), .val (.bool (fitsC l c)), .val (.slice a0 n cap0), .val (.agg #[.int .i64 c.srt, .slice c.ia ni c.ic, .slice c.ra nr c.rc, .slice c.sa ns c.sc, .int .i64 c.leaf]), .val (.bool (fitsC l c)), .val (.bool true), .val (.bool true), .val (.bool true), .val (.slice ad5 n cap5), .val (.string s), .val (.int .i64 (fndC l s)), .val (.slice a0 n cap0), .val (.string s), .val (.int .i64 (fndC l s)), .val (.bool true), .val (.bool true), .val (.bool true), .val (.slice ad5 n cap5), .val (.int .i64 p), .val (.bool (dimC l p)), .val (.slice a0 n cap0), .val (.int .i64 p), .val (.bool (dimC l p)), .val (.bool true), .val (.bool true), .val (.bool true), .val (.pointer (some ⟨w.heap.size, 1, none⟩)), .val (.slice c.ia ni c.ic), .val (.int .i64 p), .val (.bool (hasB c.inv p)), .val (.pointer (some ⟨w.heap.size, 1, none⟩)), .val (.slice c.ia ni c.ic), .val (.int .i64 p), .val (.bool (hasB c.inv p)), .val (.bool true), .val (.bool true), .val (.bool true), .val (.agg #[.int .i64 c.srt, .slice c.ia ni c.ic, .slice c.ra nr c.rc, .slice c.sa ns c.sc, .int .i64 c.leaf]), .val (.agg #[.int .i64 d.srt, .slice d.ia ni2 d.ic, .slice d.ra nr2 d.rc, .slice d.sa ns2 d.sc, .int .i64 d.leaf]), .val (.bool (sameC c d)), .val (.agg #[.int .i64 c.srt, .slice c.ia ni c.ic, .slice c.ra nr c.rc, .slice c.sa ns c.sc, .int .i64 c.leaf]), .val (.agg #[.int .i64 d.srt, .slice d.ia ni2 d.ic, .slice d.ra nr2 d.rc, .slice d.sa ns2 d.sc, .int .i64 d.leaf]), .val (.bool (sameC c d)), .val (.bool true), .val (.bool true), .val (.bool true)] [[(11, none)], [(33, some 0)], [(0, none)], [(35, some 2)], [(34, some 1), (36, some 3)], [(37, some 4)], [(38, some 5), (11, none)], [(38, some 5), (6, none)], [(38, some 5), (39, some 6), (40, some 7)], [(38, some 5), (0, none)], [(38, some 5), (6, none)], [(38, some 5), (42, some 9), (43, some 10)], [(38, some 5), (41, some 8), (44, some 11)], [(38, some 5), (45, some 12)], [(46, some 13)], [(47, some 14), (11, none)], [(47, some 14), (3, none)], [(47, some 14), (48, some 15), (49, some 16)], [(47, some 14), (0, none)], [(47, some 14), (3, none)], [(47, some 14), (51, some 18), (52, some 19)], [(47, some 14), (50, some 17), (53, some 20)], [(47, some 14), (54, some 21)], [(55, some 22)], [(56, some 23), (11, none)], [(56, some 23), (4, none)], [(56, some 23), (57, some 24), (58, some 25)], [(56, some 23), (0, none)], [(56, some 23), (4, none)], [(56, some 23), (60, some 27), (61, some 28)], [(56, some 23), (59, some 26), (62, some 29)], [(56, some 23), (63, some 30)], [(64, some 31)], [(65, some 32), (6, none)], [(65, some 32), (66, some 33)], [(65, some 32), (4, none)], [(65, some 32), (67, some 34), (68, some 35)], [(65, some 32), (6, none)], [(65, some 32), (70, some 37)], [(65, some 32), (4, none)], [(65, some 32), (71, some 38), (72, some 39)], [(65, some 32), (69, some 36), (73, some 40)], [(65, some 32), (74, some 41)], [(75, some 42)], [(76, some 43), (6, none)], [(76, some 43), (7, none)], [(76, some 43), (77, some 44), (78, some 45)], [(76, some 43), (6, none)], [(76, some 43), (7, none)], [(76, some 43), (80, some 47), (81, some 48)], [(76, some 43), (79, some 46), (82, some 49)], [(76, some 43), (83, some 50)], [(84, some 51)]] rfl (by kernel_rfl) ?_ ?_
  · refine ⟨?o0, ?o1, ?o2, ?o3, ?o4, ?o5, ?o6, ?o7, ?o8, ?o9, ?o10, ?o11, ?o12, ?o13, ?o14, ?o15, ?o16, ?o17, ?o18, ?o19, ?o20, ?o21, ?o22, ?o23, ?o24, ?o25, ?o26, ?o27, ?o28, ?o29, ?o30, ?o31, ?o32, ?o33, ?o34, ?o35, ?o36, ?o37, ?o38, ?o39, ?o40, ?o41, ?o42, ?o43, ?o44, ?o45, ?o46, ?o47, ?o48, ?o49, ?o50, ?o51, ?o52, trivial⟩
    case o0 => intro aR wR hR; replace hR := hR.undrew; intro (h11 : aR.tmps[11]? = some (.slice ad5 n cap5)); exact exec_val (c := .slice ad5 n cap5) (wanted_none rfl) (by go_simp) rfl
    case o1 => intro aR wR hR; replace hR := hR.undrew; intro v33 h33 e33; replace e33 : v33 = .slice ad5 n cap5 := e33; subst e33; refine exec_call (wanted_none rfl) (by go_simp; exact ⟨rfl, rfl⟩) ?_; refine (sMay_any ad5 cap5 n l HN.out _ ((HOWN8.out.keep0 hR).rd clies) HO.out).mono ?_; rintro e7 w7 ⟨rfl, kp7⟩; exact ⟨_, rfl, rfl, kp7⟩
    case o2 => intro aR wR hR; replace hR := hR.undrew; intro (h0 : aR.tmps[0]? = some (.slice a0 n cap0)); exact exec_val (c := .slice a0 n cap0) (wanted_none rfl) (by go_simp) rfl
    case o3 => intro aR wR hR; replace hR := hR.undrew; intro v35 h35 e35; replace e35 : v35 = .slice a0 n cap0 := e35; subst e35; refine exec_call (wanted_none rfl) (by go_simp; exact ⟨rfl, rfl⟩) ?_; refine (r17May_any a0 cap0 n l HN.out _ ((H.out.keep0 HK8.out).keep0 hR) HO.out).mono ?_; rintro e7 w7 ⟨rfl, kp7⟩; exact ⟨_, rfl, rfl, kp7⟩
    case o4 => intro aR wR hR; replace hR := hR.undrew; intro v34 h34 e34; replace e34 : v34 = .bool (mayC l) := e34; subst e34; intro v36 h36 e36; replace e36 : v36 = .bool (mayC l) := e36; subst e36; exact exec_val (c := .bool true) (wanted_none rfl) (by go_simp) rfl
    case o5 => intro aR wR hR; replace hR := hR.undrew; intro v37 h37 e37; replace e37 : v37 = .bool true := e37; subst e37; exact exec_val (c := .bool true) (wanted_none rfl) (by go_simp) rfl
    case o6 => intro aR wR hR; replace hR := hR.undrew; intro v38 h38 e38; replace e38 : v38 = .bool true := e38; subst e38; intro (h11 : aR.tmps[11]? = some (.slice ad5 n cap5)); exact exec_val (c := .slice ad5 n cap5) (wanted_yes (b := true) (t := 38) rfl rfl h38) (by go_simp) rfl
    case o7 => intro aR wR hR; replace hR := hR.undrew; intro v38 h38 e38; replace e38 : v38 = .bool true := e38; subst e38; intro (h6 : aR.tmps[6]? = some (.pointer (some ⟨w.heap.size, 0, none⟩))); (have h0 := hR.cell HP0.out (by simp); have h1 := hR.cell HP1.out (by simp); have h2 := hR.cell HP2.out (by simp); have h3 := hR.cell HP3.out (by simp); have h4 := hR.cell HP4.out (by simp)); exact exec_val (c := .agg #[.int .i64 c.srt, .slice c.ia ni c.ic, .slice c.ra nr c.rc, .slice c.sa ns c.sc, .int .i64 c.leaf]) (wanted_yes (b := true) (t := 38) rfl rfl h38) (by go_simp) rfl
    case o8 => intro aR wR hR; replace hR := hR.undrew; intro v38 h38 e38; replace e38 : v38 = .bool true := e38; subst e38; intro v39 h39 e39; replace e39 : v39 = .slice ad5 n cap5 := e39; subst e39; intro v40 h40 e40; replace e40 : v40 = .agg #[.int .i64 c.srt, .slice c.ia ni c.ic, .slice c.ra nr c.rc, .slice c.sa ns c.sc, .int .i64 c.leaf] := e40; subst e40; refine exec_call (wanted_yes (b := true) (t := 38) rfl rfl h38) (by go_simp; exact ⟨rfl, rfl⟩) ?_; refine (sfits_w HVL.out HN.out ((HOWN8.out.keep0 hR).rd clies) HO.out ((HC.out.keep0 HK8.out).keep0 hR)).mono ?_; rintro e7 w7 ⟨rfl, kp7⟩; exact ⟨_, rfl, rfl, kp7⟩
    case o9 => intro aR wR hR; replace hR := hR.undrew; intro v38 h38 e38; replace e38 : v38 = .bool true := e38; subst e38; intro (h0 : aR.tmps[0]? = some (.slice a0 n cap0)); exact exec_val (c := .slice a0 n cap0) (wanted_yes (b := true) (t := 38) rfl rfl h38) (by go_simp) rfl
    case o10 => intro aR wR hR; replace hR := hR.undrew; intro v38 h38 e38; replace e38 : v38 = .bool true := e38; subst e38; intro (h6 : aR.tmps[6]? = some (.pointer (some ⟨w.heap.size, 0, none⟩))); (have h0 := hR.cell HP0.out (by simp); have h1 := hR.cell HP1.out (by simp); have h2 := hR.cell HP2.out (by simp); have h3 := hR.cell HP3.out (by simp); have h4 := hR.cell HP4.out (by simp)); exact exec_val (c := .agg #[.int .i64 c.srt, .slice c.ia ni c.ic, .slice c.ra nr c.rc, .slice c.sa ns c.sc, .int .i64 c.leaf]) (wanted_yes (b := true) (t := 38) rfl rfl h38) (by go_simp) rfl
    case o11 => intro aR wR hR; replace hR := hR.undrew; intro v38 h38 e38; replace e38 : v38 = .bool true := e38; subst e38; intro v42 h42 e42; replace e42 : v42 = .slice a0 n cap0 := e42; subst e42; intro v43 h43 e43; replace e43 : v43 = .agg #[.int .i64 c.srt, .slice c.ia ni c.ic, .slice c.ra nr c.rc, .slice c.sa ns c.sc, .int .i64 c.leaf] := e43; subst e43; refine exec_call (wanted_yes (b := true) (t := 38) rfl rfl h38) (by go_simp; exact ⟨rfl, rfl⟩) ?_; refine (rfits_w HVL.out HN.out ((H.out.keep0 HK8.out).keep0 hR) HO.out ((HC.out.keep0 HK8.out).keep0 hR)).mono ?_; rintro e7 w7 ⟨rfl, kp7⟩; exact ⟨_, rfl, rfl, kp7⟩
    case o12 => intro aR wR hR; replace hR := hR.undrew; intro v38 h38 e38; replace e38 : v38 = .bool true := e38; subst e38; intro v41 h41 e41; replace e41 : v41 = .bool (fitsC l c) := e41; subst e41; intro v44 h44 e44; replace e44 : v44 = .bool (fitsC l c) := e44; subst e44; exact exec_val (c := .bool true) (wanted_yes (b := true) (t := 38) rfl rfl h38) (by go_simp) rfl
    case o13 => intro aR wR hR; replace hR := hR.undrew; intro v38 h38 e38; replace e38 : v38 = .bool true := e38; subst e38; intro v45 h45 e45; replace e45 : v45 = .bool true := e45; subst e45; exact exec_val (c := .bool true) (wanted_none rfl) (by go_simp) rfl
    case o14 => intro aR wR hR; replace hR := hR.undrew; intro v46 h46 e46; replace e46 : v46 = .bool true := e46; subst e46; exact exec_val (c := .bool true) (wanted_none rfl) (by go_simp) rfl
    case o15 => intro aR wR hR; replace hR := hR.undrew; intro v47 h47 e47; replace e47 : v47 = .bool true := e47; subst e47; intro (h11 : aR.tmps[11]? = some (.slice ad5 n cap5)); exact exec_val (c := .slice ad5 n cap5) (wanted_yes (b := true) (t := 47) rfl rfl h47) (by go_simp) rfl
    case o16 => intro aR wR hR; replace hR := hR.undrew; intro v47 h47 e47; replace e47 : v47 = .bool true := e47; subst e47; intro (h3 : aR.tmps[3]? = some (.string s)); exact exec_val (c := .string s) (wanted_yes (b := true) (t := 47) rfl rfl h47) (by go_simp) rfl
    case o17 => intro aR wR hR; replace hR := hR.undrew; intro v47 h47 e47; replace e47 : v47 = .bool true := e47; subst e47; intro v48 h48 e48; replace e48 : v48 = .slice ad5 n cap5 := e48; subst e48; intro v49 h49 e49; replace e49 : v49 = .string s := e49; subst e49; refine exec_call (wanted_yes (b := true) (t := 47) rfl rfl h47) (by go_simp; exact ⟨rfl, rfl⟩) ?_; refine (sFind_any ad5 cap5 n l s HN.out _ ((HOWN8.out.keep0 hR).rd clies)).mono ?_; rintro e7 w7 ⟨rfl, kp7⟩; exact ⟨_, rfl, rfl, kp7⟩
    case o18 => intro aR wR hR; replace hR := hR.undrew; intro v47 h47 e47; replace e47 : v47 = .bool true := e47; subst e47; intro (h0 : aR.tmps[0]? = some (.slice a0 n cap0)); exact exec_val (c := .slice a0 n cap0) (wanted_yes (b := true) (t := 47) rfl rfl h47) (by go_simp) rfl
    case o19 => intro aR wR hR; replace hR := hR.undrew; intro v47 h47 e47; replace e47 : v47 = .bool true := e47; subst e47; intro (h3 : aR.tmps[3]? = some (.string s)); exact exec_val (c := .string s) (wanted_yes (b := true) (t := 47) rfl rfl h47) (by go_simp) rfl
    case o20 => intro aR wR hR; replace hR := hR.undrew; intro v47 h47 e47; replace e47 : v47 = .bool true := e47; subst e47; intro v51 h51 e51; replace e51 : v51 = .slice a0 n cap0 := e51; subst e51; intro v52 h52 e52; replace e52 : v52 = .string s := e52; subst e52; refine exec_call (wanted_yes (b := true) (t := 47) rfl rfl h47) (by go_simp; exact ⟨rfl, rfl⟩) ?_; refine (r17Find_any a0 cap0 n l s HN.out _ ((H.out.keep0 HK8.out).keep0 hR)).mono ?_; rintro e7 w7 ⟨rfl, h7⟩; subst w7; exact ⟨_, rfl, rfl, Kp.refl _ _⟩
    case o21 => intro aR wR hR; replace hR := hR.undrew; intro v47 h47 e47; replace e47 : v47 = .bool true := e47; subst e47; intro v50 h50 e50; replace e50 : v50 = .int .i64 (fndC l s) := e50; subst e50; intro v53 h53 e53; replace e53 : v53 = .int .i64 (fndC l s) := e53; subst e53; exact exec_val (c := .bool true) (wanted_yes (b := true) (t := 47) rfl rfl h47) (by go_simp) rfl
    case o22 => intro aR wR hR; replace hR := hR.undrew; intro v47 h47 e47; replace e47 : v47 = .bool true := e47; subst e47; intro v54 h54 e54; replace e54 : v54 = .bool true := e54; subst e54; exact exec_val (c := .bool true) (wanted_none rfl) (by go_simp) rfl
    case o23 => intro aR wR hR; replace hR := hR.undrew; intro v55 h55 e55; replace e55 : v55 = .bool true := e55; subst e55; exact exec_val (c := .bool true) (wanted_none rfl) (by go_simp) rfl
    case o24 => intro aR wR hR; replace hR := hR.undrew; intro v56 h56 e56; replace e56 : v56 = .bool true := e56; subst e56; intro (h11 : aR.tmps[11]? = some (.slice ad5 n cap5)); exact exec_val (c := .slice ad5 n cap5) (wanted_yes (b := true) (t := 56) rfl rfl h56) (by go_simp) rfl
    case o25 => intro aR wR hR; replace hR := hR.undrew; intro v56 h56 e56; replace e56 : v56 = .bool true := e56; subst e56; intro (h4 : aR.tmps[4]? = some (.int .i64 p)); exact exec_val (c := .int .i64 p) (wanted_yes (b := true) (t := 56) rfl rfl h56) (by go_simp) rfl
    case o26 => intro aR wR hR; replace hR := hR.undrew; intro v56 h56 e56; replace e56 : v56 = .bool true := e56; subst e56; intro v57 h57 e57; replace e57 : v57 = .slice ad5 n cap5 := e57; subst e57; intro v58 h58 e58; replace e58 : v58 = .int .i64 p := e58; subst e58; refine exec_call (wanted_yes (b := true) (t := 56) rfl rfl h56) (by go_simp; exact ⟨rfl, rfl⟩) ?_; refine (sDim_any ad5 cap5 n l p HN.out _ ((HOWN8.out.keep0 hR).rd clies)).mono ?_; rintro e7 w7 ⟨rfl, h7⟩; subst w7; exact ⟨_, rfl, rfl, Kp.refl _ _⟩
    case o27 => intro aR wR hR; replace hR := hR.undrew; intro v56 h56 e56; replace e56 : v56 = .bool true := e56; subst e56; intro (h0 : aR.tmps[0]? = some (.slice a0 n cap0)); exact exec_val (c := .slice a0 n cap0) (wanted_yes (b := true) (t := 56) rfl rfl h56) (by go_simp) rfl
    case o28 => intro aR wR hR; replace hR := hR.undrew; intro v56 h56 e56; replace e56 : v56 = .bool true := e56; subst e56; intro (h4 : aR.tmps[4]? = some (.int .i64 p)); exact exec_val (c := .int .i64 p) (wanted_yes (b := true) (t := 56) rfl rfl h56) (by go_simp) rfl
    case o29 => intro aR wR hR; replace hR := hR.undrew; intro v56 h56 e56; replace e56 : v56 = .bool true := e56; subst e56; intro v60 h60 e60; replace e60 : v60 = .slice a0 n cap0 := e60; subst e60; intro v61 h61 e61; replace e61 : v61 = .int .i64 p := e61; subst e61; refine exec_call (wanted_yes (b := true) (t := 56) rfl rfl h56) (by go_simp; exact ⟨rfl, rfl⟩) ?_; refine (r17Dim_any a0 cap0 n l p HN.out _ ((H.out.keep0 HK8.out).keep0 hR)).mono ?_; rintro e7 w7 ⟨rfl, h7⟩; subst w7; exact ⟨_, rfl, rfl, Kp.refl _ _⟩
    case o30 => intro aR wR hR; replace hR := hR.undrew; intro v56 h56 e56; replace e56 : v56 = .bool true := e56; subst e56; intro v59 h59 e59; replace e59 : v59 = .bool (dimC l p) := e59; subst e59; intro v62 h62 e62; replace e62 : v62 = .bool (dimC l p) := e62; subst e62; exact exec_val (c := .bool true) (wanted_yes (b := true) (t := 56) rfl rfl h56) (by go_simp) rfl
    case o31 => intro aR wR hR; replace hR := hR.undrew; intro v56 h56 e56; replace e56 : v56 = .bool true := e56; subst e56; intro v63 h63 e63; replace e63 : v63 = .bool true := e63; subst e63; exact exec_val (c := .bool true) (wanted_none rfl) (by go_simp) rfl
    case o32 => intro aR wR hR; replace hR := hR.undrew; intro v64 h64 e64; replace e64 : v64 = .bool true := e64; subst e64; exact exec_val (c := .bool true) (wanted_none rfl) (by go_simp) rfl
    case o33 => intro aR wR hR; replace hR := hR.undrew; intro v65 h65 e65; replace e65 : v65 = .bool true := e65; subst e65; intro (h6 : aR.tmps[6]? = some (.pointer (some ⟨w.heap.size, 0, none⟩))); exact exec_val (c := .pointer (some ⟨w.heap.size, 1, none⟩)) (wanted_yes (b := true) (t := 65) rfl rfl h65) (by go_simp) rfl
    case o34 => intro aR wR hR; replace hR := hR.undrew; intro v65 h65 e65; replace e65 : v65 = .bool true := e65; subst e65; intro v66 h66 e66; replace e66 : v66 = .pointer (some ⟨w.heap.size, 1, none⟩) := e66; subst e66; (have h1 := hR.cell HP1.out (by simp)); exact exec_val (c := .slice c.ia ni c.ic) (wanted_yes (b := true) (t := 65) rfl rfl h65) (by go_simp) rfl
    case o35 => intro aR wR hR; replace hR := hR.undrew; intro v65 h65 e65; replace e65 : v65 = .bool true := e65; subst e65; intro (h4 : aR.tmps[4]? = some (.int .i64 p)); exact exec_val (c := .int .i64 p) (wanted_yes (b := true) (t := 65) rfl rfl h65) (by go_simp) rfl
    case o36 => intro aR wR hR; replace hR := hR.undrew; intro v65 h65 e65; replace e65 : v65 = .bool true := e65; subst e65; intro v67 h67 e67; replace e67 : v67 = .slice c.ia ni c.ic := e67; subst e67; intro v68 h68 e68; replace e68 : v68 = .int .i64 p := e68; subst e68; refine exec_call (wanted_yes (b := true) (t := 65) rfl rfl h65) (by go_simp; exact ⟨rfl, rfl⟩) ?_; refine (sHas_any c.ia c.ic ni c.inv p HNI.out _ ((HC.out.keep0 HK8.out).keep0 hR).1).mono ?_; rintro e7 w7 ⟨rfl, h7⟩; subst w7; exact ⟨_, rfl, rfl, Kp.refl _ _⟩
    case o37 => intro aR wR hR; replace hR := hR.undrew; intro v65 h65 e65; replace e65 : v65 = .bool true := e65; subst e65; intro (h6 : aR.tmps[6]? = some (.pointer (some ⟨w.heap.size, 0, none⟩))); exact exec_val (c := .pointer (some ⟨w.heap.size, 1, none⟩)) (wanted_yes (b := true) (t := 65) rfl rfl h65) (by go_simp) rfl
    case o38 => intro aR wR hR; replace hR := hR.undrew; intro v65 h65 e65; replace e65 : v65 = .bool true := e65; subst e65; intro v70 h70 e70; replace e70 : v70 = .pointer (some ⟨w.heap.size, 1, none⟩) := e70; subst e70; (have h1 := hR.cell HP1.out (by simp)); exact exec_val (c := .slice c.ia ni c.ic) (wanted_yes (b := true) (t := 65) rfl rfl h65) (by go_simp) rfl
    case o39 => intro aR wR hR; replace hR := hR.undrew; intro v65 h65 e65; replace e65 : v65 = .bool true := e65; subst e65; intro (h4 : aR.tmps[4]? = some (.int .i64 p)); exact exec_val (c := .int .i64 p) (wanted_yes (b := true) (t := 65) rfl rfl h65) (by go_simp) rfl
    case o40 => intro aR wR hR; replace hR := hR.undrew; intro v65 h65 e65; replace e65 : v65 = .bool true := e65; subst e65; intro v71 h71 e71; replace e71 : v71 = .slice c.ia ni c.ic := e71; subst e71; intro v72 h72 e72; replace e72 : v72 = .int .i64 p := e72; subst e72; refine exec_call (wanted_yes (b := true) (t := 65) rfl rfl h65) (by go_simp; exact ⟨rfl, rfl⟩) ?_; refine (r17Has_any c.ia c.ic ni c.inv p HNI.out _ ((HC.out.keep0 HK8.out).keep0 hR).1).mono ?_; rintro e7 w7 ⟨rfl, h7⟩; subst w7; exact ⟨_, rfl, rfl, Kp.refl _ _⟩
    case o41 => intro aR wR hR; replace hR := hR.undrew; intro v65 h65 e65; replace e65 : v65 = .bool true := e65; subst e65; intro v69 h69 e69; replace e69 : v69 = .bool (hasB c.inv p) := e69; subst e69; intro v73 h73 e73; replace e73 : v73 = .bool (hasB c.inv p) := e73; subst e73; exact exec_val (c := .bool true) (wanted_yes (b := true) (t := 65) rfl rfl h65) (by go_simp) rfl
    case o42 => intro aR wR hR; replace hR := hR.undrew; intro v65 h65 e65; replace e65 : v65 = .bool true := e65; subst e65; intro v74 h74 e74; replace e74 : v74 = .bool true := e74; subst e74; exact exec_val (c := .bool true) (wanted_none rfl) (by go_simp) rfl
    case o43 => intro aR wR hR; replace hR := hR.undrew; intro v75 h75 e75; replace e75 : v75 = .bool true := e75; subst e75; exact exec_val (c := .bool true) (wanted_none rfl) (by go_simp) rfl
    case o44 => intro aR wR hR; replace hR := hR.undrew; intro v76 h76 e76; replace e76 : v76 = .bool true := e76; subst e76; intro (h6 : aR.tmps[6]? = some (.pointer (some ⟨w.heap.size, 0, none⟩))); (have h0 := hR.cell HP0.out (by simp); have h1 := hR.cell HP1.out (by simp); have h2 := hR.cell HP2.out (by simp); have h3 := hR.cell HP3.out (by simp); have h4 := hR.cell HP4.out (by simp)); exact exec_val (c := .agg #[.int .i64 c.srt, .slice c.ia ni c.ic, .slice c.ra nr c.rc, .slice c.sa ns c.sc, .int .i64 c.leaf]) (wanted_yes (b := true) (t := 76) rfl rfl h76) (by go_simp) rfl
    case o45 => intro aR wR hR; replace hR := hR.undrew; intro v76 h76 e76; replace e76 : v76 = .bool true := e76; subst e76; intro (h7 : aR.tmps[7]? = some (.pointer (some ⟨w.heap.size + 1, 0, none⟩))); (have h0 := hR.cell HQ0.out (by simp); have h1 := hR.cell HQ1.out (by simp); have h2 := hR.cell HQ2.out (by simp); have h3 := hR.cell HQ3.out (by simp); have h4 := hR.cell HQ4.out (by simp)); exact exec_val (c := .agg #[.int .i64 d.srt, .slice d.ia ni2 d.ic, .slice d.ra nr2 d.rc, .slice d.sa ns2 d.sc, .int .i64 d.leaf]) (wanted_yes (b := true) (t := 76) rfl rfl h76) (by go_simp) rfl
    case o46 => intro aR wR hR; replace hR := hR.undrew; intro v76 h76 e76; replace e76 : v76 = .bool true := e76; subst e76; intro v77 h77 e77; replace e77 : v77 = .agg #[.int .i64 c.srt, .slice c.ia ni c.ic, .slice c.ra nr c.rc, .slice c.sa ns c.sc, .int .i64 c.leaf] := e77; subst e77; intro v78 h78 e78; replace e78 : v78 = .agg #[.int .i64 d.srt, .slice d.ia ni2 d.ic, .slice d.ra nr2 d.rc, .slice d.sa ns2 d.sc, .int .i64 d.leaf] := e78; subst e78; refine exec_call (wanted_yes (b := true) (t := 76) rfl rfl h76) (by go_simp; exact ⟨rfl, rfl⟩) ?_; refine (ssame_w HVL.out HVL2.out ((HC.out.keep0 HK8.out).keep0 hR) ((HD.out.keep0 HK8.out).keep0 hR)).mono ?_; rintro e7 w7 ⟨rfl, kp7⟩; exact ⟨_, rfl, rfl, kp7⟩
    case o47 => intro aR wR hR; replace hR := hR.undrew; intro v76 h76 e76; replace e76 : v76 = .bool true := e76; subst e76; intro (h6 : aR.tmps[6]? = some (.pointer (some ⟨w.heap.size, 0, none⟩))); (have h0 := hR.cell HP0.out (by simp); have h1 := hR.cell HP1.out (by simp); have h2 := hR.cell HP2.out (by simp); have h3 := hR.cell HP3.out (by simp); have h4 := hR.cell HP4.out (by simp)); exact exec_val (c := .agg #[.int .i64 c.srt, .slice c.ia ni c.ic, .slice c.ra nr c.rc, .slice c.sa ns c.sc, .int .i64 c.leaf]) (wanted_yes (b := true) (t := 76) rfl rfl h76) (by go_simp) rfl
    case o48 => intro aR wR hR; replace hR := hR.undrew; intro v76 h76 e76; replace e76 : v76 = .bool true := e76; subst e76; intro (h7 : aR.tmps[7]? = some (.pointer (some ⟨w.heap.size + 1, 0, none⟩))); (have h0 := hR.cell HQ0.out (by simp); have h1 := hR.cell HQ1.out (by simp); have h2 := hR.cell HQ2.out (by simp); have h3 := hR.cell HQ3.out (by simp); have h4 := hR.cell HQ4.out (by simp)); exact exec_val (c := .agg #[.int .i64 d.srt, .slice d.ia ni2 d.ic, .slice d.ra nr2 d.rc, .slice d.sa ns2 d.sc, .int .i64 d.leaf]) (wanted_yes (b := true) (t := 76) rfl rfl h76) (by go_simp) rfl
    case o49 => intro aR wR hR; replace hR := hR.undrew; intro v76 h76 e76; replace e76 : v76 = .bool true := e76; subst e76; intro v80 h80 e80; replace e80 : v80 = .agg #[.int .i64 c.srt, .slice c.ia ni c.ic, .slice c.ra nr c.rc, .slice c.sa ns c.sc, .int .i64 c.leaf] := e80; subst e80; intro v81 h81 e81; replace e81 : v81 = .agg #[.int .i64 d.srt, .slice d.ia ni2 d.ic, .slice d.ra nr2 d.rc, .slice d.sa ns2 d.sc, .int .i64 d.leaf] := e81; subst e81; refine exec_call (wanted_yes (b := true) (t := 76) rfl rfl h76) (by go_simp; exact ⟨rfl, rfl⟩) ?_; refine (rsame_w HVL.out HVL2.out ((HC.out.keep0 HK8.out).keep0 hR) ((HD.out.keep0 HK8.out).keep0 hR)).mono ?_; rintro e7 w7 ⟨rfl, kp7⟩; exact ⟨_, rfl, rfl, kp7⟩
    case o50 => intro aR wR hR; replace hR := hR.undrew; intro v76 h76 e76; replace e76 : v76 = .bool true := e76; subst e76; intro v79 h79 e79; replace e79 : v79 = .bool (sameC c d) := e79; subst e79; intro v82 h82 e82; replace e82 : v82 = .bool (sameC c d) := e82; subst e82; exact exec_val (c := .bool true) (wanted_yes (b := true) (t := 76) rfl rfl h76) (by go_simp) rfl
    case o51 => intro aR wR hR; replace hR := hR.undrew; intro v76 h76 e76; replace e76 : v76 = .bool true := e76; subst e76; intro v83 h83 e83; replace e83 : v83 = .bool true := e83; subst e83; exact exec_val (c := .bool true) (wanted_none rfl) (by go_simp) rfl
    case o52 => intro aR wR hR; replace hR := hR.undrew; intro v84 h84 e84; replace e84 : v84 = .bool true := e84; subst e84; exact exec_val (c := .bool true) (wanted_none rfl) (by go_simp) rfl
  · intro vs wR hR hV
    obtain ⟨e0, e1, e2, e3, e4, e5, e6, e7, e8, e9, e10, e11, e12, e13, e14, e15, e16, e17, e18, e19, e20, e21, e22, e23, e24, e25, e26, e27, e28, e29, e30, e31, e32, e33, e34, e35, e36, e37, e38, e39, e40, e41, e42, e43, e44, e45, e46, e47, e48, e49, e50, e51, e52, -⟩ := hV
    replace e0 : vs 0 = .slice ad5 n cap5 := e0
    replace e1 : vs 1 = .bool (mayC l) := e1
    replace e2 : vs 2 = .slice a0 n cap0 := e2
    replace e3 : vs 3 = .bool (mayC l) := e3
    replace e4 : vs 4 = .bool true := e4
    replace e5 : vs 5 = .bool true := e5
    replace e6 : vs 6 = .slice ad5 n cap5 := e6
    replace e7 : vs 7 = .agg #[.int .i64 c.srt, .slice c.ia ni c.ic, .slice c.ra nr c.rc, .slice c.sa ns c.sc, .int .i64 c.leaf] := e7
    replace e8 : vs 8 = .bool (fitsC l c) := e8
    replace e9 : vs 9 = .slice a0 n cap0 := e9
    replace e10 : vs 10 = .agg #[.int .i64 c.srt, .slice c.ia ni c.ic, .slice c.ra nr c.rc, .slice c.sa ns c.sc, .int .i64 c.leaf] := e10
    replace e11 : vs 11 = .bool (fitsC l c) := e11
    replace e12 : vs 12 = .bool true := e12
    replace e13 : vs 13 = .bool true := e13
    replace e14 : vs 14 = .bool true := e14
    replace e15 : vs 15 = .slice ad5 n cap5 := e15
    replace e16 : vs 16 = .string s := e16
    replace e17 : vs 17 = .int .i64 (fndC l s) := e17
    replace e18 : vs 18 = .slice a0 n cap0 := e18
    replace e19 : vs 19 = .string s := e19
    replace e20 : vs 20 = .int .i64 (fndC l s) := e20
    replace e21 : vs 21 = .bool true := e21
    replace e22 : vs 22 = .bool true := e22
    replace e23 : vs 23 = .bool true := e23
    replace e24 : vs 24 = .slice ad5 n cap5 := e24
    replace e25 : vs 25 = .int .i64 p := e25
    replace e26 : vs 26 = .bool (dimC l p) := e26
    replace e27 : vs 27 = .slice a0 n cap0 := e27
    replace e28 : vs 28 = .int .i64 p := e28
    replace e29 : vs 29 = .bool (dimC l p) := e29
    replace e30 : vs 30 = .bool true := e30
    replace e31 : vs 31 = .bool true := e31
    replace e32 : vs 32 = .bool true := e32
    replace e33 : vs 33 = .pointer (some ⟨w.heap.size, 1, none⟩) := e33
    replace e34 : vs 34 = .slice c.ia ni c.ic := e34
    replace e35 : vs 35 = .int .i64 p := e35
    replace e36 : vs 36 = .bool (hasB c.inv p) := e36
    replace e37 : vs 37 = .pointer (some ⟨w.heap.size, 1, none⟩) := e37
    replace e38 : vs 38 = .slice c.ia ni c.ic := e38
    replace e39 : vs 39 = .int .i64 p := e39
    replace e40 : vs 40 = .bool (hasB c.inv p) := e40
    replace e41 : vs 41 = .bool true := e41
    replace e42 : vs 42 = .bool true := e42
    replace e43 : vs 43 = .bool true := e43
    replace e44 : vs 44 = .agg #[.int .i64 c.srt, .slice c.ia ni c.ic, .slice c.ra nr c.rc, .slice c.sa ns c.sc, .int .i64 c.leaf] := e44
    replace e45 : vs 45 = .agg #[.int .i64 d.srt, .slice d.ia ni2 d.ic, .slice d.ra nr2 d.rc, .slice d.sa ns2 d.sc, .int .i64 d.leaf] := e45
    replace e46 : vs 46 = .bool (sameC c d) := e46
    replace e47 : vs 47 = .agg #[.int .i64 c.srt, .slice c.ia ni c.ic, .slice c.ra nr c.rc, .slice c.sa ns c.sc, .int .i64 c.leaf] := e47
    replace e48 : vs 48 = .agg #[.int .i64 d.srt, .slice d.ia ni2 d.ic, .slice d.ra nr2 d.rc, .slice d.sa ns2 d.sc, .int .i64 d.leaf] := e48
    replace e49 : vs 49 = .bool (sameC c d) := e49
    replace e50 : vs 50 = .bool true := e50
    replace e51 : vs 51 = .bool true := e51
    replace e52 : vs 52 = .bool true := e52
    simp only [putAll, e0, e1, e2, e3, e4, e5, e6, e7, e8, e9, e10, e11, e12, e13, e14, e15, e16, e17, e18, e19, e20, e21, e22, e23, e24, e25, e26, e27, e28, e29, e30, e31, e32, e33, e34, e35, e36, e37, e38, e39, e40, e41, e42, e43, e44, e45, e46, e47, e48, e49, e50, e51, e52, Nat.reduceAdd, Nat.zero_add]
    clear e0 e1 e2 e3 e4 e5 e6 e7 e8 e9 e10 e11 e12 e13 e14 e15 e16 e17 e18 e19 e20 e21 e22 e23 e24 e25 e26 e27 e28 e29 e30 e31 e32 e33 e34 e35 e36 e37 e38 e39 e40 e41 e42 e43 e44 e45 e46 e47 e48 e49 e50 e51 e52
    try simp only [List.setIfInBounds_toArray, List.set_cons_succ, List.set_cons_zero]
    have HKR := Lib.hid (HK8.out.tr hR)
    have p0 := hR.cell HP0.out (by simp)
    have p1 := hR.cell HP1.out (by simp)
    have p2 := hR.cell HP2.out (by simp)
    have p3 := hR.cell HP3.out (by simp)
    have p4 := hR.cell HP4.out (by simp)
    have s0 := hR.cell HS0.out (by simp)
    have s1 := hR.cell HS1.out (by simp)
    have s2 := hR.cell HS2.out (by simp)
    have s3 := hR.cell HS3.out (by simp)
    have s4 := hR.cell HS4.out (by simp)
    have HOWNR := Lib.hid (HOWN8.out.keep0 hR)
    have HKKR := Lib.hid (HKK8.out.keep0 hR)
    clear hR
    go_wp2_with fail
    refine (r17SameC_any ad5 cap5 n l HN.out a0 cap0 n l HN.out _ (HOWNR.out.rd clies) (H.out.keep0 HKR.out)).mono ?_
    rintro e w9 ⟨rfl, kp9⟩
    rw [eqCs_self]
    have HK9 := Lib.hid (HKR.out.tr kp9)
    have HKK9 := Lib.hid (HKKR.out.keep0 kp9)
    replace p0 := kp9.cell p0 (by simp)
    replace p1 := kp9.cell p1 (by simp)
    replace p2 := kp9.cell p2 (by simp)
    replace p3 := kp9.cell p3 (by simp)
    replace p4 := kp9.cell p4 (by simp)
    replace s0 := kp9.cell s0 (by simp)
    replace s1 := kp9.cell s1 (by simp)
    replace s2 := kp9.cell s2 (by simp)
    replace s3 := kp9.cell s3 (by simp)
    replace s4 := kp9.cell s4 (by simp)
    clear kp9
    go_wp2_with fail
    refine (rsame_w HVL.out HVL3.out (HC.out.keep0 HK9.out) HKK9.out).mono ?_
    rintro e w10 ⟨rfl, kp10⟩
    rw [HAL.out]
    have HK10 := Lib.hid (HK9.out.tr kp10)
    clear kp10
    go_wp2_with fail
    refine (known17_any _).mono ?_
    rintro e w11 ⟨rfl, kp11⟩
    go_wp2_with fail
    go_ret
    exact ⟨rfl, HK10.out.tr kp11⟩
end Go.Proofs.Ytegnobdablbahaa
