/-
  Tables: the law of the parts.
-/
import Derived.Test.YtfacpfogdcefpaaTabP
namespace Go.Proofs.Ytfacpfogdcefpaa
open Go.RowKit Go.Shelf
set_option linter.unusedSimpArgs false
set_option linter.unusedVariables false
set_option maxRecDepth 100000

theorem Kp.setRowQ {S : List Nat} {a b : World} (h : Kp S a b) (g : Nat) (cs : Array Value) (hp : g ∈ S ∨ a.heap.size ≤ g) : Kp S a (b.setRow g cs) :=
  ⟨h.os, h.tape, h.output, by have := h.size; simpa [World.setRow] using this, fun k hk hn => by
    rw [setRow_other _ _ _ _ (fun e => by rcases hp with hp | hp; exact hn (e ▸ hp); omega)]; exact h.block k hk hn⟩
theorem okNil : COk [] := by intro x hx; simp at hx
theorem sameR_self {a b : List Hd} (h : a.map (·.row) = b.map (·.row)) : sameR a b = true := sameR_iff.2 h
theorem blk_of {h : Hd} {q : Nat} (hq : h.ad = some ⟨q, 0, none⟩) : blk h = q := by unfold blk; rw [hq]; rfl
theorem src_blockV {w : World} {q : Nat} (v : V3) (h : w.heap[q]? = some (.cells (vcells v).toArray 38)) : Src Try.prog 3 36 (.slice (some ⟨q, 0, none⟩) 1 1) 1 ([v].flatMap vcells) w :=
  src_oneS vlies Try.underlying36 h

set_option maxHeartbeats 3200000 in
theorem tableParts_any (ra : Option Addr) (rc m : Nat) (a : List Hd) (hm : m = a.length) (rb : Option Addr) (rd k : Nat) (b : List Hd) (hk : k = b.length) (p : Int) (w : World) (ha : RdR w ra rc a) (hb : RdR w rb rd b) :
    Calls Try.prog 6 #[.slice ra m rc, .slice rb k rd, .int .i64 p] w fun e w' => e = .returned (.bool true) ∧ Kp [] w w' := by
  have HA := Lib.hid ha
  have HB := Lib.hid hb
  have HM := Lib.hid hm
  have HKB := Lib.hid hk
  clear ha hb hm hk
  go_enter Try.func6, Try.ntmps6
  go_wp2_with fail
  refine (r18Great_any none 0 0 [] rfl c0 ra rc m a HM.out 200 w (RdS.nil _ _ _) okNil HA.out (by omega)).mono ?_
  rintro e w2 ⟨ga, rfl, kp2, hga⟩
  have K2 := Lib.hid kp2
  clear kp2
  cases ga
  · go_wp2_with fail
    refine (r18Great_any none 0 0 [] rfl c0 rb rd k b HKB.out 200 w2 (RdS.nil _ _ _) okNil (HB.out.keep0 K2.out) (by omega)).mono ?_
    rintro e w3 ⟨gb, rfl, kp3, hgb⟩
    have K3 := Lib.hid (K2.out.tr kp3)
    clear kp3
    cases gb
    · have hm1 : m ≤ 200 := by rw [HM.out]; exact (hga rfl).2.1
      have hk1 : k ≤ 200 := by rw [HKB.out]; exact (hgb rfl).2.1
      have HRB : Hid (∀ x ∈ a, x.row.length ≤ 1000000) := Lib.hid (fun x hx => by have := (hga rfl).2.2 x hx; omega)
      clear hga hgb
      go_wp2_with fail
      refine (tCopy_any ra rc m a HM.out w3 (HA.out.keep0 K3.out) (by omega) HRB.out).mono ?_
      rintro e w4 ⟨g, cs, rfl, hg, hd, hcs, hown, -, kp4⟩
      rw [← HM.out]
      have HCS := Lib.hid hcs
      have HCL : Hid (m = cs.length) := Lib.hid (by rw [HM.out]; exact (rowA_congr hcs).1.symm)
      have HOUT : Hid (OutP w4 w3.heap.size (some ⟨g, 0, none⟩) m cs) := Lib.hid (by have := outP_own hd hown hg (by rw [← HCL.out]; omega); rwa [← HCL.out] at this)
      have HRC : Hid (RdR w4 (some ⟨g, 0, none⟩) m cs) := Lib.hid (by have := rdR_own hd hown (by rw [← HCL.out]; omega); rwa [← HCL.out] at this)
      have HBK : Hid (∀ x ∈ cs.map blk, w.heap.size ≤ x ∧ x < w4.heap.size) := Lib.hid (fun x hx => by
        obtain ⟨h, hh, rfl⟩ := List.mem_map.1 hx
        have h1 := (hown h hh).blk_ge
        have h2 := K3.out.size
        omega)
      have K4 := Lib.hid (K3.out.tr kp4)
      clear hcs hd hown hg kp4
      go_wp2_with fail
      refine (tColumn_any ra rc m a HM.out p w4 (HA.out.keep0 K4.out) (by omega) HRB.out).mono ?_
      rintro e w5 ⟨g2, rfl, hg2, hcol, kp5⟩
      have HCOL := Lib.hid hcol
      have K45 := Lib.hid kp5
      have K5 := Lib.hid (K4.out.tr kp5)
      have HG2 := Lib.hid hg2
      have HCC : Hid ((colL p a).length = m) := Lib.hid (by rw [HM.out]; simp [colL])
      clear hcol kp5 hg2
      go_wp2_with fail
      refine (tSame_any ra rc m a HM.out rb rd k b HKB.out w5 (HA.out.keep0 K5.out) (HB.out.keep0 K5.out)).mono ?_
      rintro e w6 ⟨rfl, kp6⟩
      have K46 := Lib.hid (K45.out.tr kp6)
      have K56 := Lib.hid kp6
      have K6 := Lib.hid (K5.out.tr kp6)
      clear kp6
      go_wp2_with fail
      refine (r18Same_any ra rc m a HM.out rb rd k b HKB.out w6 (HA.out.keep0 K6.out) (HB.out.keep0 K6.out)).mono ?_
      rintro e w7 ⟨rfl, kp7⟩
      have K47 := Lib.hid (K46.out.tr kp7)
      have K57 := Lib.hid (K56.out.tr kp7)
      have K7 := Lib.hid (K6.out.tr kp7)
      generalize sameR a b = sq at *
      have hqq : (sq != sq) = false := by simp
      clear kp7
      go_wp2_with fail
      refine (tSame_any ra rc m a HM.out (some ⟨g, 0, none⟩) m m cs HCL.out w7 (HA.out.keep0 K7.out) (HRC.out.keep0 K47.out)).mono ?_
      rintro e w8 ⟨rfl, kp8⟩
      rw [sameR_self HCS.out.symm]
      have K48 := Lib.hid (K47.out.tr kp8)
      have K58 := Lib.hid (K57.out.tr kp8)
      have K8 := Lib.hid (K7.out.tr kp8)
      clear kp8
      go_wp2_with fail
      refine (r18Same_any ra rc m a HM.out (some ⟨g, 0, none⟩) m m cs HCL.out w8 (HA.out.keep0 K8.out) (HRC.out.keep0 K48.out)).mono ?_
      rintro e w9 ⟨rfl, kp9⟩
      rw [sameR_self HCS.out.symm]
      have K49 := Lib.hid (K48.out.tr kp9)
      have K59 := Lib.hid (K58.out.tr kp9)
      have K9 := Lib.hid (K8.out.tr kp9)
      have hmm : ((m : Int) != (m : Int)) = false := by simp
      clear kp9 K5 K6 K7 K8 K46 K56 K47 K57 K48 K58 hqq
      go_wp2_with fail
      go_loopw [9, 57] (fun vo vi wr => ∃ (i : Nat) (ado : Option Addr) (capo : Nat) (D : List V3), i ≤ m ∧ vi = .int .i64 i ∧ vo = .slice ado i capo ∧ Hid (i = D.length) ∧ Hid (OwnS vcells 3 wr w9.heap.size 38 ado capo D) ∧ Hid (D = colL p (a.take i)) ∧ Hid (Kp [] w9 wr)) (fun _ vi _ => m - (intOf vi).toNat)
      case atStart => exact ⟨0, none, 0, [], Nat.zero_le _, rfl, rfl, Lib.hid rfl, Lib.hid (OwnS.nil _ _ _ _ _), Lib.hid rfl, Lib.hid (Kp.refl _ _)⟩
      case round =>
        obtain ⟨i, ado, capo, D, hi, rfl, rfl, HDL, HOW, HDR, HK⟩ := hrel
        obtain ⟨wo, rfl⟩ : ∃ wo : World, wo = wr := ⟨_, rfl⟩
        by_cases hlt : i < m
        · obtain ⟨b1, off1, xa, xn, xc, rfl, c0', hxn, hxr⟩ := HA.out.at' i (by rw [← HM.out]; exact hlt)
          have C0 : Hid (∀ W, Kp [] wo W → W.cell? ⟨b1, off1 + i, none⟩ = some (.slice xa xn xc)) := Lib.hid (fun W hW => ((K9.out.tr HK.out).tr hW).cell c0' (by simp))
          have HTK : Hid (colL p (a.take (i + 1)) = colL p (a.take i) ++ [colV p (rowA a i)]) := Lib.hid (colL_take p a i (by rw [← HM.out]; exact hlt))
          have hxb : xn ≤ 1000000 := by rw [hxn, rowA_eq a i (by rw [← HM.out]; exact hlt)]; exact HRB.out _ (List.getElem_mem _)
          generalize rowA a i = r at *
          have HXN := Lib.hid hxn
          have HXR : Hid (∀ W, Kp [] wo W → RdV W xa xc r) := Lib.hid (fun W hW => hxr.keep0 ((K9.out.tr HK.out).tr hW))
          clear hxn hxr c0'
          go_upto_region 12 with (refine wpList_store_row rfl 38 _ _ rfl wo.heap.size #[.int .u8 0, .int .i64 0, .string ⟨#[]⟩] rfl rfl 38 _ (heap_alloc_at rfl) (by kernel_rfl) rfl (by simp [Value.oneCell']) ?_)
          obtain ⟨q, hq⟩ : ∃ q, q = wo.heap.size := ⟨_, rfl⟩
          generalize hz : (wo.alloc (Obj.cells _ _)).setRow _ _ = wz
          rw [← hq] at hz ⊢
          have HQZ : Hid (wz.heap[q]? = some (.cells #[.int .u8 0, .int .i64 0, .string ⟨#[]⟩] 38)) := Lib.hid (by rw [← hz]; exact setRow_heap _ q _ _ _ _ (heap_alloc_at hq))
          have KZ : Hid (Kp [] wo wz) := Lib.hid (by rw [← hz]; exact ((Kp.refl [] wo).alloc _).setRowQ _ _ (.inr (by omega)))
          have HQB : Hid (wo.heap.size ≤ q) := Lib.hid (by omega)
          clear hz hq
          by_cases h0 : (0 : Int) ≤ p
          · by_cases hp : p < (xn : Int)
            · obtain ⟨s, rfl⟩ : ∃ s : Nat, p = (s : Int) := ⟨p.toNat, by omega⟩
              have hsn : s < xn := by omega
              obtain ⟨b2, off2, rfl, d0, d1, d2⟩ := (HXR.out wz KZ.out).atV s (by rw [← HXN.out]; exact hsn)
              have HCV : Hid (colV (s : Int) r = atV r s) := Lib.hid (by
                unfold colV
                rw [if_pos ⟨by omega, by rw [← HXN.out]; exact hp⟩, Int.toNat_natCast])
              have c1 := C0.out wz KZ.out
              generalize atV r s = v at *
              obtain ⟨vk, vn, vs⟩ := v
              dsimp only at d0 d1 d2
              go_upto_region 14 with (refine wpList_store_row rfl 38 _ _ rfl q #[.int .u8 vk, .int .i64 vn, .string vs] rfl rfl 38 _ HQZ.out (by kernel_rfl) rfl (by simp [Value.oneCell']) ?_)
              generalize hy : wz.setRow _ _ = wy
              have HQY : Hid (wy.heap[q]? = some (.cells #[.int .u8 vk, .int .i64 vn, .string vs] 38)) := Lib.hid (by rw [← hy]; exact setRow_heap _ q _ _ _ _ HQZ.out)
              have KY : Hid (Kp [] wo wy) := Lib.hid (by rw [← hy]; exact KZ.out.setRowQ _ _ (.inr HQB.out))
              clear hy d0 d1 d2
              go_wp2_with (first
                | (refine wpList_load_row rfl 38 _ rfl q rfl 38 #[.int .u8 vk, .int .i64 vn, .string vs] (0, 0) _ HQY.out Try.underlying38 rfl (by kernel_rfl) ?_)
                | (at_builtin; refine wpList_appS vlies rfl (.tmp 79) (.tmp 81) 36 36 rfl w9.heap.size 38 (.agg #[.int .u8 0, .int .i64 0, .string ⟨#[]⟩]) 32 Try.underlying36 infoVal rfl ado capo i D HDL.out [(⟨vk, vn, vs⟩ : V3)] _ 1 rfl rfl rfl ((HOW.out.keep0 KY.out).keep0 ((Kp.refl [] wy).alloc _)) (src_oneS vlies Try.underlying36 (heap_alloc_at rfl)) (by omega) (by omega) (by have h1 := HK.out.size; have h2 := KY.out.size; simp; omega) ?_; intro ad6 cap6 w6 ho6 kp6 _ _; have HO6 := Lib.hid ho6; have HK6 := Lib.hid (((HK.out.tr KY.out).alloc _).trans kp6 (U := []) (by simp) (fun y hy => .inr (HOW.out.ob_ge y hy).1)); clear ho6 kp6))
              go_roundw
              case rel => exact ⟨i + 1, ad6, cap6, D ++ [(⟨vk, vn, vs⟩ : V3)], hlt, by go_num, rfl, Lib.hid (by have := HDL.out; simp; omega), HO6, Lib.hid (by rw [HTK.out, ← HDR.out, HCV.out]), HK6⟩
              case measure => simp [intOf]; omega
            · have HCV : Hid (colV p r = noVal) := Lib.hid (by
                unfold colV
                rw [if_neg (by rw [← HXN.out]; exact fun h => hp h.2)])
              have c1 := C0.out wz KZ.out
              go_wp2_with (first
                | (refine wpList_load_row rfl 38 _ rfl q rfl 38 #[.int .u8 0, .int .i64 0, .string ⟨#[]⟩] (0, 0) _ HQZ.out Try.underlying38 rfl (by kernel_rfl) ?_)
                | (at_builtin; refine wpList_appS vlies rfl (.tmp 79) (.tmp 81) 36 36 rfl w9.heap.size 38 (.agg #[.int .u8 0, .int .i64 0, .string ⟨#[]⟩]) 32 Try.underlying36 infoVal rfl ado capo i D HDL.out [(⟨0, 0, ⟨#[]⟩⟩ : V3)] _ 1 rfl rfl rfl ((HOW.out.keep0 KZ.out).keep0 ((Kp.refl [] wz).alloc _)) (src_oneS vlies Try.underlying36 (heap_alloc_at rfl)) (by omega) (by omega) (by have h1 := HK.out.size; have h2 := KZ.out.size; simp; omega) ?_; intro ad6 cap6 w6 ho6 kp6 _ _; have HO6 := Lib.hid ho6; have HK6 := Lib.hid (((HK.out.tr KZ.out).alloc _).trans kp6 (U := []) (by simp) (fun y hy => .inr (HOW.out.ob_ge y hy).1)); clear ho6 kp6))
              go_roundw
              case rel => exact ⟨i + 1, ad6, cap6, D ++ [(⟨0, 0, ⟨#[]⟩⟩ : V3)], hlt, by go_num, rfl, Lib.hid (by have := HDL.out; simp; omega), HO6, Lib.hid (by rw [HTK.out, ← HDR.out, HCV.out]; rfl), HK6⟩
              case measure => simp [intOf]; omega
          · have HCV : Hid (colV p r = noVal) := Lib.hid (by
              unfold colV
              rw [if_neg (fun h => h0 h.1)])
            go_wp2_with (first
              | (refine wpList_load_row rfl 38 _ rfl q rfl 38 #[.int .u8 0, .int .i64 0, .string ⟨#[]⟩] (0, 0) _ HQZ.out Try.underlying38 rfl (by kernel_rfl) ?_)
              | (at_builtin; refine wpList_appS vlies rfl (.tmp 79) (.tmp 81) 36 36 rfl w9.heap.size 38 (.agg #[.int .u8 0, .int .i64 0, .string ⟨#[]⟩]) 32 Try.underlying36 infoVal rfl ado capo i D HDL.out [(⟨0, 0, ⟨#[]⟩⟩ : V3)] _ 1 rfl rfl rfl ((HOW.out.keep0 KZ.out).keep0 ((Kp.refl [] wz).alloc _)) (src_oneS vlies Try.underlying36 (heap_alloc_at rfl)) (by omega) (by omega) (by have h1 := HK.out.size; have h2 := KZ.out.size; simp; omega) ?_; intro ad6 cap6 w6 ho6 kp6 _ _; have HO6 := Lib.hid ho6; have HK6 := Lib.hid (((HK.out.tr KZ.out).alloc _).trans kp6 (U := []) (by simp) (fun y hy => .inr (HOW.out.ob_ge y hy).1)); clear ho6 kp6))
            go_roundw
            case rel => exact ⟨i + 1, ad6, cap6, D ++ [(⟨0, 0, ⟨#[]⟩⟩ : V3)], hlt, by go_num, rfl, Lib.hid (by have := HDL.out; simp; omega), HO6, Lib.hid (by rw [HTK.out, ← HDR.out, HCV.out]; rfl), HK6⟩
            case measure => simp [intOf]; omega
        · obtain rfl : i = m := by omega
          have HDA : Hid (D = colL p a) := Lib.hid (by rw [HDR.out, HM.out, List.take_length])
          have K0 := Lib.hid (K9.out.tr HK.out)
          go_wp2_with fail
          refine (r18Copy_any ra rc i a HM.out wo (HA.out.keep0 K0.out) (by omega) HRB.out).mono ?_
          rintro e w10 ⟨ia, ic, us, rfl, hou, hus, kp10⟩
          rw [← HM.out]
          have K10 := Lib.hid (K0.out.tr kp10)
          have HOU := Lib.hid hou
          have HUS := Lib.hid hus
          have HUL : Hid (i = us.length) := Lib.hid (by rw [HM.out]; exact (rowA_congr hus).1.symm)
          have HL := Lib.hid (HCOL.out.keep0 ((K59.out.tr HK.out).tr kp10))
          have HW := Lib.hid (HOW.out.keep0 kp10)
          have HC10 := Lib.hid (HOUT.out.keep0 ((K49.out.tr HK.out).tr kp10))
          have HSZ : Hid (w4.heap.size ≤ wo.heap.size ∧ w4.heap.size ≤ w9.heap.size) := Lib.hid ⟨(K49.out.tr HK.out).size, K49.out.size⟩
          clear hou hus kp10 HCOL HOW HOUT K0 K9 K49 K59 HK HRC
          go_wp2_with fail
          go_loopw [88] (fun vi wr => ∃ t : Nat, t ≤ i ∧ vi = .int .i64 t ∧ Hid (OutP wr w3.heap.size (some ⟨g, 0, none⟩) i cs) ∧ Hid (Kp (cs.map blk) w10 wr)) (fun vi _ => i - (intOf vi).toNat)
          case atStart => exact ⟨0, Nat.zero_le _, rfl, HC10, Lib.hid (Kp.refl _ _)⟩
          case round =>
            obtain ⟨t, ht, rfl, HOP, HKC⟩ := hrel
            obtain ⟨wp, rfl⟩ : ∃ wp : World, wp = wr := ⟨_, rfl⟩
            by_cases hlt2 : t < i
            · have htr : t < cs.length := by rw [← HCL.out]; exact hlt2
              obtain ⟨x, hx⟩ : ∃ x, x = cs[t] := ⟨_, rfl⟩
              have hxm : x ∈ cs := by rw [hx]; exact List.getElem_mem _
              have CX : Hid (∀ W, OutP W w3.heap.size (some ⟨g, 0, none⟩) i cs → W.cell? ⟨g, t, none⟩ = some (.slice x.ad x.n x.cap)) := Lib.hid (fun W hW => by
                rw [hx]
                obtain ⟨b, off, h1, h2⟩ := hW.rd.at1 t htr
                cases h1
                rwa [Nat.zero_add] at h2)
              obtain ⟨q, hq1, hq2, -, -, hq4, hq5, hq6⟩ := HOP.out.row x hxm
              have c0 := CX.out wp HOP.out
              have HXM := Lib.hid hxm
              have HQI : Hid (q ∈ cs.map blk) := Lib.hid (by rw [← blk_of hq1]; exact List.mem_map_of_mem hxm)
              obtain ⟨xa, xn, xc, xr⟩ := x
              dsimp only at hq1 hq4 hq5 hq6 c0
              subst hq1
              clear hx hxm htr
              go_wp2_with fail
              go_loopw [96] (fun vk wr => ∃ k : Nat, k ≤ xn ∧ vk = .int .i64 k ∧ Hid (OutP wr w3.heap.size (some ⟨g, 0, none⟩) i cs) ∧ Hid (Kp (cs.map blk) w10 wr)) (fun vk _ => xn - (intOf vk).toNat)
              case atStart => exact ⟨0, Nat.zero_le _, rfl, HOP, HKC⟩
              case round =>
                obtain ⟨k, hk, rfl, HOP, HKC⟩ := hrel
                obtain ⟨wi, rfl⟩ : ∃ wi : World, wi = wr := ⟨_, rfl⟩
                by_cases hlk : k < xn
                · have c1 := CX.out wi HOP.out
                  obtain ⟨q', g1, -, g3, -⟩ := HOP.out.row _ HXM.out
                  cases g1
                  obtain ⟨⟨z, d1⟩, d2⟩ := g3.at' hlk
                  try dsimp only at c1
                  have HSET : Hid (∀ z, OutP (wi.setCell ⟨q, k * 3 + 1, none⟩ (.int .i64 z)) w3.heap.size (some ⟨g, 0, none⟩) i cs) := Lib.hid (fun z => HOP.out.set HXM.out rfl hlk z)
                  clear g3 c0
                  go_wp2_with fail
                  go_roundw
                  case rel => exact ⟨k + 1, hlk, by go_num, Lib.hid (HSET.out _), Lib.hid (HKC.out.setCell _ _ (.inl HQI.out))⟩
                  case measure => simp [intOf]; omega
                · obtain rfl : k = xn := by omega
                  go_wp2_with fail
                  go_roundw
                  case rel => exact ⟨t + 1, hlt2, by go_num, HOP, HKC⟩
                  case measure => simp [intOf]; omega
            · obtain rfl : t = i := by omega
              have HAW : Hid (Kp [] w wp) := Lib.hid (K10.out.trans HKC.out (U := []) (by simp) (fun x hx => .inr (HBK.out x hx).1))
              have hL : RdV wp (some ⟨g2, 0, none⟩) t (colL p a) := HL.out.keep HKC.out (fun x hx _ hm => by
                cases hx
                have h1 := (HBK.out _ hm).2
                have h2 := HG2.out
                dsimp only at h1
                omega)
              have hW : RdV wp ado capo D := (HW.out.keep HKC.out (fun b hb hm => by
                have h1 := (HBK.out _ hm).2
                have h2 := (HW.out.ob_ge b hb).1
                have h3 := HSZ.out
                omega)).rd vlies
              have hU : RdR wp ia ic us := (HOU.out.keep HKC.out (fun x hx => by
                have h1 := (HBK.out x hx).2
                have h3 := HSZ.out
                omega)).rd
              have HL2 := Lib.hid hL
              have HW2 := Lib.hid hW
              have HU2 := Lib.hid hU
              clear hL hW hU
              go_wp2_with fail
              refine (r10Same_any (some ⟨g2, 0, none⟩) t t (colL p a) HCC.out.symm ado capo t D HDL.out wp HL2.out HW2.out).mono ?_
              rintro e w11 ⟨rfl, kp11⟩
              rw [HDA.out, sameL_self]
              have K11 := Lib.hid (HAW.out.tr kp11)
              have HU3 := Lib.hid (HU2.out.keep0 kp11)
              clear kp11
              go_wp2_with fail
              refine (r18Same_any ra rc t a HM.out ia ic t us HUL.out w11 (HA.out.keep0 K11.out) HU3.out).mono ?_
              rintro e w12 ⟨rfl, kp12⟩
              rw [sameR_self HUS.out.symm]
              have K12 := Lib.hid (K11.out.tr kp12)
              clear kp12
              go_wp2_with fail
              refine (known18_any w12).mono ?_
              rintro e w13 ⟨rfl, kp13⟩
              go_wp2_with fail
              go_ret
              exact ⟨rfl, K12.out.tr kp13⟩
    · go_wp2_with fail
      refine (known18_any w3).mono ?_
      rintro e w4 ⟨rfl, kp4⟩
      go_wp2_with fail
      go_ret
      exact ⟨rfl, K3.out.tr kp4⟩
  · go_wp2_with fail
    refine (known18_any w2).mono ?_
    rintro e w3 ⟨rfl, kp3⟩
    go_wp2_with fail
    go_ret
    exact ⟨rfl, K2.out.tr kp3⟩
end Go.Proofs.Ytfacpfogdcefpaa
