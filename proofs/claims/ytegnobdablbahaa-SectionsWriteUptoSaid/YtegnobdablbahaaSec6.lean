/-
  Sections: what package sections writes.
-/
import Derived.Test.YtegnobdablbahaaSec5
namespace Go.Proofs.Ytegnobdablbahaa
open Go.RowKit
set_option linter.unusedSimpArgs false
set_option linter.unusedVariables false

/-- What is written. -/
def wrB (l : List Sec) : List Int := if mayP l = 0 then imgB l else []

set_option maxHeartbeats 800000 in
set_option maxRecDepth 100000 in
theorem xWrite_any (ad : Option Addr) (cap n : Nat) (l : List Sec) (hn : n = l.length) (w : World) (h : RdX w ad cap l) (hs : RdXs w l) (ho : XOk l) :
    Calls Try.prog 32 #[.slice ad n cap] w fun e w' => ∃ ad' cap', e = .returned (.tuple #[.slice ad' (wrB l).length cap', .int .i64 (mayP l)]) ∧ Own w' w.heap.size 5 .u8 ad' cap' (wrB l) ∧ Kp [] w w' := by
  have H := Lib.hid h
  have HS := Lib.hid hs
  have HN := Lib.hid hn
  have hcap := h.1
  rw [← hn] at hcap
  have hcap2 := h.2.1
  clear h hn hs
  by_cases h0 : mayP l = 0
  · have HM := Lib.hid (mayP_ok h0)
    have hn2 : n ≤ 2000 := by rw [HN.out]; exact HM.out.1
    have H0 := Lib.hid h0
    have hw : IntKind.u16.wrap (n : Int) = (n : Int) := by rw [IntWalk.u16_in _ (by omega)]
    clear h0
    have hcv := fun wx : World => Go.Joins.run_convert_bytes_const_at (P := Try.prog) wx 39 5 (ints .u8 [73, 83, 71, 76]) 4 4 wx.heap.size rfl Try.underlying39 Try.underlying5
    simp only [ints, List.map_cons, List.map_nil] at hcv
    go_enter Try.func32, Try.ntmps32
    go_wp2_with fail
    refine (xmay_any ad cap n l HN.out w H.out ho).mono ?_
    rintro e w0 ⟨rfl, kp0⟩
    rw [H0.out]
    have HK0 := Lib.hid kp0
    clear kp0
    go_wp2_with fail
    obtain ⟨wz, hwz⟩ : ∃ wz, wz = w0.alloc (Obj.cells #[Value.int IntKind.u8 73, Value.int IntKind.u8 83, Value.int IntKind.u8 71, Value.int IntKind.u8 76] 5 (4, 5)) := ⟨_, rfl⟩
    rw [← hwz]
    have hrz : Rd wz .u8 (some ⟨w0.heap.size, 0, none⟩) 4 [73, 83, 71, 76] := by rw [hwz]; exact rd_row (heap_alloc_at rfl) (by decide)
    have HKz := Lib.hid (HK0.out.tr (show Kp [] w0 wz by rw [hwz]; exact (Kp.refl [] w0).alloc _))
    clear hwz
    refine (appU16_any (some ⟨w0.heap.size, 0, none⟩) 4 4 (n : Int) [73, 83, 71, 76] rfl _ hrz (by omega) (by omega) (by omega)).mono ?_
    rintro e w2 ⟨ad2, cap2, rfl, ho2, kp2⟩
    rw [Int.toNat_natCast] at ho2
    have HO2 := Lib.hid (ho2.mono HKz.out.size)
    have HK2 := Lib.hid (HKz.out.tr kp2)
    clear ho2 kp2 hrz
    go_wp2_with fail
    go_loopw [5, 7, 21] (fun vb _ vi wr => ∃ (k m : Nat) (ad' : Option Addr) (cap' : Nat), k ≤ n ∧ vi = .int .i64 k ∧ vb = .slice ad' m cap' ∧ m ≤ 6 + 1073741900 * k ∧ Hid (m = (imgK l k).length) ∧ Hid (Own wr w.heap.size 5 .u8 ad' cap' (imgK l k)) ∧ Hid (Kp [] w wr)) (fun _ _ vi _ => n - (intOf vi).toNat)
    case atStart =>
      have e0 : imgK l 0 = [73, 83, 71, 76] ++ le n 2 := by rw [HN.out]; simp [imgK, headB]
      exact ⟨0, 6, ad2, cap2, Nat.zero_le _, rfl, rfl, by omega, Lib.hid (by rw [e0]; simp [le_length]), Lib.hid (by rw [e0]; exact HO2.out), HK2⟩
    case round =>
      obtain ⟨k, m, ad', cap', hk, rfl, rfl, hm, HL, HO, HK⟩ := hrel
      by_cases hlt : k < n
      · have hkl : k < l.length := by rw [← HN.out]; exact hlt
        obtain ⟨b, off, rfl, c0, c1⟩ := (H.out.keep0 HK.out).atX k hkl
        have hx1 := HS.out (atX l k) (by rw [atX_eq l k hkl]; exact List.getElem_mem _)
        have hb1 := (ho.at' k hkl).1
        obtain ⟨hz1, hz2, hz3⟩ := HM.out.at' k hkl
        have hst := imgK_step l k hkl
        obtain ⟨x, hx⟩ : ∃ x, x = atX l k := ⟨_, rfl⟩
        rw [← hx] at c0 c1 hx1 hb1 hz1 hz2 hz3 hst
        have hw8 : IntKind.u8.wrap (x.nm.size : Int) = (x.nm.size : Int) := by rw [IntWalk.u8_in _ (by omega)]
        have HX := Lib.hid hx1
        have HST := Lib.hid hst
        have HB := Lib.hid hb1
        have hwr := HK.out.size
        clear hx hkl hx1 hst hb1 hcv
        have hni : wr.heap.size ∉ ob ad' cap' := fun hb => by have := (HO.out.ob_ge _ hb).2; omega
        go_wp2_with first
          | (at_builtin; refine wpList_app rfl (.tmp 25) (.tmp 30) 39 39 rfl w.heap.size 5 .u8 1 Try.underlying39 infoU8 ad' cap' m (imgK l k) HL.out [(x.nm.size : Int)] _ 1 rfl rfl rfl ((HO.out.alloc _).alloc _) (src_one Try.underlying39 (World.cell?_alloc_at _ _ _ _ (by simp))) (by omega) (by omega) (by simp; omega) ?_; intro ad3 cap3 w3 ho3 kp3 hob3 _; have HO3 := Lib.hid ho3; have HK3 := Lib.hid (((HK.out.alloc _).alloc _).trans kp3 (U := []) (by simp) (fun y hy => .inr (HO.out.ob_ge y hy).1)); have hs3 := HK3.out.size; have d0 : w3.cell? ⟨wr.heap.size, 0, none⟩ = some (.string x.nm) := kp3.cell (cell_alloc (by simp)) hni; have d1 : w3.cell? ⟨wr.heap.size, 1, none⟩ = some (.slice x.ad x.bs.length x.cap) := kp3.cell (cell_alloc (by simp)) hni; have hni3 : wr.heap.size ∉ ob ad3 cap3 := (fun hb => by rcases hob3 _ hb with h | h; exact hni h; simp at h; omega); clear ho3 kp3 hob3)
          | (at_builtin; refine wpList_app rfl (.tmp 32) (.tmp 34) 39 9 rfl w.heap.size 5 .u8 1 Try.underlying39 infoU8 ad3 cap3 (m + 1) (imgK l k ++ [(x.nm.size : Int)]) (by rw [List.length_append, ← HL.out]; rfl) (sbytes x.nm) (.string x.nm) x.nm.size (sbytes_length _).symm rfl rfl HO3.out (byteCells_sb x.nm ▸ Src.ofString _ Try.underlying9 x.nm) (by omega) (by omega) hs3 ?_; intro ad4 cap4 w4 ho4 kp4 hob4 _; have HO4 := Lib.hid ho4; have HK4 := Lib.hid (HK3.out.trans kp4 (U := []) (by simp) (fun y hy => .inr (HO3.out.ob_ge y hy).1)); have hs4 := HK4.out.size; have d3 : w4.cell? ⟨wr.heap.size, 1, none⟩ = some (.slice x.ad x.bs.length x.cap) := kp4.cell d1 hni3; clear ho4 kp4 hob4 d0 d1)
        refine (kFrame_any x.ad x.cap x.bs.length x.bs rfl _ (HX.out.keep0 HK4.out) HB.out hz3).mono ?_
        rintro e w5 ⟨ad5, cap5, rfl, ho5, kp5⟩
        have HO5 := Lib.hid ho5
        have HK5 := Lib.hid (HK4.out.tr kp5)
        have HO6 := Lib.hid (HO4.out.keep0 kp5)
        have hs5 := HK5.out.size
        clear ho5 kp5
        go_wp2_with (at_builtin; refine wpList_app rfl (.tmp 36) (.tmp 39) 39 39 rfl w.heap.size 5 .u8 1 Try.underlying39 infoU8 ad4 cap4 (m + 1 + x.nm.size) (imgK l k ++ [(x.nm.size : Int)] ++ sbytes x.nm) (by rw [List.length_append, List.length_append, ← HL.out, sbytes_length]; rfl) (frB x.bs) _ (x.bs.length + 8) (frB_length _).symm rfl rfl HO6.out (by have := src_rd HO5.out.rd (tx := 39) (e' := 5) Try.underlying39; rw [frB_length] at this; exact this) (by omega) (by omega) hs5 ?_; intro ad6 cap6 w6 ho6 kp6 hob6 _; have HO7 := Lib.hid ho6; have HK6 := Lib.hid (HK5.out.trans kp6 (U := []) (by simp) (fun y hy => .inr (HO6.out.ob_ge y hy).1)); clear ho6 kp6 hob6)
        go_roundw
        case rel =>
          have e1 : imgK l (k + 1) = imgK l k ++ [(x.nm.size : Int)] ++ sbytes x.nm ++ frB x.bs := by rw [HST.out, secB]; simp only [List.append_assoc]
          refine ⟨k + 1, m + 1 + x.nm.size + (x.bs.length + 8), ad6, cap6, hlt, by go_num, rfl, by omega, Lib.hid ?_, Lib.hid ?_, HK6⟩
          · rw [e1]; simp only [List.length_append, ← HL.out, sbytes_length, frB_length]; rfl
          · rw [e1]; exact HO7.out
        case measure => simp [intOf]; omega
      · obtain rfl : k = n := by omega
        go_wp2_with fail
        go_ret2
        have e1 : imgK l k = wrB l := by rw [wrB, if_pos H0.out, HN.out]; exact imgK_all l
        have h1 := HL.out
        have h2 := HO.out
        rw [e1] at h1 h2
        exact ⟨ad', cap', by rw [← h1, H0.out]; rfl, h2, HK.out⟩
  · have hq : (mayP l != 0) = true := by simpa using h0
    have H0 := Lib.hid h0
    obtain ⟨z, hz⟩ : ∃ z, z = mayP l := ⟨_, rfl⟩
    rw [← hz] at hq
    have HZ := Lib.hid hz
    clear h0 hz
    go_enter Try.func32, Try.ntmps32
    go_wp2_with fail
    refine (xmay_any ad cap n l HN.out w H.out ho).mono ?_
    rintro e w0 ⟨rfl, kp0⟩
    rw [← HZ.out]
    go_wp2_with fail
    go_ret2
    have e1 : wrB l = [] := by rw [wrB, if_neg H0.out]
    exact ⟨none, 0, by rw [e1, ← HZ.out]; rfl, by rw [e1]; exact Own.nil _ _ _ _, kp0⟩
end Go.Proofs.Ytegnobdablbahaa
