/-
  Frames: package crc's and the document's.
-/
import Derived.Test.YtegnobdablbahaaCrc
import Derived.Test.YtegnobdablbahaaCurW
import Derived.Test.YtegnobdablbahaaStr
import Derived.Test.YtegnobdablbahaaRegionG
namespace Go.Proofs.Ytegnobdablbahaa
open Go.RowKit
set_option linter.unusedSimpArgs false
set_option linter.unusedVariables false

/-- What is framed. -/
def frB (zs : List Int) : List Int := le zs.length 4 ++ zs ++ le (crc zs) 4
theorem frB_length (zs : List Int) : (frB zs).length = zs.length + 8 := by simp [frB, le_length]; omega
theorem frB_bytes {zs : List Int} (h : Bytes8 zs) : Bytes8 (frB zs) := bytes8_append (bytes8_append (le_bytes _ _) h) (le_bytes _ _)

set_option maxHeartbeats 400000 in
theorem kFrame_any (ad : Option Addr) (cap n : Nat) (zs : List Int) (hn : n = zs.length) (w : World) (hr : Rd w .u8 ad cap zs) (hb : Bytes8 zs) (hl : n ≤ 1073741824) :
    Calls Try.prog 56 #[.slice ad n cap] w fun e w' => ∃ ad' cap', e = .returned (.slice ad' (n + 8) cap') ∧ Own w' w.heap.size 5 .u8 ad' cap' (frB zs) ∧ Kp [] w w' := by
  have HR := Lib.hid hr
  have HN := Lib.hid hn
  have hl2 : ¬ (1073741824 : Int) < (n : Int) := by omega
  have hw : IntKind.u32.wrap (n : Int) = (n : Int) := by rw [IntWalk.u32_in _ (by omega)]
  clear hr hn
  go_enter Try.func56, Try.ntmps56
  go_wp2_with fail
  refine (appU32_any none 0 0 (n : Int) [] rfl _ (Own.nil w 0 5 .u8).rd (by omega) (by omega) (by omega)).mono ?_
  rintro e w1 ⟨ad1, cap1, rfl, ho1, kp1⟩
  rw [List.nil_append, Int.toNat_natCast] at ho1
  have HO1 := Lib.hid ho1
  have HK1 := Lib.hid kp1
  have hs1 := kp1.size
  clear ho1 kp1
  go_wp2_with (at_builtin; refine wpList_app rfl _ _ 39 39 rfl w.heap.size 5 .u8 1 Try.underlying39 infoU8 ad1 cap1 (0 + 4) (le n 4) (by simp [le_length]) zs _ n HN.out rfl rfl HO1.out (by rw [HN.out]; exact src_rd (HR.out.keep0 HK1.out) Try.underlying39) (by omega) (by omega) (by omega) ?_; intro ad2 cap2 w2 ho2 kp2 hob2 _; have HO2 := Lib.hid ho2; have HK2 := Lib.hid (HK1.out.trans kp2 (U := []) (by simp) (fun x hx => .inr (HO1.out.ob_ge x hx).1)); have hs2 := Nat.le_trans hs1 kp2.size; clear ho2 kp2 hob2)
  refine (kSum_any ad cap n zs HN.out _ (HR.out.keep0 HK2.out) hb (by omega)).mono ?_
  rintro e w3 ⟨rfl, kp3⟩
  have HK3 := Lib.hid kp3
  have hc := crc_lt zs
  obtain ⟨c, hcc⟩ : ∃ c, c = crc zs := ⟨_, rfl⟩
  rw [← hcc] at hc ⊢
  have HC := Lib.hid hcc
  clear hcc kp3
  go_wp2_with fail
  refine (appU32_any ad2 cap2 (0 + 4 + n) (c : Int) (le n 4 ++ zs) (by simp [le_length]; exact HN.out) _ ((HO2.out.rd).keep0 HK3.out) (by omega) (by omega) (by omega)).mono ?_
  rintro e w4 ⟨ad4, cap4, rfl, ho4, kp4⟩
  go_wp2_with fail
  go_ret
  refine ⟨ad4, cap4, ?_, ?_, (HK2.out.tr HK3.out).tr kp4⟩
  · rw [show 0 + 4 + n + 4 = n + 8 by omega]; rfl
  · rw [Int.toNat_natCast, HC.out] at ho4
    rw [frB, ← HN.out]
    exact ho4.mono (Nat.le_trans hs2 HK3.out.size)

set_option maxHeartbeats 400000 in
theorem r03Frame_any (ad : Option Addr) (cap n : Nat) (zs : List Int) (hn : n = zs.length) (w : World) (hr : Rd w .u8 ad cap zs) (hb : Bytes8 zs) (hl : n ≤ 1073741824) :
    Calls Try.prog 60 #[.slice ad n cap] w fun e w' => ∃ ad' cap', e = .returned (.slice ad' (n + 8) cap') ∧ Own w' w.heap.size 5 .u8 ad' cap' (frB zs) ∧ Kp [] w w' := by
  have HR := Lib.hid hr
  have HN := Lib.hid hn
  have hw : IntKind.u64.wrap (n : Int) = (n : Int) := by rw [IntWalk.u64_in _ (by omega)]
  clear hr hn
  go_enter Try.func60, Try.ntmps60
  go_wp2_with fail
  refine (little_any n 4 w (by omega) (by omega)).mono ?_
  rintro e w1 ⟨ad1, cap1, rfl, ho1, kp1⟩
  have HO1 := Lib.hid ho1
  have HK1 := Lib.hid kp1
  have hs1 := kp1.size
  clear ho1 kp1
  go_wp2_with (at_builtin; refine wpList_app rfl _ _ 39 39 rfl w.heap.size 5 .u8 1 Try.underlying39 infoU8 ad1 cap1 4 (le n 4) (by simp [le_length]) zs _ n HN.out rfl rfl HO1.out (by rw [HN.out]; exact src_rd (HR.out.keep0 HK1.out) Try.underlying39) (by omega) (by omega) (by omega) ?_; intro ad2 cap2 w2 ho2 kp2 hob2 _; have HO2 := Lib.hid ho2; have HK2 := Lib.hid (HK1.out.trans kp2 (U := []) (by simp) (fun x hx => .inr (HO1.out.ob_ge x hx).1)); have hs2 := Nat.le_trans hs1 kp2.size; clear ho2 kp2 hob2)
  refine (r03Sum_any ad cap n zs HN.out _ (HR.out.keep0 HK2.out) hb (by omega)).mono ?_
  rintro e w3 ⟨rfl, rfl⟩
  have hc := crc_lt zs
  obtain ⟨c, hcc⟩ : ∃ c, c = crc zs := ⟨_, rfl⟩
  rw [← hcc] at hc ⊢
  have HC := Lib.hid hcc
  clear hcc
  go_wp2_with fail
  refine (little_any c 4 _ (by omega) (by omega)).mono ?_
  rintro e w4 ⟨ad4, cap4, rfl, ho4, kp4⟩
  have HO4 := Lib.hid ho4
  have HK4 := Lib.hid kp4
  have hs4 := kp4.size
  clear ho4 kp4
  go_wp2_with (at_builtin; refine wpList_app rfl _ _ 39 39 rfl w.heap.size 5 .u8 1 Try.underlying39 infoU8 ad2 cap2 (4 + n) (le n 4 ++ zs) (by simp [le_length]; exact HN.out) (le c 4) _ 4 (by simp [le_length]) rfl rfl (HO2.out.keep0 HK4.out) (by have := src_rd HO4.out.rd (tx := 39) (e' := 5) Try.underlying39; rw [le_length] at this; exact this) (by omega) (by omega) (by omega) ?_; intro ad5 cap5 w5 ho5 kp5 hob5 _)
  go_ret
  refine ⟨ad5, cap5, ?_, ?_, (HK2.out.tr HK4.out).trans kp5 (by simp) (fun x hx => .inr ?_)⟩
  · rw [show 4 + n + 4 = n + 8 by omega]; rfl
  · rw [frB, ← HN.out, ← HC.out]; exact ho5
  · exact (HO2.out.ob_ge x hx).1
end Go.Proofs.Ytegnobdablbahaa
