/-
  Layer 3: what is framed is had again.
-/
import Derived.Test.YtlcilinobdjlaaaCrc6
import Derived.Test.YtlcilinobdjlaaaCrcP
namespace Go.Proofs.Ytlcilinobdjlaaa
open Go.RowKit
set_option linter.unusedSimpArgs false
set_option linter.unusedVariables false

set_option maxRecDepth 100000 in
set_option maxHeartbeats 800000 in
theorem crcBack_any (a0 : Option Addr) (cap0 n0 : Nat) (p : List Int) (a1 : Option Addr) (cap1 n1 : Nat) (b : List Int) (a2 : Option Addr) (cap2 n2 : Nat) (r : List Int) (hn0 : n0 = p.length) (hn1 : n1 = b.length) (hn2 : n2 = r.length) (w : World)
    (hr0 : Rd w .u8 a0 cap0 p) (hr1 : Rd w .u8 a1 cap1 b) (hr2 : Rd w .u8 a2 cap2 r) (hb0 : Bytes8 p) (hb1 : Bytes8 b) (hb2 : Bytes8 r) :
    Calls Try.prog 5 #[.slice a0 n0 cap0, .slice a1 n1 cap1, .slice a2 n2 cap2] w fun e w' => e = .returned (.bool true) ∧ Kp [] w w' := by
  have HR0 := Lib.hid hr0
  have HR1 := Lib.hid hr1
  have HR2 := Lib.hid hr2
  have HN0 := Lib.hid hn0
  have HN1 := Lib.hid hn1
  have HN2 := Lib.hid hn2
  clear hr0 hr1 hr2 hn0 hn1 hn2
  by_cases h0 : (1000 : Int) < (n0 : Int)
  · go_enter Try.func5, Try.ntmps5
    go_wp2_with fail
    refine (known03_any _).mono ?_
    rintro e w1 ⟨rfl, kp1⟩
    go_wp2_with fail
    go_ret
    exact ⟨rfl, kp1⟩
  by_cases h1 : (1000 : Int) < (n1 : Int)
  · go_enter Try.func5, Try.ntmps5
    go_wp2_with fail
    refine (known03_any _).mono ?_
    rintro e w1 ⟨rfl, kp1⟩
    go_wp2_with fail
    go_ret
    exact ⟨rfl, kp1⟩
  by_cases h2 : (1000 : Int) < (n2 : Int)
  · go_enter Try.func5, Try.ntmps5
    go_wp2_with fail
    refine (known03_any _).mono ?_
    rintro e w1 ⟨rfl, kp1⟩
    go_wp2_with fail
    go_ret
    exact ⟨rfl, kp1⟩
  go_enter Try.func5, Try.ntmps5
  go_wp2_with fail
  refine (kFrame_any a1 cap1 n1 b HN1.out _ HR1.out hb1 (by omega)).mono ?_
  rintro e w1 ⟨ad1, cap1', rfl, ho1, kp1⟩
  have HO1 := Lib.hid ho1
  have HK1 := Lib.hid kp1
  have hs1 := kp1.size
  have hfl := frB_length b
  rw [← HN1.out] at hfl
  have HFL := Lib.hid hfl
  clear ho1 kp1 hfl
  go_wp2_with first
    | (at_builtin; refine wpList_copyB rfl (.tmp 28) (.tmp 29) 22 22 rfl w.heap.size 5 .u8 1 Try.underlying22 Try.underlying22 infoU8 (some ⟨w1.heap.size, 0, none⟩) a0 cap0 n0 p HN0.out rfl rfl ((HR0.out.keep0 HK1.out).alloc _) (by omega) (by omega) (by simp; omega) ?_; intro ad2 cap2' w2 ho2 kp2; have HO2 := Lib.hid ho2; have HK2 := Lib.hid (HK1.out.tr (((Kp.refl [] w1).alloc _).tr kp2)); have hs2 := HK2.out.size; have HK12 := Lib.hid (((Kp.refl [] w1).alloc (Obj.cells #[] 5)).tr kp2); clear ho2 kp2)
    | (at_builtin; refine wpList_app rfl (.tmp 30) (.tmp 31) 22 22 rfl w.heap.size 5 .u8 1 Try.underlying22 infoU8 ad2 cap2' n0 p HN0.out (frB b) _ (n1 + 8) HFL.out.symm rfl rfl HO2.out (by rw [← HFL.out]; exact src_rd (HO1.out.rd.keep0 HK12.out) Try.underlying22) (by omega) (by omega) (by omega) ?_; intro ad3 cap3 w3 ho3 kp3 hob3 _; have HO3 := Lib.hid ho3; have HK3 := Lib.hid (HK2.out.trans kp3 (U := []) (by simp) (fun x hx => .inr (HO2.out.ob_ge x hx).1)); have hs3 := HK3.out.size; clear ho3 kp3 hob3)
    | (at_builtin; refine wpList_app rfl (.tmp 32) (.tmp 33) 22 22 rfl w.heap.size 5 .u8 1 Try.underlying22 infoU8 ad3 cap3 (n0 + (n1 + 8)) (p ++ frB b) (by rw [List.length_append, ← HN0.out, HFL.out]) r _ n2 HN2.out rfl rfl HO3.out (by rw [HN2.out]; exact src_rd (HR2.out.keep0 HK3.out) Try.underlying22) (by omega) (by omega) (by omega) ?_; intro ad4 cap4 w4 ho4 kp4 hob4 _; have HO4 := Lib.hid ho4; have HK4 := Lib.hid (HK3.out.trans kp4 (U := []) (by simp) (fun x hx => .inr (HO3.out.ob_ge x hx).1)); have hs4 := HK4.out.size; clear ho4 kp4 hob4)
  obtain ⟨u0, u1, u2⟩ := un_fr p b r (by rw [← HN1.out]; omega) (n0 : Int) (by rw [HN0.out])
  rw [← HN1.out] at u2
  have hlen : n0 + (n1 + 8) + n2 = (p ++ (frB b ++ r)).length := by simp only [List.length_append]; rw [← HN0.out, HFL.out, ← HN2.out]; omega
  have hrd : Rd w4 .u8 ad4 cap4 (p ++ (frB b ++ r)) := by rw [← List.append_assoc]; exact HO4.out.rd
  refine (kUnframe_any ad4 cap4 (n0 + (n1 + 8) + n2) (n0 : Int) (p ++ (frB b ++ r)) hlen _ hrd (bytes8_append hb0 (bytes8_append (frB_bytes hb1) hb2)) (by omega)).mono ?_
  rintro e w5 ⟨ad5, cap5, rfl, ho5, kp5⟩
  rw [u1] at ho5
  rw [u0, u1, u2, ← HN1.out]
  have hv1 := cvs w5 ad5 cap5 n1 b ho5.rd HN1.out
  have hv2 := cvs w5 a1 cap1 n1 b (HR1.out.keep0 (HK4.out.tr kp5)) HN1.out
  have HK5 := Lib.hid (HK4.out.tr kp5)
  have hw : IntKind.i64.wrap ((n0 : Int) + ((n1 : Int) + 8)) = (n0 : Int) + ((n1 : Int) + 8) := by rw [IntWalk.i64_in _ (by omega)]
  have hw2 : IntKind.i64.wrap ((n1 : Int) + 8) = (n1 : Int) + 8 := by rw [IntWalk.i64_in _ (by omega)]
  clear u0 u1 u2 hlen hrd ho5 kp5
  go_wp2_with fail
  refine (known03_any _).mono ?_
  rintro e w6 ⟨rfl, kp6⟩
  go_wp2_with fail
  go_ret
  exact ⟨rfl, HK5.out.tr kp6⟩
end Go.Proofs.Ytlcilinobdjlaaa
