/-
  Sections: what is read as a name.
-/
import Derived.Test.YtegnobdablbahaaSec6
import Derived.Test.YtegnobdablbahaaCrcP
namespace Go.Proofs.Ytegnobdablbahaa
open Go.RowKit
set_option linter.unusedSimpArgs false
set_option linter.unusedVariables false

/-- How long the name at a place is to be. -/
def nmN (zs : List Int) (a : Nat) : Nat := (nth zs a).toNat
/-- Its bytes. -/
def nmS (zs : List Int) (a : Nat) : List Int := sub zs (a + 1) (a + 1 + nmN zs a)
/-- What is wrong with it. -/
def nmE (zs : List Int) (a : Nat) : Int :=
  if zs.length ≤ a then 4 else if nmN zs a < 1 ∨ 20 < nmN zs a then 5 else if (nmS zs a).all letter = false then 5 else if zs.length < a + 1 + nmN zs a then 4 else 0
def nmT (zs : List Int) (a : Nat) : ByteArray := if nmE zs a = 0 then strOfNums (nmS zs a) else ⟨#[]⟩
def nmX (zs : List Int) (a : Nat) : Nat := if nmE zs a = 0 then a + 1 + nmN zs a else 0

theorem isNm_str {s : List Int} (h : Bytes8 s) : isNm (strOfNums s) = (s.all letter && decide (1 ≤ s.length ∧ s.length ≤ 20)) := by
  rw [isNm, isNmG, sbytes_str h, strOfNums_size]; rfl
theorem isNm_in {s : List Int} (h : Bytes8 s) (h1 : 1 ≤ s.length) (h2 : s.length ≤ 20) : isNm (strOfNums s) = s.all letter := by
  rw [isNm_str h, decide_eq_true ⟨h1, h2⟩, Bool.and_true]
theorem sub_over (zs : List Int) (a b : Nat) (h : zs.length ≤ b) : sub zs a b = sub zs a zs.length := by
  rw [sub, sub, List.take_of_length_le (by simp; omega), List.take_of_length_le (by simp)]
theorem nth_b8 {zs : List Int} (h : Bytes8 zs) (a : Nat) (ha : a < zs.length) : ∃ m : Nat, nth zs a = (m : Int) ∧ m ≤ 255 := by
  have := h _ (nth_mem ha)
  exact ⟨(nth zs a).toNat, by omega, by omega⟩

set_option maxHeartbeats 800000 in
set_option maxRecDepth 100000 in
theorem xname_any (ad : Option Addr) (cap n a : Nat) (zs : List Int) (hn : n = zs.length) (w : World) (hr : Rd w .u8 ad cap zs) (hb : Bytes8 zs) (hl : n ≤ 1000000000) (ha : a ≤ n) :
    Calls Try.prog 61 #[.slice ad n cap, .int .i64 a] w fun e w' => e = .returned (.tuple #[.string (nmT zs a), .int .i64 (nmX zs a), .int .i64 (nmE zs a)]) ∧ Kp [] w w' := by
  have HR := Lib.hid hr
  have HN := Lib.hid hn
  have HB := Lib.hid hb
  have hcap := hr.1
  rw [← hn] at hcap
  have hcap2 := hr.2.1
  clear hr hn hb
  by_cases h1 : a < n
  · have hal : a < zs.length := by rw [← HN.out]; exact h1
    obtain ⟨b, off, rfl, c0⟩ := HR.out.2.2 a hal
    obtain ⟨m, hm, hm2⟩ := nth_b8 HB.out a hal
    rw [hm] at c0
    have HM : Hid (nmN zs a = m) := Lib.hid (by rw [nmN, hm]; rfl)
    have HAL := Lib.hid hal
    clear hm hal
    by_cases h2 : m < 1
    · have HE : Hid (nmE zs a = 5) := Lib.hid (by rw [nmE, if_neg (by have := HAL.out; omega), HM.out, if_pos (by omega)])
      have h2i : (m : Int) < 1 := by omega
      go_enter Try.func61, Try.ntmps61
      go_wp2_with fail
      go_ret3
      refine ⟨?_, Kp.refl _ _⟩
      rw [nmT, nmX, HE.out]; rfl
    · have h2i : ¬ (m : Int) < 1 := by omega
      by_cases h3 : (20 : Int) < (m : Int)
      · have HE : Hid (nmE zs a = 5) := Lib.hid (by rw [nmE, if_neg (by have := HAL.out; omega), HM.out, if_pos (by omega)])
        go_enter Try.func61, Try.ntmps61
        go_wp2_with fail
        go_ret3
        refine ⟨?_, Kp.refl _ _⟩
        rw [nmT, nmX, HE.out]; rfl
      · by_cases h4 : n < a + 1 + m
        · by_cases h5 : a + 1 < n
          · have hrd : Rd w .u8 (some ⟨b, off + (a + 1), none⟩) (cap - (a + 1)) (sub zs (a + 1) zs.length) := HR.out.slice (by rw [← HN.out]; omega) (Nat.le_refl _)
            rw [← HN.out] at hrd
            have e1 : nmS zs a = sub zs (a + 1) n := by rw [nmS, HM.out, sub_over _ _ _ (by rw [← HN.out]; omega), HN.out]
            have hlen : (sub zs (a + 1) n).length = n - (a + 1) := by rw [sub_length _ _ _ (by rw [HN.out]; exact Nat.le_refl _)]
            have hcv := cvs w _ _ (n - (a + 1)) (sub zs (a + 1) n) hrd hlen.symm
            have hb8 := HB.out.sub (a + 1) n
            have hin := isNm_in hb8 (by rw [hlen]; omega) (by rw [hlen]; omega)
            have hsz : (strOfNums (sub zs (a + 1) n)).size ≤ maxLen := by rw [strOfNums_size, hlen]; unfold maxLen; omega
            have HE1 := Lib.hid e1
            have HIN := Lib.hid hin
            have HSZ := Lib.hid hsz
            clear e1 hlen hrd hb8 hin hsz
            cases hall : (sub zs (a + 1) n).all letter with
            | true =>
              have HE : Hid (nmE zs a = 4) := Lib.hid (by rw [nmE, if_neg (by have := HAL.out; omega), HM.out, if_neg (by omega), HE1.out, hall, if_neg (by simp), if_pos (by rw [← HN.out]; exact h4)])
              have HA := Lib.hid hall
              clear hall
              go_enter Try.func61, Try.ntmps61
              go_wp2_with fail
              refine (xIsName_any _ _ HSZ.out).mono ?_
              rintro e w2 ⟨rfl, kp2⟩
              rw [HIN.out, HA.out]
              go_wp2_with fail
              go_ret3
              refine ⟨?_, kp2⟩
              rw [nmT, nmX, HE.out]; rfl
            | false =>
              have HE : Hid (nmE zs a = 5) := Lib.hid (by rw [nmE, if_neg (by have := HAL.out; omega), HM.out, if_neg (by omega), HE1.out, hall, if_pos rfl])
              have HA := Lib.hid hall
              clear hall
              go_enter Try.func61, Try.ntmps61
              go_wp2_with fail
              refine (xIsName_any _ _ HSZ.out).mono ?_
              rintro e w2 ⟨rfl, kp2⟩
              rw [HIN.out, HA.out]
              go_wp2_with fail
              go_ret3
              refine ⟨?_, kp2⟩
              rw [nmT, nmX, HE.out]; rfl
          · have HE : Hid (nmE zs a = 4) := Lib.hid (by rw [nmE, if_neg (by have := HAL.out; omega), HM.out, if_neg (by omega), show nmS zs a = [] by rw [nmS, HM.out, sub, List.drop_eq_nil_of_le (by rw [← HN.out]; omega)]; simp, if_neg (by simp), if_pos (by rw [← HN.out]; exact h4)])
            go_enter Try.func61, Try.ntmps61
            go_wp2_with fail
            go_ret3
            refine ⟨?_, Kp.refl _ _⟩
            rw [nmT, nmX, HE.out]; rfl
        · have hrd : Rd w .u8 (some ⟨b, off + (a + 1), none⟩) (cap - (a + 1)) (sub zs (a + 1) (a + 1 + m)) := HR.out.slice (by omega) (by rw [← HN.out]; omega)
          have hlen : (sub zs (a + 1) (a + 1 + m)).length = m := by rw [sub_length _ _ _ (by rw [← HN.out]; omega)]; omega
          have e1 : nmS zs a = sub zs (a + 1) (a + 1 + m) := by rw [nmS, HM.out]
          have hcv := cvs w _ _ m (sub zs (a + 1) (a + 1 + m)) hrd hlen.symm
          have hb8 := HB.out.sub (a + 1) (a + 1 + m)
          have hin := isNm_in hb8 (by rw [hlen]; omega) (by rw [hlen]; omega)
          have hsz : (strOfNums (sub zs (a + 1) (a + 1 + m))).size ≤ maxLen := by rw [strOfNums_size, hlen]; unfold maxLen; omega
          have HE1 := Lib.hid e1
          have HIN := Lib.hid hin
          have HSZ := Lib.hid hsz
          clear e1 hlen hrd hb8 hin hsz
          have h4i : ¬ (n : Int) - (a : Int) - 1 < (m : Int) := by omega
          have h4s : ((a : Int) + 1 + (m : Int)).toNat = a + 1 + m := by omega
          cases hall : (sub zs (a + 1) (a + 1 + m)).all letter with
          | true =>
            have HE : Hid (nmE zs a = 0) := Lib.hid (by rw [nmE, if_neg (by have := HAL.out; omega), HM.out, if_neg (by omega), HE1.out, hall, if_neg (by simp), if_neg (by rw [← HN.out]; exact h4)])
            have HA := Lib.hid hall
            clear hall
            go_enter Try.func61, Try.ntmps61
            go_wp2_with fail
            refine (xIsName_any _ _ HSZ.out).mono ?_
            rintro e w2 ⟨rfl, kp2⟩
            rw [HIN.out, HA.out]
            go_wp2_with fail
            go_ret3
            refine ⟨?_, kp2⟩
            rw [nmT, nmX, HE.out, if_pos rfl, if_pos rfl, HE1.out, HM.out, Int.natCast_add, Int.natCast_add]; rfl
          | false =>
            have HE : Hid (nmE zs a = 5) := Lib.hid (by rw [nmE, if_neg (by have := HAL.out; omega), HM.out, if_neg (by omega), HE1.out, hall, if_pos rfl])
            have HA := Lib.hid hall
            clear hall
            go_enter Try.func61, Try.ntmps61
            go_wp2_with fail
            refine (xIsName_any _ _ HSZ.out).mono ?_
            rintro e w2 ⟨rfl, kp2⟩
            rw [HIN.out, HA.out]
            go_wp2_with fail
            go_ret3
            refine ⟨?_, kp2⟩
            rw [nmT, nmX, HE.out]; rfl
  · obtain rfl : a = n := by omega
    have HE : Hid (nmE zs a = 4) := Lib.hid (by rw [nmE, if_pos (by rw [← HN.out]; exact Nat.le_refl _)])
    go_enter Try.func61, Try.ntmps61
    go_wp2_with fail
    go_ret3
    refine ⟨?_, Kp.refl _ _⟩
    rw [nmT, nmX, HE.out]; rfl
end Go.Proofs.Ytegnobdablbahaa
