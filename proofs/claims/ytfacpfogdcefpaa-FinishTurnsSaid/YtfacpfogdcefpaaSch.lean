/-
  Schema: names.
-/
import Derived.Test.YtfacpfogdcefpaaSec
namespace Go.Proofs.Ytfacpfogdcefpaa
open Go.RowKit
set_option linter.unusedSimpArgs false
set_option linter.unusedVariables false

/-- Is a text a column's name? -/
def isNmC (s : ByteArray) : Bool := isNmG 95 64 s

set_option maxHeartbeats 1600000 in
theorem sIsName_any (s : ByteArray) (w : World) (hs : s.size ≤ maxLen) : Calls Try.prog 61 #[.string s] w fun e w' => e = .returned (.bool (isNmC s)) ∧ Kp [] w w' := by
  have hs2 : s.size ≤ 9223372036854775807 := by unfold maxLen at hs; omega
  clear hs
  go_enter Try.func61, Try.ntmps61
  go_wp2_with fail
  go_loopw [4] (fun _ wr => ∃ k : Nat, k ≤ s.size ∧ Hid ((sbytes s).all (letG 95) = ((sbytes s).drop k).all (letG 95)) ∧ wr = w.iter s k) (fun _ wr => s.size - wr.iterPos w.heap.size)
  case atStart => exact ⟨0, Nat.zero_le _, Lib.hid (by simp), rfl⟩
  case round =>
    obtain ⟨k, hk, HX, rfl⟩ := hrel
    by_cases hlt : k < s.size
    · have hst := all_step (letG 95) s k hlt
      have hn := nth_sbytes s k hlt
      by_cases ha : (s[k]'hlt).toNat < 128
      · have hnx := fun ty => run_next_ascii (P := Try.prog) w s k ty hlt ha
        obtain ⟨z, hz⟩ : ∃ z, z = nth (sbytes s) k := ⟨_, rfl⟩
        rw [← hz] at hst hn
        rw [← hn] at hnx
        have HST := Lib.hid hst
        clear hz hn hst ha
        have hyes : letG 95 z = true → Hid ((sbytes s).all (letG 95) = ((sbytes s).drop (k + 1)).all (letG 95)) := fun h => Lib.hid (by rw [HX.out, HST.out, h, Bool.true_and])
        have hno : letG 95 z = false → isNmC s = false := fun h => by rw [isNmC, isNmG, HX.out, HST.out, h]; rfl
        have hly := let_yes 95 z
        have hln := let_no 95 z
        have HYES := Lib.hid hyes
        have HNO := Lib.hid hno
        have HLY := Lib.hid hly
        have HLN := Lib.hid hln
        clear hyes hno hly hln HX HST
        by_cases c1 : z < 97
        · by_cases c2 : z < 48
          · cases c3 : z != 95
            · go_wp2_with fail
              go_roundw
              case rel => exact ⟨k + 1, hlt, HYES.out (HLY.out (by simp at c3; omega)), rfl⟩
              case measure => simp [World.iterPos_iter]; omega
            · go_wp2_with fail
              go_ret
              exact ⟨by rw [HNO.out (HLN.out (by simp at c3; omega))]; rfl, Kp.iter _ _ _⟩
          · by_cases c3 : (57 : Int) < z
            · cases c4 : z != 95
              · go_wp2_with fail
                go_roundw
                case rel => exact ⟨k + 1, hlt, HYES.out (HLY.out (by simp at c4; omega)), rfl⟩
                case measure => simp [World.iterPos_iter]; omega
              · go_wp2_with fail
                go_ret
                exact ⟨by rw [HNO.out (HLN.out (by simp at c4; omega))]; rfl, Kp.iter _ _ _⟩
            · go_wp2_with fail
              go_roundw
              case rel => exact ⟨k + 1, hlt, HYES.out (HLY.out (by omega)), rfl⟩
              case measure => simp [World.iterPos_iter]; omega
        · by_cases c2 : (122 : Int) < z
          · have c4 : (z != 95) = true := by simp; omega
            have c5 : ¬ z < 48 := by omega
            have c6 : (57 : Int) < z := by omega
            go_wp2_with fail
            go_ret
            exact ⟨by rw [HNO.out (HLN.out (by omega))]; rfl, Kp.iter _ _ _⟩
          · go_wp2_with fail
            go_roundw
            case rel => exact ⟨k + 1, hlt, HYES.out (HLY.out (by omega)), rfl⟩
            case measure => simp [World.iterPos_iter]; omega
      · have hnx := fun ty => run_next_any (P := Try.prog) w s k ty hlt
        have hdh := (decode_high s k hlt (by omega)).1
        have hno : isNmC s = false := by
          rw [isNmC, isNmG, HX.out, hst, let_no 95 _ (by rw [hn]; omega)]; rfl
        obtain ⟨r, hr⟩ : ∃ r, r = (Utf8.decode s k).1 := ⟨_, rfl⟩
        obtain ⟨q, hq⟩ : ∃ q, q = k + (Utf8.decode s k).2 := ⟨_, rfl⟩
        simp only [← hr, ← hq] at hnx hdh
        have HNO := Lib.hid hno
        clear hst hn hr hq hno HX ha
        have c1 : ¬ (r : Int) < 97 := by omega
        have c2 : (122 : Int) < (r : Int) := by omega
        have c3 : ¬ (r : Int) < 48 := by omega
        have c4 : (57 : Int) < (r : Int) := by omega
        have c5 : ((r : Int) != 95) = true := by simp; omega
        go_wp2_with fail
        go_ret
        exact ⟨by rw [HNO.out]; rfl, Kp.iter _ _ _⟩
    · obtain rfl : k = s.size := by omega
      have hnx := fun ty => run_next_end (P := Try.prog) w s s.size ty (by omega)
      have HA : Hid ((sbytes s).all (letG 95) = true) := Lib.hid (by rw [HX.out, List.drop_eq_nil_of_le (by rw [sbytes_length]; exact Nat.le_refl _)]; rfl)
      clear HX
      by_cases h1 : (1 : Int) ≤ (s.size : Int)
      · by_cases h2 : (s.size : Int) ≤ 64
        · go_wp2_with fail
          go_ret
          refine ⟨?_, Kp.iter _ _ _⟩
          rw [isNmC, isNmG, HA.out, decide_eq_true (show 1 ≤ s.size ∧ s.size ≤ 64 by omega)]; simp
        · go_wp2_with fail
          go_ret
          refine ⟨?_, Kp.iter _ _ _⟩
          rw [isNmC, isNmG, decide_eq_false (show ¬ (1 ≤ s.size ∧ s.size ≤ 64) by omega)]; simp
      · go_wp2_with fail
        go_ret
        refine ⟨?_, Kp.iter _ _ _⟩
        rw [isNmC, isNmG, decide_eq_false (show ¬ (1 ≤ s.size ∧ s.size ≤ 64) by omega)]; simp

set_option maxHeartbeats 1600000 in
theorem r17name_any (s : ByteArray) (w : World) (hs : s.size ≤ maxLen) : Calls Try.prog 63 #[.string s] w fun e w' => e = .returned (.bool (isNmC s)) ∧ w' = w := by
  have hs2 : s.size ≤ 9223372036854775807 := by unfold maxLen at hs; omega
  clear hs
  go_enter Try.func63, Try.ntmps63
  go_wp2_with fail
  go_loopw [3, 4] (fun vi _ wr => ∃ k : Nat, k ≤ s.size ∧ vi = .int .i64 k ∧ Hid ((sbytes s).all (letG 95) = ((sbytes s).drop k).all (letG 95)) ∧ wr = w) (fun vi _ _ => s.size - (intOf vi).toNat)
  case atStart => exact ⟨0, Nat.zero_le _, rfl, Lib.hid (by simp), rfl⟩
  case round =>
    obtain ⟨k, hk, rfl, HX, rfl⟩ := hrel
    by_cases hlt : k < s.size
    · have hst := all_step (letG 95) s k hlt
      have hn := nth_sbytes s k hlt
      obtain ⟨z, hz⟩ : ∃ z, z = nth (sbytes s) k := ⟨_, rfl⟩
      rw [← hz] at hst hn
      have hn2 := hn.symm
      have HST := Lib.hid hst
      clear hz hn hst
      have hyes : letG 95 z = true → Hid ((sbytes s).all (letG 95) = ((sbytes s).drop (k + 1)).all (letG 95)) := fun h => Lib.hid (by rw [HX.out, HST.out, h, Bool.true_and])
      have hno : letG 95 z = false → isNmC s = false := fun h => by rw [isNmC, isNmG, HX.out, HST.out, h]; rfl
      have hly := let_yes 95 z
      have hln := let_no 95 z
      have HYES := Lib.hid hyes
      have HNO := Lib.hid hno
      have HLY := Lib.hid hly
      have HLN := Lib.hid hln
      clear hyes hno hly hln HX HST
      by_cases c1 : z < 97
      · by_cases c2 : z < 48
        · cases c3 : z != 95
          · go_wp2_with fail
            go_roundw
            case rel => exact ⟨k + 1, hlt, by go_num, HYES.out (HLY.out (by simp at c3; omega)), by first | rfl | trivial⟩
            case measure => simp [intOf]; omega
          · go_wp2_with fail
            go_ret
            exact ⟨by rw [HNO.out (HLN.out (by simp at c3; omega))]; rfl, rfl⟩
        · by_cases c3 : (57 : Int) < z
          · cases c4 : z != 95
            · go_wp2_with fail
              go_roundw
              case rel => exact ⟨k + 1, hlt, by go_num, HYES.out (HLY.out (by simp at c4; omega)), by first | rfl | trivial⟩
              case measure => simp [intOf]; omega
            · go_wp2_with fail
              go_ret
              exact ⟨by rw [HNO.out (HLN.out (by simp at c4; omega))]; rfl, rfl⟩
          · go_wp2_with fail
            go_roundw
            case rel => exact ⟨k + 1, hlt, by go_num, HYES.out (HLY.out (by omega)), by first | rfl | trivial⟩
            case measure => simp [intOf]; omega
      · by_cases c2 : (122 : Int) < z
        · have c4 : (z != 95) = true := by simp; omega
          have c5 : ¬ z < 48 := by omega
          have c6 : (57 : Int) < z := by omega
          go_wp2_with fail
          go_ret
          exact ⟨by rw [HNO.out (HLN.out (by omega))]; rfl, rfl⟩
        · go_wp2_with fail
          go_roundw
          case rel => exact ⟨k + 1, hlt, by go_num, HYES.out (HLY.out (by omega)), by first | rfl | trivial⟩
          case measure => simp [intOf]; omega
    · obtain rfl : k = s.size := by omega
      have HA : Hid ((sbytes s).all (letG 95) = true) := Lib.hid (by rw [HX.out, List.drop_eq_nil_of_le (by rw [sbytes_length]; exact Nat.le_refl _)]; rfl)
      clear HX
      by_cases h1 : (0 : Int) < (s.size : Int)
      · by_cases h2 : (s.size : Int) ≤ 64
        · go_wp2_with fail
          go_ret
          refine ⟨?_, rfl⟩
          rw [isNmC, isNmG, HA.out, decide_eq_true (show 1 ≤ s.size ∧ s.size ≤ 64 by omega)]; simp
        · go_wp2_with fail
          go_ret
          refine ⟨?_, rfl⟩
          rw [isNmC, isNmG, decide_eq_false (show ¬ (1 ≤ s.size ∧ s.size ≤ 64) by omega)]; simp
      · go_wp2_with fail
        go_ret
        refine ⟨?_, rfl⟩
        rw [isNmC, isNmG, decide_eq_false (show ¬ (1 ≤ s.size ∧ s.size ≤ 64) by omega)]; simp
end Go.Proofs.Ytfacpfogdcefpaa
