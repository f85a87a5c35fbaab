/-
  Sections: letters and names.
-/
import Derived.Test.YtegnobdablbahaaRowO
import Derived.Test.YtegnobdablbahaaCrc4
import Derived.Laws.RangeString
import Derived.Laws.RangeAny
namespace Go.Proofs.Ytegnobdablbahaa
open Go.RowKit
set_option linter.unusedSimpArgs false
set_option linter.unusedVariables false

/-- A string's bytes. -/
def sbytes (s : ByteArray) : List Int := s.data.toList.map fun b => (b.toNat : Int)
theorem sbytes_length (s : ByteArray) : (sbytes s).length = s.size := by simp [sbytes]
theorem byteCells_sb (s : ByteArray) : byteCells s = (sbytes s).map (Value.int .u8) := by simp [byteCells, sbytes]
theorem sbytes_b8 (s : ByteArray) : Bytes8 (sbytes s) := fun z hz => by
  obtain ⟨b, -, rfl⟩ := List.mem_map.1 hz
  have := b.toNat_lt; omega
theorem str_sbytes (s : ByteArray) : strOfNums (sbytes s) = s := by
  apply ByteArray.ext
  apply Array.toList_inj.1
  rw [strOfNums_data, sbytes, List.map_map]
  conv => rhs; rw [← List.map_id s.data.toList]
  refine List.map_congr_left fun b _ => ?_
  simp
theorem sbytes_str {zs : List Int} (h : Bytes8 zs) : sbytes (strOfNums zs) = zs := by
  rw [sbytes, strOfNums_data, List.map_map]
  conv => rhs; rw [← List.map_id zs]
  refine List.map_congr_left fun z hz => ?_
  have := h z hz
  simp; omega
theorem nth_sbytes (s : ByteArray) (i : Nat) (h : i < s.size) : nth (sbytes s) i = ((s[i]'h).toNat : Int) := by
  have h2 : i < s.data.toList.length := by simpa using h
  simp only [nth, sbytes, List.getD_eq_getElem?_getD, List.getElem?_map, List.getElem?_eq_getElem h2]
  rfl

def letG (c z : Int) : Bool := decide (97 ≤ z ∧ z ≤ 122) || decide (48 ≤ z ∧ z ≤ 57) || decide (z = c)
/-- Is a text a name of letters, digits and c, of at most m bytes? -/
def isNmG (c : Int) (m : Nat) (s : ByteArray) : Bool := (sbytes s).all (letG c) && decide (1 ≤ s.size ∧ s.size ≤ m)
def letter (z : Int) : Bool := letG 46 z
/-- Is a text a section's name? -/
def isNm (s : ByteArray) : Bool := isNmG 46 20 s
theorem let_yes (c z : Int) (h : (97 ≤ z ∧ z ≤ 122) ∨ (48 ≤ z ∧ z ≤ 57) ∨ z = c) : letG c z = true := by simp [letG]; omega
theorem let_no (c z : Int) (h : ¬ ((97 ≤ z ∧ z ≤ 122) ∨ (48 ≤ z ∧ z ≤ 57) ∨ z = c)) : letG c z = false := by simp [letG]; omega

theorem letter_any (z : Int) (w : World) : Calls Try.prog 63 #[.int .u8 z] w fun e w' => e = .returned (.bool (letter z)) ∧ w' = w := by
  by_cases h1 : 97 ≤ z
  · by_cases h2 : z ≤ 122
    · have e : letter z = true := by simp [letter, letG]; omega
      rw [e]
      clear e
      go_enter Try.func63, Try.ntmps63
      go_wp2
      go_ret
      exact ⟨rfl, rfl⟩
    · have e : letter z = false := by simp [letter, letG]; omega
      rw [e]
      clear e
      have h3 : ¬ z ≤ 57 := by omega
      have h4 : (z == 46) = false := by simp; omega
      have h5 : 48 ≤ z := by omega
      go_enter Try.func63, Try.ntmps63
      go_wp2
      go_ret
      exact ⟨rfl, rfl⟩
  · by_cases h2 : 48 ≤ z
    · by_cases h3 : z ≤ 57
      · have e : letter z = true := by simp [letter, letG]; omega
        rw [e]
        clear e
        go_enter Try.func63, Try.ntmps63
        go_wp2
        go_ret
        exact ⟨rfl, rfl⟩
      · have e : letter z = false := by simp [letter, letG]; omega
        rw [e]
        clear e
        have h4 : (z == 46) = false := by simp; omega
        go_enter Try.func63, Try.ntmps63
        go_wp2
        go_ret
        exact ⟨rfl, rfl⟩
    · cases h4 : z == 46
      · have e : letter z = false := by simp at h4; simp [letter, letG]; omega
        rw [e]
        clear e
        go_enter Try.func63, Try.ntmps63
        go_wp2
        go_ret
        exact ⟨rfl, rfl⟩
      · have e : letter z = true := by simp at h4; simp [letter, letG]; omega
        rw [e]
        clear e
        go_enter Try.func63, Try.ntmps63
        go_wp2
        go_ret
        exact ⟨rfl, rfl⟩

theorem all_step (f : Int → Bool) (s : ByteArray) (k : Nat) (h : k < s.size) : ((sbytes s).drop k).all f = (f (nth (sbytes s) k) && ((sbytes s).drop (k + 1)).all f) := by
  have h2 : k < (sbytes s).length := by rw [sbytes_length]; exact h
  rw [List.drop_eq_getElem_cons h2, List.all_cons]; simp [nth, h2]

set_option maxHeartbeats 400000 in
theorem r21Name_any (s : ByteArray) (w : World) (hs : s.size ≤ maxLen) : Calls Try.prog 57 #[.string s] w fun e w' => e = .returned (.bool (isNm s)) ∧ w' = w := by
  have hs2 : s.size ≤ 9223372036854775807 := by unfold maxLen at hs; omega
  clear hs
  go_enter Try.func57, Try.ntmps57
  go_wp2_with fail
  go_loopw [3] (fun vi wr => ∃ k : Nat, k ≤ s.size ∧ vi = .int .i64 k ∧ Hid ((sbytes s).all letter = ((sbytes s).drop k).all letter) ∧ wr = w) (fun vi _ => s.size - (intOf vi).toNat)
  case atStart => exact ⟨0, Nat.zero_le _, rfl, Lib.hid (by simp), rfl⟩
  case round =>
    obtain ⟨k, hk, rfl, HX, rfl⟩ := hrel
    by_cases hlt : k < s.size
    · have hst := all_step letter s k hlt
      have hn := nth_sbytes s k hlt
      obtain ⟨z, hz⟩ : ∃ z, z = nth (sbytes s) k := ⟨_, rfl⟩
      rw [← hz] at hst hn
      have hn2 := hn.symm
      have HST := Lib.hid hst
      clear hz hn hst
      cases hl : letter z with
      | true =>
        have HL := Lib.hid hl
        clear hl
        go_wp2_with (go_at_call 63; refine (letter_any _ _).mono ?_; rintro e w7 ⟨rfl, rfl⟩; rw [HL.out])
        go_roundw
        case rel => exact ⟨k + 1, hlt, by go_num, Lib.hid (by rw [HX.out, HST.out, HL.out, Bool.true_and]), by first | rfl | trivial⟩
        case measure => simp [intOf]; omega
      | false =>
        have HL := Lib.hid hl
        clear hl
        go_wp2_with (go_at_call 63; refine (letter_any _ _).mono ?_; rintro e w7 ⟨rfl, rfl⟩; rw [HL.out])
        go_ret
        refine ⟨?_, rfl⟩
        rw [isNm, isNmG, show (sbytes s).all (letG 46) = (sbytes s).all letter from rfl, HX.out, HST.out, HL.out]; rfl
    · obtain rfl : k = s.size := by omega
      have hall : (sbytes s).all letter = true := by rw [HX.out, List.drop_eq_nil_of_le (by rw [sbytes_length]; exact Nat.le_refl _)]; rfl
      have HA := Lib.hid hall
      clear hall HX
      by_cases h1 : (1 : Int) ≤ (s.size : Int)
      · by_cases h2 : (s.size : Int) ≤ 20
        · go_wp2_with fail
          go_ret
          refine ⟨?_, rfl⟩
          rw [isNm, isNmG, show (sbytes s).all (letG 46) = true from HA.out, decide_eq_true (show 1 ≤ s.size ∧ s.size ≤ 20 by omega)]; simp
        · go_wp2_with fail
          go_ret
          refine ⟨?_, rfl⟩
          rw [isNm, isNmG, decide_eq_false (show ¬ (1 ≤ s.size ∧ s.size ≤ 20) by omega)]; simp
      · go_wp2_with fail
        go_ret
        refine ⟨?_, rfl⟩
        rw [isNm, isNmG, decide_eq_false (show ¬ (1 ≤ s.size ∧ s.size ≤ 20) by omega)]; simp

theorem Kp.iter (w : World) (s : ByteArray) (k : Nat) : Kp [] w (w.iter s k) := (Kp.refl [] w).alloc _

set_option maxHeartbeats 1600000 in
theorem xIsName_any (s : ByteArray) (w : World) (hs : s.size ≤ maxLen) : Calls Try.prog 72 #[.string s] w fun e w' => e = .returned (.bool (isNm s)) ∧ Kp [] w w' := by
  have hs2 : s.size ≤ 9223372036854775807 := by unfold maxLen at hs; omega
  clear hs
  go_enter Try.func72, Try.ntmps72
  go_wp2_with fail
  go_loopw [4] (fun _ wr => ∃ k : Nat, k ≤ s.size ∧ Hid ((sbytes s).all (letG 46) = ((sbytes s).drop k).all (letG 46)) ∧ wr = w.iter s k) (fun _ wr => s.size - wr.iterPos w.heap.size)
  case atStart => exact ⟨0, Nat.zero_le _, Lib.hid (by simp), rfl⟩
  case round =>
    obtain ⟨k, hk, HX, rfl⟩ := hrel
    by_cases hlt : k < s.size
    · have hst := all_step (letG 46) s k hlt
      have hn := nth_sbytes s k hlt
      by_cases ha : (s[k]'hlt).toNat < 128
      · have hnx := fun ty => run_next_ascii (P := Try.prog) w s k ty hlt ha
        obtain ⟨z, hz⟩ : ∃ z, z = nth (sbytes s) k := ⟨_, rfl⟩
        rw [← hz] at hst hn
        rw [← hn] at hnx
        have HST := Lib.hid hst
        clear hz hn hst ha
        have hyes : letG 46 z = true → Hid ((sbytes s).all (letG 46) = ((sbytes s).drop (k + 1)).all (letG 46)) := fun h => Lib.hid (by rw [HX.out, HST.out, h, Bool.true_and])
        have hno : letG 46 z = false → isNm s = false := fun h => by rw [isNm, isNmG, HX.out, HST.out, h]; rfl
        have hly := let_yes 46 z
        have hln := let_no 46 z
        have HYES := Lib.hid hyes
        have HNO := Lib.hid hno
        have HLY := Lib.hid hly
        have HLN := Lib.hid hln
        clear hyes hno hly hln HX HST
        by_cases c1 : z < 97
        · by_cases c2 : z < 48
          · cases c3 : z != 46
            · go_wp2_with fail
              go_roundw
              case rel => exact ⟨k + 1, hlt, HYES.out (HLY.out (by simp at c3; omega)), rfl⟩
              case measure => simp [World.iterPos_iter]; omega
            · go_wp2_with fail
              go_ret
              exact ⟨by rw [HNO.out (HLN.out (by simp at c3; omega))]; rfl, Kp.iter _ _ _⟩
          · by_cases c3 : (57 : Int) < z
            · have c4 : (z != 46) = true := by simp; omega
              go_wp2_with fail
              go_ret
              exact ⟨by rw [HNO.out (HLN.out (by omega))]; rfl, Kp.iter _ _ _⟩
            · go_wp2_with fail
              go_roundw
              case rel => exact ⟨k + 1, hlt, HYES.out (HLY.out (by omega)), rfl⟩
              case measure => simp [World.iterPos_iter]; omega
        · by_cases c2 : (122 : Int) < z
          · have c4 : (z != 46) = true := by simp; omega
            have c5 : ¬ z < 48 := by omega
            have c6 : (57 : Int) < z := by omega
            go_wp2_with fail
            go_ret
            exact ⟨by rw [HNO.out (HLN.out (by omega))]; rfl, Kp.iter _ _ _⟩
          · go_wp2_with fail
            go_roundw
            case rel => exact ⟨k + 1, hlt, HYES.out (HLY.out (by omega)), rfl⟩
            case measure => simp [World.iterPos_iter]; omega
      · have hnx := fun ty => run_next_any (P := Try.prog) w s k ty hlt
        have hdh := (decode_high s k hlt (by omega)).1
        have hno : isNm s = false := by
          rw [isNm, isNmG, HX.out, hst, let_no 46 _ (by rw [hn]; omega)]; rfl
        obtain ⟨r, hr⟩ : ∃ r, r = (Utf8.decode s k).1 := ⟨_, rfl⟩
        obtain ⟨q, hq⟩ : ∃ q, q = k + (Utf8.decode s k).2 := ⟨_, rfl⟩
        simp only [← hr, ← hq] at hnx hdh
        have HNO := Lib.hid hno
        clear hst hn hr hq hno HX ha
        have c1 : ¬ (r : Int) < 97 := by omega
        have c2 : (122 : Int) < (r : Int) := by omega
        have c3 : ¬ (r : Int) < 48 := by omega
        have c4 : (57 : Int) < (r : Int) := by omega
        have c5 : ((r : Int) != 46) = true := by simp; omega
        go_wp2_with fail
        go_ret
        exact ⟨by rw [HNO.out]; rfl, Kp.iter _ _ _⟩
    · obtain rfl : k = s.size := by omega
      have hnx := fun ty => run_next_end (P := Try.prog) w s s.size ty (by omega)
      have HA : Hid ((sbytes s).all (letG 46) = true) := Lib.hid (by rw [HX.out, List.drop_eq_nil_of_le (by rw [sbytes_length]; exact Nat.le_refl _)]; rfl)
      clear HX
      by_cases h1 : (1 : Int) ≤ (s.size : Int)
      · by_cases h2 : (s.size : Int) ≤ 20
        · go_wp2_with fail
          go_ret
          refine ⟨?_, Kp.iter _ _ _⟩
          rw [isNm, isNmG, HA.out, decide_eq_true (show 1 ≤ s.size ∧ s.size ≤ 20 by omega)]; simp
        · go_wp2_with fail
          go_ret
          refine ⟨?_, Kp.iter _ _ _⟩
          rw [isNm, isNmG, decide_eq_false (show ¬ (1 ≤ s.size ∧ s.size ≤ 20) by omega)]; simp
      · go_wp2_with fail
        go_ret
        refine ⟨?_, Kp.iter _ _ _⟩
        rw [isNm, isNmG, decide_eq_false (show ¬ (1 ≤ s.size ∧ s.size ≤ 20) by omega)]; simp
end Go.Proofs.Ytegnobdablbahaa
