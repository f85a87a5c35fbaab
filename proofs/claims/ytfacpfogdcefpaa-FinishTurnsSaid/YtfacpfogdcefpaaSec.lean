/-
  Sections: letters and names.
-/
import Derived.Test.YtfacpfogdcefpaaRowO
import Derived.Test.YtfacpfogdcefpaaCrc4
import Derived.Laws.RangeString
import Derived.Laws.RangeAny
namespace Go.Proofs.Ytfacpfogdcefpaa
open Go.RowKit
set_option linter.unusedSimpArgs false
set_option linter.unusedVariables false

/-- A string's bytes. -/
def sbytes (s : ByteArray) : List Int := s.data.toList.map fun b => (b.toNat : Int)
theorem sbytes_length (s : ByteArray) : (sbytes s).length = s.size := by simp [sbytes]
theorem byteCells_sb (s : ByteArray) : byteCells s = (sbytes s).map (Value.int .u8) := by simp [byteCells, sbytes]
theorem sbytes_b8 (s : ByteArray) : Bytes8 (sbytes s) := fun z hz => by
  obtain ⟨b, -, rfl⟩ := List.mem_map.1 hz
  have := b.toNat_lt; omega
theorem str_sbytes (s : ByteArray) : strOfNums (sbytes s) = s := by
  apply ByteArray.ext
  apply Array.toList_inj.1
  rw [strOfNums_data, sbytes, List.map_map]
  conv => rhs; rw [← List.map_id s.data.toList]
  refine List.map_congr_left fun b _ => ?_
  simp
theorem sbytes_str {zs : List Int} (h : Bytes8 zs) : sbytes (strOfNums zs) = zs := by
  rw [sbytes, strOfNums_data, List.map_map]
  conv => rhs; rw [← List.map_id zs]
  refine List.map_congr_left fun z hz => ?_
  have := h z hz
  simp; omega
theorem nth_sbytes (s : ByteArray) (i : Nat) (h : i < s.size) : nth (sbytes s) i = ((s[i]'h).toNat : Int) := by
  have h2 : i < s.data.toList.length := by simpa using h
  simp only [nth, sbytes, List.getD_eq_getElem?_getD, List.getElem?_map, List.getElem?_eq_getElem h2]
  rfl

def letG (c z : Int) : Bool := decide (97 ≤ z ∧ z ≤ 122) || decide (48 ≤ z ∧ z ≤ 57) || decide (z = c)
/-- Is a text a name of letters, digits and c, of at most m bytes? -/
def isNmG (c : Int) (m : Nat) (s : ByteArray) : Bool := (sbytes s).all (letG c) && decide (1 ≤ s.size ∧ s.size ≤ m)
def letter (z : Int) : Bool := letG 46 z
/-- Is a text a section's name? -/
def isNm (s : ByteArray) : Bool := isNmG 46 20 s
theorem let_yes (c z : Int) (h : (97 ≤ z ∧ z ≤ 122) ∨ (48 ≤ z ∧ z ≤ 57) ∨ z = c) : letG c z = true := by simp [letG]; omega
theorem let_no (c z : Int) (h : ¬ ((97 ≤ z ∧ z ≤ 122) ∨ (48 ≤ z ∧ z ≤ 57) ∨ z = c)) : letG c z = false := by simp [letG]; omega

theorem all_step (f : Int → Bool) (s : ByteArray) (k : Nat) (h : k < s.size) : ((sbytes s).drop k).all f = (f (nth (sbytes s) k) && ((sbytes s).drop (k + 1)).all f) := by
  have h2 : k < (sbytes s).length := by rw [sbytes_length]; exact h
  rw [List.drop_eq_getElem_cons h2, List.all_cons]; simp [nth, h2]

theorem Kp.iter (w : World) (s : ByteArray) (k : Nat) : Kp [] w (w.iter s k) := (Kp.refl [] w).alloc _

end Go.Proofs.Ytfacpfogdcefpaa
