/-
  Sections: why they may not be.
-/
import Derived.Test.YtfacpfogdcefpaaSec2
namespace Go.Proofs.Ytfacpfogdcefpaa
open Go.RowKit
set_option linter.unusedSimpArgs false
set_option linter.unusedVariables false

/-- What holds of sections, whatever the memory. -/
def XOk (l : List Sec) : Prop := ∀ x ∈ l, Bytes8 x.bs ∧ x.nm.size ≤ maxLen ∧ x.bs.length ≤ 9223372036854775807
def atX (l : List Sec) (i : Nat) : Sec := l.getD i default
theorem atX_eq (l : List Sec) (i : Nat) (h : i < l.length) : atX l i = l[i] := by simp [atX, h]
theorem XOk.at' {l : List Sec} (h : XOk l) (i : Nat) (hi : i < l.length) : Bytes8 (atX l i).bs ∧ (atX l i).nm.size ≤ maxLen ∧ (atX l i).bs.length ≤ 9223372036854775807 := by rw [atX_eq l i hi]; exact h _ (List.getElem_mem _)
def badN (l : List Sec) (i : Nat) : Bool := !isNm (atX l i).nm
def badI (l : List Sec) (i : Nat) : Bool := !isNm (atX l i).nm || decide (1073741824 < (atX l i).bs.length)
def dupI (l : List Sec) (i : Nat) : Bool := !decide (fndX l (atX l i).nm = i)
def upto (n : Nat) (p : Nat → Bool) : Bool := (List.range n).any p
theorem upto_step (n : Nat) (p : Nat → Bool) : upto (n + 1) p = (upto n p || p n) := by simp [upto, List.range_succ]
theorem upto_yes {n k : Nat} {p : Nat → Bool} (hk : k < n) (h : p k = true) : upto n p = true := by
  simp only [upto, List.any_eq_true, List.mem_range]; exact ⟨k, hk, h⟩
theorem upto_no {n k : Nat} {p : Nat → Bool} (hk : k < n) (h : upto n p = false) : p k = false := by
  cases hp : p k
  · rfl
  · rw [upto_yes hk hp] at h; cases h
def mayG (l : List Sec) (bad : Nat → Bool) : Int := if upto l.length bad then 2 else if 2000 < l.length then 3 else if upto l.length (dupI l) then 8 else 0
/-- What package sections answers. -/
def mayP (l : List Sec) : Int := mayG l (badI l)
/-- What the document answers. -/
def mayN (l : List Sec) : Int := mayG l (badN l)
theorem RdX.atX {w : World} {ad : Option Addr} {cap : Nat} {l : List Sec} (h : RdX w ad cap l) (i : Nat) (hi : i < l.length) :
    ∃ b off, ad = some ⟨b, off, none⟩ ∧ w.cell? ⟨b, off + i * 2, none⟩ = some (.string (atX l i).nm) ∧ w.cell? ⟨b, off + i * 2 + 1, none⟩ = some (.slice (atX l i).ad (atX l i).bs.length (atX l i).cap) := by
  rw [atX_eq l i hi]; exact h.at' i hi

end Go.Proofs.Ytfacpfogdcefpaa
