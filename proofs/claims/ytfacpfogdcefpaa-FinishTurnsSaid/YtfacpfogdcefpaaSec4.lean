/-
  Sections: how much they have; whether they are the same.
-/
import Derived.Test.YtfacpfogdcefpaaSec3
namespace Go.Proofs.Ytfacpfogdcefpaa
open Go.RowKit
set_option linter.unusedSimpArgs false
set_option linter.unusedVariables false

/-- How much sections have. -/
def szN (l : List Sec) : Nat := (l.map fun x => 10 + x.nm.size + x.bs.length).sum
theorem szN_step (l : List Sec) (k : Nat) (h : k < l.length) : szN (l.take (k + 1)) = szN (l.take k) + (10 + (atX l k).nm.size + (atX l k).bs.length) := by
  rw [List.take_succ_eq_append_getElem h, atX_eq l k h, szN, szN, List.map_append, List.sum_append]; simp
theorem kdN (w : World) (n : Nat) : Kp [] w (w.drewN n) := ⟨rfl, rfl, rfl, Nat.le_refl _, fun _ _ _ => rfl⟩
theorem w64_add (a b : Int) : wrap64 (wrap64 a + b) = wrap64 (a + b) := by unfold wrap64; omega

theorem toList_eq {a b : ByteArray} (h : (a.toList == b.toList) = true) : a = b := by
  rw [beq_iff_eq, ByteArray.toList_eq, ByteArray.toList_eq] at h
  exact ByteArray.ext (Array.toList_inj.1 h)
def keyS (x : Sec) : ByteArray × List Int := (x.nm, x.bs)
/-- Are sections the same? -/
def sameX (l m : List Sec) : Bool := decide (l.map keyS = m.map keyS)
theorem same_yes {l m : List Sec} (h : l.length = m.length) (h2 : ∀ j, j < l.length → keyS (atX l j) = keyS (atX m j)) : sameX l m = true := by
  refine decide_eq_true (List.ext_getElem (by simpa using h) fun i h3 h4 => ?_)
  have h5 : i < l.length := by simpa using h3
  have := h2 i h5
  rw [atX_eq l i h5, atX_eq m i (by omega)] at this
  simpa using this
theorem same_no {l m : List Sec} (j : Nat) (h1 : j < l.length) (h : l.length = m.length) (h2 : keyS (atX l j) ≠ keyS (atX m j)) : sameX l m = false := by
  refine decide_eq_false fun e => h2 ?_
  have := congrArg (fun x => x[j]?) e
  rw [atX_eq l j h1, atX_eq m j (by omega)]
  simpa [h1, show j < m.length by omega] using this
theorem same_len {l m : List Sec} (h : l.length ≠ m.length) : sameX l m = false := by
  refine decide_eq_false fun e => h ?_
  have := congrArg List.length e; simpa using this

end Go.Proofs.Ytfacpfogdcefpaa
