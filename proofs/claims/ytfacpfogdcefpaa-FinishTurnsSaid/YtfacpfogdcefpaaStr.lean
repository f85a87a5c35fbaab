/-
  Plain laws on bytes.
-/
import Derived.Test.YtfacpfogdcefpaaCursor
namespace Go.Proofs.Ytfacpfogdcefpaa
open Go.RowKit
set_option linter.unusedSimpArgs false
set_option linter.unusedVariables false

theorem str_inj {x y : List Int} (hx : Bytes8 x) (hy : Bytes8 y) (h : (strOfNums x).toList = (strOfNums y).toList) : x = y := by
  rw [ByteArray.toList_eq, ByteArray.toList_eq, strOfNums_data, strOfNums_data] at h
  have hl : x.length = y.length := by have := congrArg List.length h; simpa using this
  apply List.ext_getElem hl
  intro i h1 h2
  have h3 : (x.map fun n => UInt8.ofNat n.toNat)[i]? = (y.map fun n => UInt8.ofNat n.toNat)[i]? := by rw [h]
  simp only [List.getElem?_map, List.getElem?_eq_getElem h1, List.getElem?_eq_getElem h2, Option.map_some, Option.some.injEq] at h3
  have a1 := hx x[i] (List.getElem_mem h1)
  have a2 := hy y[i] (List.getElem_mem h2)
  have h4 := congrArg UInt8.toNat h3
  simp at h4
  omega

theorem Rd.lt {w : World} {k : IntKind} {ad : Option Addr} {cap : Nat} {zs : List Int} (h : Rd w k ad cap zs) : ∀ x, ad = some x → zs ≠ [] → x.block < w.heap.size := by
  intro x hx hne
  have h0 : 0 < zs.length := by cases zs with | nil => exact (hne rfl).elim | cons y l => simp
  obtain ⟨b, off, h1, h2⟩ := h.2.2 0 h0
  rw [h1] at hx; cases hx
  exact World.block_lt_of_cell? w _ h2
theorem str_app (x y : List Int) : strOfNums x ++ strOfNums y = strOfNums (x ++ y) := by
  apply ByteArray.ext
  simp [strOfNums, ByteArray.data_append]
theorem run_str_add {P : Program} (w : World) (x y : List Int) (h : x.length + y.length ≤ 1000000) : (Op.stringOp .add (strOfNums x) (strOfNums y)).run P w = .ok (.string (strOfNums (x ++ y))) w := by
  rw [run_string_add_sum w _ _ (by rw [strOfNums_size, strOfNums_size]; omega), str_app]

theorem u64_ex (z : Int) : ∃ v : Nat, IntKind.u64.wrap z = (v : Int) ∧ v < 18446744073709551616 := ⟨u64 z, u64_wrap z, u64_lt z⟩
theorem strq {x y : List Int} (hx : Bytes8 x) (hy : Bytes8 y) (r : Bool) (hr : r = decide (x = y)) : ((strOfNums x).toList == (strOfNums y).toList) = r := by
  rw [hr, Bool.eq_iff_iff, decide_eq_true_iff, beq_iff_eq]
  exact ⟨fun h => str_inj hx hy h, fun h => by rw [h]⟩
theorem cvs (w : World) (ad : Option Addr) (cap n : Nat) (zs : List Int) (h : Rd w .u8 ad cap zs) (hn : n = zs.length) :
    (convert 76 9 (.slice ad n cap)).run Try.prog w = .ok (.string (strOfNums zs)) w :=
  conv_str w 76 9 5 Try.underlying76 Try.underlying5 Try.underlying9 ad cap n zs h hn
end Go.Proofs.Ytfacpfogdcefpaa
