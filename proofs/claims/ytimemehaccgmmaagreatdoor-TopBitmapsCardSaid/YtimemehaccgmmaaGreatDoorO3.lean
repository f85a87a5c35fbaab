/-
  Parts of the walks and their plain laws (O3). No condition.
-/
import Derived.Test.YtimemehaccgmmaaGreatDoorM37
import Derived.Test.YtimemehaccgmmaaGreatDoorRows
import Derived.ProofKit
import Derived.LaidMore
import Derived.OpenShut
import Derived.Below
import Derived.MakeChecks
import Derived.Stop.Joined
namespace Go.Proofs.YtimemehaccgmmaaGreatDoor
open Go.ChangeShapes Go.WideShapes Go.ChangeAt Go.RowKit
open Go.Joins Go.Deep
set_option linter.unusedVariables false
set_option linter.unusedSimpArgs false
set_option maxRecDepth 100000
theorem own : ownKnob Tryz.prog.godebug = none := by kernel_rfl
theorem laidOut : laidOutB Tryz.prog = true := by kernel_rfl
theorem g64 : Tryz.prog.globalNamed "math/bits.deBruijn64tab" = some 1 := by kernel_rfl
noncomputable abbrev L3 : List (String × DataW Unit) := Rows.topSizesRow.laid
theorem door_met (os : Os) (args : Array Value) : laidMetH Tryz.prog L3 ((World.doorLaid Tryz.prog 400 os).forCall (fun _ _ => 0) ⟨#[], args, []⟩).memory :=
  laidMetH_of_parts3 (fuel := 8) (laidMet_of_run' 8 (by kernel_rfl) (by kernel_rfl)) (by kernel_rfl) (by kernel_rfl)
/-- A table of bytes that reads so. -/
theorem tab_at {W : World} {cs : List Value} {f n : Nat} {t : TypeId} {tab : List Nat} {p : List MemPlace} {sp : Nat → Bool} {hd : Bool} (ht : Tryz.prog.underlying t = some (.array n 5)) (hn : tab.length = n)
    (h : DataW.trod (fun _ : TypeId × Value => ()) Tryz.prog W 0 sp hd f t cs = some (.agg (tab.map fun z => .lit (.int .u8 (z : Nat))), p)) {i : Nat} (hi : i < tab.length) : cs[i]? = some (.int .u8 (tab[i] : Nat)) := by
  obtain ⟨xs, m1, rfl, hx1, hlen, hn3, hel⟩ := DataW.trod_array ht h
  have h0 := hel i (by omega)
  have c5 : Tryz.prog.cellsOf 5 = 1 := by kernel_rfl
  rw [c5, Nat.mul_one] at h0
  have hix : i < xs.length := by omega
  rw [List.getElem?_eq_getElem hix] at h0
  obtain ⟨k, e1, e2, -⟩ := DataW.trod_int Tryz.underlying5 h0
  have h2 : tab.map (fun z => (DataW.lit (.int .u8 (z : Nat)) : DataW Unit)) = xs.map (·.1) := by
    have := congrArg Prod.fst hx1
    simpa using this
  have h3 : (tab.map (fun z => (DataW.lit (.int .u8 (z : Nat)) : DataW Unit)))[i]? = (xs.map (·.1))[i]? := by rw [h2]
  rw [List.getElem?_map, List.getElem?_map, List.getElem?_eq_getElem hi, List.getElem?_eq_getElem hix] at h3
  simp only [Option.map_some, e2, Option.some.injEq] at h3
  have hk : (tab[i] : Int) = k := by injection h3 with h4; injection h4
  rw [hk]
  have h4 : ((cs.drop i).take 1)[0]? = some (.int .u8 k) := by rw [e1]; rfl
  rw [List.getElem?_take, if_pos (by omega), List.getElem?_drop, Nat.add_zero] at h4
  exact h4
theorem of_laid {W : World} (h : laidMetH Tryz.prog L3 W) : TabT W := by
  rw [MakeChecks.laidMetH_plain _ _ _ (by kernel_rfl)] at h
  obtain ⟨ps, ⟨g0, t0, cs0, f0, p0, q0, hg0, ht0, hv0, hd0, ⟨g1, t1, cs1, f1, p1, q1, hg1, ht1, hv1, hd1, _, _⟩, _⟩, _, _⟩ := h
  obtain rfl := Option.some.inj (g64.symm.trans hg1)
  have tt : (Tryz.prog.globals[1]?).map (·.type) = some 422 := by kernel_rfl
  obtain rfl := Option.some.inj (tt.symm.trans ht1)
  have hl : Go.Lib.deBruijn64tab.length = 64 := by decide
  have hd2 : (Rows.laid_math_bits_deBruijn64tab : DataW Unit) = .agg (Go.Lib.deBruijn64tab.map fun z => .lit (.int .u8 (z : Nat))) := by kernel_rfl
  rw [hd2] at hd1
  refine ⟨by omega, by omega, fun i hi => ⟨1, 0, rfl, fun j hj => ?_⟩⟩
  obtain rfl : j = 0 := by omega
  have h1 := tab_at Tryz.underlying422 hl hd1 hi
  have h2 := World.var?_cell hg1 hv1 i
  simp only [Nat.zero_add, Nat.mul_one, Nat.add_zero]
  rw [h2]
  rw [← Array.getElem?_toList, h1]
  rfl
end Go.Proofs.YtimemehaccgmmaaGreatDoor
