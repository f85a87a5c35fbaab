/-
  Parts of the walks and their plain laws (O5). No condition.
-/
import Derived.Test.YtimemehaccgmmaaGreatDoorRows
import Derived.ProofKit
import Derived.JoinedOf
namespace Go.Proofs.YtimemehaccgmmaaGreatDoor
set_option maxRecDepth 100000
theorem an {a b : Bool} (h : a = true) (k : b = true) : (a && b) = true := by rw [h, k]; rfl
theorem sz1 : (Rows.topSizesRow.wf (OpenSpec.ofChange Rows.topSizesSpec)) = true := by kernel_rfl
theorem sz2 : (laidOutB Tryz.prog) = true := by kernel_rfl
theorem sz3 : (mapsRowed Tryz.prog) = true := by kernel_rfl
theorem sz4 : (Tryz.f4.params.all (Tryz.prog.readableRec ·)) = true := by kernel_rfl
theorem sz5 : (namedTie Tryz.prog Rows.topSizesRow.named Rows.topSizesSpec.vars) = true := by kernel_rfl
theorem sz6 : ((Rows.topSizesRow.stops == [])) = true := by kernel_rfl
theorem sz7 : ((Tryz.prog.stops == [])) = true := by kernel_rfl
theorem sz8 : ((Rows.topSizesRow.knobs == [])) = true := by kernel_rfl
theorem sz9 : ((Tryz.prog.stopKnobs == [])) = true := by kernel_rfl
theorem sz10 : ((Rows.topSizesRow.inPlace == Tryz.prog.inPlace 4)) = true := by kernel_rfl
theorem sz11 : ((Rows.topSizesRow.unfollowed == Tryz.prog.unfollowed 4)) = true := by kernel_rfl
theorem sz12 : ((Rows.topSizesRow.recurses == Tryz.prog.recurses 4)) = true := by kernel_rfl
theorem sz13 : ((Rows.topSizesRow.named == Tryz.prog.varsNamed 4)) = true := by kernel_rfl
theorem sz14 : ((Rows.topSizesRow.maps == (Tryz.f4.params.toList ++ Rows.topSizesSpec.plain.varTypes Tryz.prog).any (Tryz.prog.mapsRec ·))) = true := by kernel_rfl
theorem sz15 : ((Rows.topSizesRow.ifaces == (Tryz.f4.params.toList ++ Rows.topSizesSpec.plain.varTypes Tryz.prog).any (Tryz.prog.ifacesRec ·))) = true := by kernel_rfl
theorem sz16 : ((Rows.topSizesRow.mapsOut == Tryz.prog.mapsAmong Tryz.f4.resultTypes.toList)) = true := by kernel_rfl
theorem sz17 : ((Rows.topSizesRow.loops == (Tryz.f4.params.toList ++ Rows.topSizesSpec.plain.varTypes Tryz.prog).any (Tryz.prog.loopsFrom ·))) = true := by kernel_rfl
theorem sz18 : ((Rows.topSizesRow.wideKeys == (Tryz.f4.params.toList ++ Rows.topSizesSpec.plain.varTypes Tryz.prog ++ Tryz.f4.resultTypes.toList).any (Tryz.prog.wideKeysFrom ·))) = true := by kernel_rfl
theorem sz19 : (Rows.topSizesSpec.vars.all (Tryz.prog.varReadable ·)) = true := by kernel_rfl
theorem sz20 : (Tryz.f4.resultTypes.all (fun t => Tryz.prog.readableRec t && decide (t < Tryz.prog.types.size))) = true := by kernel_rfl
theorem sz21 : ((Rows.topSizesRow.ifacesOut == Tryz.f4.resultTypes.toList.any (Tryz.prog.ifacesRec ·))) = true := by kernel_rfl
theorem sz22 : ((Rows.topSizesRow.loopsOut == Tryz.f4.resultTypes.toList.any (Tryz.prog.loopsFrom ·))) = true := by kernel_rfl
theorem sz23 : ((Rows.topSizesRow.plainKeys == Tryz.prog.plainKeys)) = true := by kernel_rfl
theorem sz24 : (Rows.topSizesRow.shortTexts.isNone) = true := by kernel_rfl
theorem sz25 : (Tryz.prog.stopsHeard) = true := by kernel_rfl
theorem sz26 : (Tryz.prog.mayEnter) = true := by kernel_rfl
theorem sz27 : ((Rows.topSizesRow.lifted == Tryz.prog.liftsFinal)) = true := by kernel_rfl
theorem sz28 : ((Tryz.prog.make == some Rows.topSizesRow.make)) = true := by kernel_rfl
theorem sz29 : ((Rows.topSizesRow.kinds == (if Rows.topSizesRow.domain.isEmpty then [] else Tryz.f4.params.toList.map fun t => match Tryz.prog.underlying t with | some (.int k) => some k | _ => none))) = true := by kernel_rfl
theorem sz30 : ((Rows.topSizesRow.pinned == Rows.topSizesRow.pinnedBy)) = true := by kernel_rfl
theorem sz31 : ((Rows.topSizesRow.veiled == (Tryz.f4.params.toList ++ Rows.topSizesSpec.plain.varTypes Tryz.prog ++ Tryz.f4.resultTypes.toList).any (Tryz.prog.veiledRec ·))) = true := by kernel_rfl
theorem sz32 : (Rows.topSizesRow.veiledFits Tryz.prog Tryz.f4.params.toList (Tryz.f4.params.toList ++ Rows.topSizesSpec.plain.varTypes Tryz.prog ++ Tryz.f4.resultTypes.toList)) = true := by kernel_rfl
theorem sz_facts : joinedFacts Tryz.prog 4 Tryz.f4 Rows.topSizesSpec Rows.topSizesRow = true := (an (an (an (an (an (an (an (an (an (an (an (an (an (an (an (an (an (an (an (an (an (an (an (an (an (an (an (an (an (an (an sz1 sz2) sz3) sz4) sz5) sz6) sz7) sz8) sz9) sz10) sz11) sz12) sz13) sz14) sz15) sz16) sz17) sz18) sz19) sz20) sz21) sz22) sz23) sz24) sz25) sz26) sz27) sz28) sz29) sz30) sz31) sz32)
end Go.Proofs.YtimemehaccgmmaaGreatDoor
