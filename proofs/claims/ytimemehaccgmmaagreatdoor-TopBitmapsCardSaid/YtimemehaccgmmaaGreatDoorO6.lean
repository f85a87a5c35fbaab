/-
  Parts of the walks and their plain laws (O6). No condition.
-/
import Derived.Test.YtimemehaccgmmaaGreatDoorRows
import Derived.ProofKit
import Derived.JoinedOf
namespace Go.Proofs.YtimemehaccgmmaaGreatDoor
set_option maxRecDepth 100000
theorem anB {a b : Bool} (h : a = true) (k : b = true) : (a && b) = true := by rw [h, k]; rfl
theorem bm1 : (Rows.topBitmapsRow.wf (OpenSpec.ofChange Rows.topBitmapsSpec)) = true := by kernel_rfl
theorem bm2 : (laidOutB Tryz.prog) = true := by kernel_rfl
theorem bm3 : (mapsRowed Tryz.prog) = true := by kernel_rfl
theorem bm4 : (Tryz.f3.params.all (Tryz.prog.readableRec ·)) = true := by kernel_rfl
theorem bm5 : (namedTie Tryz.prog Rows.topBitmapsRow.named Rows.topBitmapsSpec.vars) = true := by kernel_rfl
theorem bm6 : ((Rows.topBitmapsRow.stops == [])) = true := by kernel_rfl
theorem bm7 : ((Tryz.prog.stops == [])) = true := by kernel_rfl
theorem bm8 : ((Rows.topBitmapsRow.knobs == [])) = true := by kernel_rfl
theorem bm9 : ((Tryz.prog.stopKnobs == [])) = true := by kernel_rfl
theorem bm10 : ((Rows.topBitmapsRow.inPlace == Tryz.prog.inPlace 3)) = true := by kernel_rfl
theorem bm11 : ((Rows.topBitmapsRow.unfollowed == Tryz.prog.unfollowed 3)) = true := by kernel_rfl
theorem bm12 : ((Rows.topBitmapsRow.recurses == Tryz.prog.recurses 3)) = true := by kernel_rfl
theorem bm13 : ((Rows.topBitmapsRow.named == Tryz.prog.varsNamed 3)) = true := by kernel_rfl
theorem bm14 : ((Rows.topBitmapsRow.maps == (Tryz.f3.params.toList ++ Rows.topBitmapsSpec.plain.varTypes Tryz.prog).any (Tryz.prog.mapsRec ·))) = true := by kernel_rfl
theorem bm15 : ((Rows.topBitmapsRow.ifaces == (Tryz.f3.params.toList ++ Rows.topBitmapsSpec.plain.varTypes Tryz.prog).any (Tryz.prog.ifacesRec ·))) = true := by kernel_rfl
theorem bm16 : ((Rows.topBitmapsRow.mapsOut == Tryz.prog.mapsAmong Tryz.f3.resultTypes.toList)) = true := by kernel_rfl
theorem bm17 : ((Rows.topBitmapsRow.loops == (Tryz.f3.params.toList ++ Rows.topBitmapsSpec.plain.varTypes Tryz.prog).any (Tryz.prog.loopsFrom ·))) = true := by kernel_rfl
theorem bm18 : ((Rows.topBitmapsRow.wideKeys == (Tryz.f3.params.toList ++ Rows.topBitmapsSpec.plain.varTypes Tryz.prog ++ Tryz.f3.resultTypes.toList).any (Tryz.prog.wideKeysFrom ·))) = true := by kernel_rfl
theorem bm19 : (Rows.topBitmapsSpec.vars.all (Tryz.prog.varReadable ·)) = true := by kernel_rfl
theorem bm20 : (Tryz.f3.resultTypes.all (fun t => Tryz.prog.readableRec t && decide (t < Tryz.prog.types.size))) = true := by kernel_rfl
theorem bm21 : ((Rows.topBitmapsRow.ifacesOut == Tryz.f3.resultTypes.toList.any (Tryz.prog.ifacesRec ·))) = true := by kernel_rfl
theorem bm22 : ((Rows.topBitmapsRow.loopsOut == Tryz.f3.resultTypes.toList.any (Tryz.prog.loopsFrom ·))) = true := by kernel_rfl
theorem bm23 : ((Rows.topBitmapsRow.plainKeys == Tryz.prog.plainKeys)) = true := by kernel_rfl
theorem bm24 : (Rows.topBitmapsRow.shortTexts.isNone) = true := by kernel_rfl
theorem bm25 : (Tryz.prog.stopsHeard) = true := by kernel_rfl
theorem bm26 : (Tryz.prog.mayEnter) = true := by kernel_rfl
theorem bm27 : ((Rows.topBitmapsRow.lifted == Tryz.prog.liftsFinal)) = true := by kernel_rfl
theorem bm28 : ((Tryz.prog.make == some Rows.topBitmapsRow.make)) = true := by kernel_rfl
theorem bm29 : ((Rows.topBitmapsRow.kinds == (if Rows.topBitmapsRow.domain.isEmpty then [] else Tryz.f3.params.toList.map fun t => match Tryz.prog.underlying t with | some (.int k) => some k | _ => none))) = true := by kernel_rfl
theorem bm30 : ((Rows.topBitmapsRow.pinned == Rows.topBitmapsRow.pinnedBy)) = true := by kernel_rfl
theorem bm31 : ((Rows.topBitmapsRow.veiled == (Tryz.f3.params.toList ++ Rows.topBitmapsSpec.plain.varTypes Tryz.prog ++ Tryz.f3.resultTypes.toList).any (Tryz.prog.veiledRec ·))) = true := by kernel_rfl
theorem bm32 : (Rows.topBitmapsRow.veiledFits Tryz.prog Tryz.f3.params.toList (Tryz.f3.params.toList ++ Rows.topBitmapsSpec.plain.varTypes Tryz.prog ++ Tryz.f3.resultTypes.toList)) = true := by kernel_rfl
theorem bm_facts : joinedFacts Tryz.prog 3 Tryz.f3 Rows.topBitmapsSpec Rows.topBitmapsRow = true := (anB (anB (anB (anB (anB (anB (anB (anB (anB (anB (anB (anB (anB (anB (anB (anB (anB (anB (anB (anB (anB (anB (anB (anB (anB (anB (anB (anB (anB (anB (anB bm1 bm2) bm3) bm4) bm5) bm6) bm7) bm8) bm9) bm10) bm11) bm12) bm13) bm14) bm15) bm16) bm17) bm18) bm19) bm20) bm21) bm22) bm23) bm24) bm25) bm26) bm27) bm28) bm29) bm30) bm31) bm32)
end Go.Proofs.YtimemehaccgmmaaGreatDoor
