/-
  Frames: package crc's and the document's.
-/
import Derived.Test.YtfacpfogdcefpaaCrc
import Derived.Test.YtfacpfogdcefpaaCurW
import Derived.Test.YtfacpfogdcefpaaStr
import Derived.Test.YtfacpfogdcefpaaRegionG
namespace Go.Proofs.Ytfacpfogdcefpaa
open Go.RowKit
set_option linter.unusedSimpArgs false
set_option linter.unusedVariables false

/-- What is framed. -/
def frB (zs : List Int) : List Int := le zs.length 4 ++ zs ++ le (crc zs) 4
theorem frB_length (zs : List Int) : (frB zs).length = zs.length + 8 := by simp [frB, le_length]; omega
theorem frB_bytes {zs : List Int} (h : Bytes8 zs) : Bytes8 (frB zs) := bytes8_append (bytes8_append (le_bytes _ _) h) (le_bytes _ _)

end Go.Proofs.Ytfacpfogdcefpaa
