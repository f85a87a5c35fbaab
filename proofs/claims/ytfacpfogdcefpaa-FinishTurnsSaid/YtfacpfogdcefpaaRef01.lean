/-
  What isinglassref01.Little tells.
-/
import Derived.Test.YtfacpfogdcefpaaBase
namespace Go.Proofs.Ytfacpfogdcefpaa
open Go.RowKit
set_option linter.unusedSimpArgs false
set_option linter.unusedVariables false

end Go.Proofs.Ytfacpfogdcefpaa
