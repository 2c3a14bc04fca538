/-
  DequeNew: the reference's New and Cells.
-/
import Derived.Test.YtppehoailhjdfaaMxPl
import Derived.Test.YtppehoailhjdfaaMxDn
set_option linter.unusedVariables false
set_option linter.unusedSimpArgs false
namespace Go.Mx




end Go.Mx
