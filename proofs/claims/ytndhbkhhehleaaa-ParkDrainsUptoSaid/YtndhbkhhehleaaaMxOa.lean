/-
  Arrays within objects.
-/
import Derived.Test.YtndhbkhhehleaaaMxPt
set_option linter.unusedVariables false
set_option linter.unusedSimpArgs false
set_option linter.unusedSectionVars false
namespace Go.Mx

end Go.Mx
