/- A field or grains that came in, opened. Under no condition. -/
import Derived.Test.YtcnamhmoocdccaaChecked
import Derived.Test.YtcnamhmoocdccaaSl
import Derived.Lib.SmallJoins
import Derived.ChangeArms
import Derived.KernelRfl
namespace Go.Proofs.Ytcnamhmoocdccaa
open Go Go.RowKit Go.ChangeShapes Go.WideShapes
set_option linter.unusedVariables false
set_option linter.unusedSimpArgs false

end Go.Proofs.Ytcnamhmoocdccaa
