/- Pools of texts, walked. -/
import Derived.Test.YtdombpcfmjlnlaaFaSySort
import Derived.Test.YtdombpcfmjlnlaaFaSxPool
set_option linter.unusedVariables false
set_option linter.unusedSimpArgs false
namespace Go.Sx
open Go Go.Proofs

end Go.Sx
