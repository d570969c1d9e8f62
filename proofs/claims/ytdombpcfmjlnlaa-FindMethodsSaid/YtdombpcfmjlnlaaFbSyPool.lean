/- Pools of texts, walked. -/
import Derived.Test.YtdombpcfmjlnlaaFbSySort
import Derived.Test.YtdombpcfmjlnlaaFbSxPool
set_option linter.unusedVariables false
set_option linter.unusedSimpArgs false
namespace Go.Sx
open Go Go.Proofs

end Go.Sx
