/- An owned row's end, cut off and cleared. -/
import Derived.Test.YtdombpcfmjlnlaaFbSxBytes
import Derived.Laws.CopyRow
set_option linter.unusedVariables false
set_option linter.unusedSimpArgs false
namespace Go.Sx
open Go
variable {P : Program} {ro : Option Nat} {Q : Exit → St → Prop} {s : St} {ops : Array Oper} {o : Oper} {rest : List Oper} {T : List (Nat × AV)}

end Go.Sx
