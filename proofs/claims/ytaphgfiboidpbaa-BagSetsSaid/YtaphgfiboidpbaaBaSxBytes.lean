/- Rows of bytes: made, cut out of an array's variable, copied, grown by a text's bytes. -/
import Derived.Test.YtaphgfiboidpbaaBaSxBits
import Derived.Deep.AppendSrc
import Derived.Laws.CopyRow
set_option linter.unusedVariables false
set_option linter.unusedSimpArgs false
namespace Go.Sx
open Go
variable {P : Program} {ro : Option Nat} {Q : Exit → St → Prop} {s : St} {ops : Array Oper} {o : Oper} {rest : List Oper} {T : List (Nat × AV)}

/-- A text's bytes as rows. -/
def byteRows (x : ByteArray) : List (List AV) := x.data.toList.map fun b => [.v (.int .u8 b.toNat)]
end Go.Sx
