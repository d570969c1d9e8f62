/- Plain laws of pools: what a pool depends on. -/
import Derived.Test.YtaphgfiboidpbaaBaSxPool
set_option linter.unusedVariables false
set_option linter.unusedSimpArgs false
namespace Go.Sx
open Go
/-- A list, turned. -/
def rotF (l : List Str) (k i : Nat) : List Str := (List.range i).map fun j => l.getD ((j + k) % l.length) default
end Go.Sx
