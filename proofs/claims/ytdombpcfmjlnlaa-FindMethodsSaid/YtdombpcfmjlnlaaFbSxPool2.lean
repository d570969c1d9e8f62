/- Plain laws of pools: what a pool depends on. -/
import Derived.Test.YtdombpcfmjlnlaaFbSxPool
set_option linter.unusedVariables false
set_option linter.unusedSimpArgs false
namespace Go.Sx
open Go
theorem dd_permOf {a b : List Str} (h : ∀ x, x ∈ a ↔ x ∈ b) : (dd a).Perm (dd b) :=
  (List.perm_ext_iff_of_nodup (dd_nodup a) (dd_nodup b)).2 fun x => by rw [dd_mem, dd_mem, h]
theorem risF_of {a b : List Str} (h : ∀ x, x ∈ a ↔ x ∈ b) : risF a = risF b :=
  SOn.uniq ((risF_perm a).trans ((dd_permOf h).trans (risF_perm b).symm)) (risF_srt a) (risF_srt b)
/-- A list, turned. -/
def rotF (l : List Str) (k i : Nat) : List Str := (List.range i).map fun j => l.getD ((j + k) % l.length) default
end Go.Sx
