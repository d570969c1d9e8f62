/- A range over a function whose elements come in an order that is drawn. -/
import Derived.Test.YtaphgfiboidpbaaBaSxRange
set_option linter.unusedSimpArgs false
set_option linter.unusedVariables false
set_option linter.unnecessarySimpa false
namespace Go.Sx
open Go

/-- How such an iterator ends. -/
def SeqGR {α : Type} (Fin : List α → Prop) (J Jx : List α → AHeap → Prop) : AEnd → AHeap → Prop :=
  fun e H' => (∃ v, e = .ret v) ∧ ((∃ l H'', Fin l ∧ H'.Perm H'' ∧ J l H'') ∨ (∃ pre H'', H'.Perm H'' ∧ Jx pre H''))

/-- An iterator: what it may have handed out, and what all of it is. -/
structure SeqG {α : Type} (P : Program) (gf : Nat) (caps : List AV) (Hit : AHeap) (enc : α → List AV) (Adm Fin : List α → Prop) : Prop where
  ok : Callable P gf
  run : ∀ (id : Nat) (J Jx : List α → AHeap → Prop),
    (∀ pre x H, Adm (pre ++ [x]) → J pre H → YCalls P id (enc x) H (fun e H' => (e = .ret (.v (.bool true)) ∧ J (pre ++ [x]) H') ∨ (e = .ret (.v (.bool false)) ∧ Jx (pre ++ [x]) H'))) →
    ∀ H, J [] H → ACalls P gf (.yld id :: caps) (Hit ++ H) (SeqGR Fin J Jx)

end Go.Sx
