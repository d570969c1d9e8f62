/- A range over a function: what an iterator and the rounds of a loop promise each other. -/
import Derived.Test.YtaphgfiboidpbaaBaSxMap
import Derived.RangeFuncIn
set_option linter.unusedSimpArgs false
set_option linter.unusedVariables false
set_option linter.unnecessarySimpa false
namespace Go.Sx
open Go

/-- A call of the loop's own function: one round. -/
def YCalls (P : Program) (id : Nat) (xs : List AV) (H : AHeap) (R : AEnd → AHeap → Prop) : Prop :=
  ∀ Z C w vs l N, C.m id = some (l, N) → WR C H w → VRs C xs vs →
    ∃ fn tmps assign body, (Instr.yield l vs).run P w = .ok (.round l fn tmps assign body) w ∧
      RoundIn (Wd none) 0 P l fn tmps assign body w (fun e w' => ∃ C' H' x, R x H' ∧ WR C' H' w' ∧ Ext Z C H w C' H' w' ∧ ER C' x e)

/-- How an iterator ends: behind all, or told to stop. -/
def SeqR {α : Type} (J Jx : List α → AHeap → Prop) (xs : List α) : AEnd → AHeap → Prop :=
  fun e H' => (∃ v, e = .ret v) ∧ ((∃ H'', H'.Perm H'' ∧ J xs H'') ∨ (∃ pre H'', H'.Perm H'' ∧ Jx pre H''))

/-- An iterator: a function that calls yield for one element behind the other, till it is told to stop. -/
structure SeqA {α : Type} (P : Program) (gf : Nat) (caps : List AV) (Hit : AHeap) (enc : α → List AV) (xs : List α) : Prop where
  ok : Callable P gf
  run : ∀ (id : Nat) (J Jx : List α → AHeap → Prop),
    (∀ pre x suf H, xs = pre ++ x :: suf → J pre H → YCalls P id (enc x) H (fun e H' => (e = .ret (.v (.bool true)) ∧ J (pre ++ [x]) H') ∨ (e = .ret (.v (.bool false)) ∧ Jx (pre ++ [x]) H'))) →
    ∀ H, J [] H → ACalls P gf (.yld id :: caps) (Hit ++ H) (SeqR J Jx xs)

/-- The parameters of a round. -/
def prm (T : List (Nat × AV)) : List Tmp → List AV → List (Nat × AV)
  | t :: ps, x :: xs => prm ((t, x) :: T) ps xs
  | _, _ => T

/-- How a round is left. -/
def roundQ {α : Type} (I : List α → AHeap → Prop) (Ix : Code → List α → AHeap → Prop) (pre : List α) : Exit → St → Prop
  | .normal, s => ∃ s', Weak s s' ∧ I pre s'.H
  | .ret, s => ∃ s', Weak s s' ∧ Ix .ret pre s'.H
  | .exit i, s => ∃ s', Weak s s' ∧ Ix (.exit i) pre s'.H
  | .goto i, s => ∃ s', Weak s s' ∧ Ix (.goto i) pre s'.H
  | _, _ => False

end Go.Sx
