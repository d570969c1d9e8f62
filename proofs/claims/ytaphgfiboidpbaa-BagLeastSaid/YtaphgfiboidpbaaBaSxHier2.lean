/- Layer 11's laws in plain words. -/
import Derived.Test.YtaphgfiboidpbaaBaSxHier
set_option linter.unusedSimpArgs false
set_option linter.unusedVariables false
namespace Go.Sx
open Go

/-- Is a class as it must be for HierCommon? -/
def okU (p : Prog) (i : Nat) : Bool := !((p.classes.getD i default).iface && !beqS (p.classes.getD i default).super zS) && !(beqS (p.classes.getD i default).name zS || classAt p (p.classes.getD i default).name != (i : Int))
def unlikeB (p : Prog) : Bool := (List.range p.classes.length).all (okU p)
theorem clsD {l : List Cls} {i : Nat} (h : i < l.length) : l.getD i default = l[i] := by simp [List.getD, h]
structure UnlikeP (p : Prog) : Prop where
  top : ∀ c, c ∈ p.classes → c.iface = true → c.super = zS
  nm : ∀ c, c ∈ p.classes → c.name ≠ zS
section
variable {p : Prog} {a b c : Str}
end
/-! ### The fixed programs of layer 11 -/
def nI : Str := ⟨#[73]⟩
def lhA : Cls := ⟨nA, zS, false, false, [], [], []⟩
def lhB : Cls := ⟨nB, nA, false, false, [nI], [], []⟩
def lhC : Cls := ⟨nC, nA, false, false, [], [], []⟩
def lhI : Cls := ⟨nI, zS, true, true, [], [], []⟩
def lhP : Prog := ⟨[lhA, lhB, lhC, lhI], [], ⟨zS, zS, zS⟩⟩
def lhA2 : Cls := ⟨nA, nB, false, false, [], [], []⟩
def lhB2 : Cls := ⟨nB, nA, false, false, [], [], []⟩
def lhQ : Prog := ⟨[lhA2, lhB2], [], ⟨zS, zS, zS⟩⟩
def subC (p : Prog) (n : Nat) (a b : Str) : Bool := match ancRun p n [a] [] with | some out => inL out b | none => false
theorem subC_ok {p : Prog} {n : Nat} {a b : Str} (h : (ancRun p n [a] []).isSome = true) : subP p a b = subC p n a b := by
  obtain ⟨out, ho⟩ := Option.isSome_iff_exists.1 h
  unfold subC
  rw [ho]
  exact subP_run n ho
def chk2C (p : Prog) (n : Nat) (c : Cls) : Bool := (upC c).any fun s => subC p n s c.name
end Go.Sx
