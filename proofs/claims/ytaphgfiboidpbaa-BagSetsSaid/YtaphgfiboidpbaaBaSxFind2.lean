/- Layer 12's laws in plain words. -/
import Derived.Test.YtaphgfiboidpbaaBaSxFind
set_option linter.unusedSimpArgs false
set_option linter.unusedVariables false
namespace Go.Sx
open Go

/-! ### The fixed program of layer 12 -/
def nm1 : Str := ⟨#[109]⟩
def ns1 : Str := ⟨#[115]⟩
def nf1 : Str := ⟨#[102]⟩
def lfI : Instr := ⟨23, 0, 0, 0, 0, zS, zS, zS, []⟩
def lfM : Meth := ⟨nm1, nVd, false, false, 1, [lfI]⟩
def lfS : Meth := ⟨ns1, nVd, true, false, 0, [lfI]⟩
def lfF : Fld := ⟨nf1, ⟨2, zS⟩, false⟩
def lfA : Cls := ⟨nA, zS, false, false, [], [lfF], [lfM, lfS]⟩
def lfB : Cls := ⟨nB, nA, false, false, [], [], []⟩
def lfP : Prog := ⟨[lfA, lfB], [], ⟨zS, zS, zS⟩⟩
end Go.Sx
