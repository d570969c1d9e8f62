/- Layer 12 in plain words: where methods and fields are. -/
import Derived.Test.YtaphgfiboidpbaaBaSxHier2
set_option linter.unusedSimpArgs false
set_option linter.unusedVariables false
namespace Go.Sx
open Go

def zCl : Cls := ⟨zS, zS, false, false, [], [], []⟩
def zMt : Meth := ⟨zS, zS, false, false, 0, []⟩
def zMR : MRef := ⟨zS, zS, zS⟩
def zFl : Fld := ⟨zS, ⟨0, zS⟩, false⟩
structure FRef where
  cls : Str
  name : Str
  deriving DecidableEq
def FRef.cells (f : FRef) : List AV := [sA f.cls, sA f.name]
def FRef.av (f : FRef) : AV := .agg f.cells
def Meth.av (m : Meth) : AV := .agg m.cells
def MRef.av (m : MRef) : AV := .agg m.cells
def Fld.av (f : Fld) : AV := .agg f.cells
def Instr.av (i : Instr) : AV := .agg i.cells
def zFR : FRef := ⟨zS, zS⟩
def nInit : Str := ⟨#[60, 99, 108, 105, 110, 105, 116, 62]⟩
def nVd : Str := ⟨#[40, 41, 86]⟩

def knownC (p : Prog) (nm : Str) : Cls := (clsFind p nm).getD zCl
def fldAt (c : Cls) (nm : Str) : Int := idxFrom (fun f : Fld => beqS f.name nm) c.fields 0
def mthAt (c : Cls) (nm d : Str) : Int := idxFrom (fun m : Meth => beqS m.name nm && beqS m.desc d) c.methods 0
def fldC (c : Cls) (nm : Str) : Option Fld := c.fields.find? fun f => beqS f.name nm
def mthC (c : Cls) (nm d : Str) : Option Meth := c.methods.find? fun m => beqS m.name nm && beqS m.desc d
def getP (p : Prog) (m : MRef) : Option Meth := mthC (knownC p m.cls) m.name m.desc
def fldP (p : Prog) (f : FRef) : Option Fld := fldC (knownC p f.cls) f.name
theorem idx_elim {α : Type} {G : Prop} (f : α → Bool) (l : List α) (h0 : idxFrom f l 0 = -1 → l.find? f = none → G) (h1 : ∀ (j : Nat) (hj : j < l.length), idxFrom f l 0 = (j : Int) → l.find? f = some l[j] → G) : G := by
  rcases idxFrom_find f l 0 with h | ⟨j, h, a, b, _⟩
  · exact h0 h.1 h.2
  · exact h1 j h (by simpa using a) b
def fieldW (p : Prog) (f : FRef) : Option FRef := ((supers p f.cls).find? fun s => (fldP p ⟨s, f.name⟩).isSome).map fun s => ⟨s, f.name⟩
def firstP (p : Prog) (l : List Str) (m : MRef) : Option MRef := (l.find? fun s => (getP p ⟨s, m.name, m.desc⟩).isSome).map fun s => ⟨s, m.name, m.desc⟩
def declP (p : Prog) (l : List Str) (m : MRef) (may : Meth → Bool) : Option MRef := match firstP p l m with
  | none => none
  | some r => match getP p r with
    | some x => if may x then some r else none
    | none => none
def mayS (x : Meth) : Bool := x.static
def mayD (x : Meth) : Bool := (!x.static && !x.abs) && !beqS x.name nInit
def mayV (x : Meth) : Bool := !x.static && !beqS x.name nInit
def initP (p : Prog) (c : Str) : Option MRef := match getP p ⟨c, nInit, nVd⟩ with
  | some x => if x.static then some ⟨c, nInit, nVd⟩ else none
  | none => none
/-- A member that is asked for. -/
def askedP (p : Prog) (x y z : Int) : MRef :=
  if p.classes.length = 0 then ⟨nA, ⟨#[109]⟩, nVd⟩ else
  let c := p.classes.getD (y.tmod p.classes.length).toNat default
  let k := c.methods.getD (z.tmod c.methods.length).toNat default
  ⟨(p.classes.getD (x.tmod p.classes.length).toNat default).name, if c.methods.length = 0 then zS else k.name, if c.methods.length = 0 then zS else k.desc⟩
def fieldQ (p : Prog) (x y z : Int) : FRef :=
  let c := p.classes.getD (y.tmod p.classes.length).toNat default
  ⟨(askedP p x y z).cls, if p.classes.length = 0 then ⟨#[102]⟩ else if c.fields.length = 0 then ⟨#[102]⟩ else (c.fields.getD (z.tmod c.fields.length).toNat default).name⟩
end Go.Sx
