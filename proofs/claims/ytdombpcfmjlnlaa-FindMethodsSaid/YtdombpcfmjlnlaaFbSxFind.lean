/- Layer 12 in plain words: where methods and fields are. -/
import Derived.Test.YtdombpcfmjlnlaaFbSxHier2
set_option linter.unusedSimpArgs false
set_option linter.unusedVariables false
namespace Go.Sx
open Go

def zCl : Cls := ⟨zS, zS, false, false, [], [], []⟩
def zMt : Meth := ⟨zS, zS, false, false, 0, []⟩
def zMR : MRef := ⟨zS, zS, zS⟩
def zFl : Fld := ⟨zS, ⟨0, zS⟩, false⟩
structure FRef where
  cls : Str
  name : Str
  deriving DecidableEq
def FRef.cells (f : FRef) : List AV := [sA f.cls, sA f.name]
def FRef.av (f : FRef) : AV := .agg f.cells
def Meth.av (m : Meth) : AV := .agg m.cells
def MRef.av (m : MRef) : AV := .agg m.cells
def Fld.av (f : Fld) : AV := .agg f.cells
def Instr.av (i : Instr) : AV := .agg i.cells
def zFR : FRef := ⟨zS, zS⟩
def nInit : Str := ⟨#[60, 99, 108, 105, 110, 105, 116, 62]⟩
def nVd : Str := ⟨#[40, 41, 86]⟩

def knownC (p : Prog) (nm : Str) : Cls := (clsFind p nm).getD zCl
def fldAt (c : Cls) (nm : Str) : Int := idxFrom (fun f : Fld => beqS f.name nm) c.fields 0
def mthAt (c : Cls) (nm d : Str) : Int := idxFrom (fun m : Meth => beqS m.name nm && beqS m.desc d) c.methods 0
def fldC (c : Cls) (nm : Str) : Option Fld := c.fields.find? fun f => beqS f.name nm
def mthC (c : Cls) (nm d : Str) : Option Meth := c.methods.find? fun m => beqS m.name nm && beqS m.desc d
def getP (p : Prog) (m : MRef) : Option Meth := mthC (knownC p m.cls) m.name m.desc
def fldP (p : Prog) (f : FRef) : Option Fld := fldC (knownC p f.cls) f.name
theorem fldAt_elim {G : Prop} (c : Cls) (nm : Str) (h0 : fldAt c nm = -1 → fldC c nm = none → G) (h1 : ∀ (j : Nat) (hj : j < c.fields.length), fldAt c nm = (j : Int) → fldC c nm = some c.fields[j] → G) : G := by
  rcases idxFrom_find (fun f : Fld => beqS f.name nm) c.fields 0 with h | ⟨j, h, a, b, _⟩
  · exact h0 h.1 h.2
  · exact h1 j h (by unfold fldAt; simpa using a) b
theorem mthAt_elim {G : Prop} (c : Cls) (nm d : Str) (h0 : mthAt c nm d = -1 → mthC c nm d = none → G) (h1 : ∀ (j : Nat) (hj : j < c.methods.length), mthAt c nm d = (j : Int) → mthC c nm d = some c.methods[j] → G) : G := by
  rcases idxFrom_find (fun m : Meth => beqS m.name nm && beqS m.desc d) c.methods 0 with h | ⟨j, h, a, b, _⟩
  · exact h0 h.1 h.2
  · exact h1 j h (by unfold mthAt; simpa using a) b
theorem fldAt_ge (c : Cls) (nm : Str) : decide (fldAt c nm ≥ 0) = (fldC c nm).isSome := by
  refine fldAt_elim c nm (fun h1 h2 => ?_) (fun j hj h1 h2 => ?_)
  · rw [h1, h2]; rfl
  · rw [h1, h2]; simp
theorem mthAt_ge (c : Cls) (nm d : Str) : decide (mthAt c nm d ≥ 0) = (mthC c nm d).isSome := by
  refine mthAt_elim c nm d (fun h1 h2 => ?_) (fun j hj h1 h2 => ?_)
  · rw [h1, h2]; rfl
  · rw [h1, h2]; simp
theorem knownC_no {p : Prog} {nm : Str} (h : hasC p nm = false) : knownC p nm = zCl := by
  unfold knownC
  unfold hasC at h
  rw [Option.isSome_eq_false_iff, Option.isNone_iff_eq_none] at h
  rw [h]; rfl
theorem getP_no {p : Prog} {m : MRef} (h : hasC p m.cls = false) : getP p m = none := by unfold getP; rw [knownC_no h]; rfl
theorem mthD {l : List Meth} {i : Nat} (h : i < l.length) : l.getD i default = l[i] := by simp [List.getD, h]
theorem knownC_fm {p : Prog} (hp : p.ok) (nm : Str) : small (knownC p nm).fields.length ∧ small (knownC p nm).methods.length := by
  unfold knownC
  cases h : clsFind p nm with
  | none => exact ⟨by unfold small; decide, by unfold small; decide⟩
  | some c =>
    have hk := hp.classes.2 c (clsFind_name h).2
    exact ⟨hk.fields.1, hk.methods.1⟩
theorem idx_elim {α : Type} {G : Prop} (f : α → Bool) (l : List α) (h0 : idxFrom f l 0 = -1 → l.find? f = none → G) (h1 : ∀ (j : Nat) (hj : j < l.length), idxFrom f l 0 = (j : Int) → l.find? f = some l[j] → G) : G := by
  rcases idxFrom_find f l 0 with h | ⟨j, h, a, b, _⟩
  · exact h0 h.1 h.2
  · exact h1 j h (by simpa using a) b
theorem decl_elim {G : Prop} (p : Prog) (l : List Str) (m : MRef) (h0 : (l.find? fun s => (getP p ⟨s, m.name, m.desc⟩).isSome) = none → G)
    (h1 : ∀ s x, (l.find? fun s => (getP p ⟨s, m.name, m.desc⟩).isSome) = some s → getP p ⟨s, m.name, m.desc⟩ = some x → G) : G := by
  cases hf : l.find? fun s => (getP p ⟨s, m.name, m.desc⟩).isSome with
  | none => exact h0 hf
  | some s =>
    have h2 := List.find?_some hf
    obtain ⟨x, hx⟩ := Option.isSome_iff_exists.1 h2
    exact h1 s x hf hx
def fieldW (p : Prog) (f : FRef) : Option FRef := ((supers p f.cls).find? fun s => (fldP p ⟨s, f.name⟩).isSome).map fun s => ⟨s, f.name⟩
def firstP (p : Prog) (l : List Str) (m : MRef) : Option MRef := (l.find? fun s => (getP p ⟨s, m.name, m.desc⟩).isSome).map fun s => ⟨s, m.name, m.desc⟩
def declP (p : Prog) (l : List Str) (m : MRef) (may : Meth → Bool) : Option MRef := match firstP p l m with
  | none => none
  | some r => match getP p r with
    | some x => if may x then some r else none
    | none => none
def mayS (x : Meth) : Bool := x.static
def mayD (x : Meth) : Bool := (!x.static && !x.abs) && !beqS x.name nInit
def mayV (x : Meth) : Bool := !x.static && !beqS x.name nInit
def initP (p : Prog) (c : Str) : Option MRef := match getP p ⟨c, nInit, nVd⟩ with
  | some x => if x.static then some ⟨c, nInit, nVd⟩ else none
  | none => none
theorem mthC_name {c : Cls} {nm d : Str} {x : Meth} (h : mthC c nm d = some x) : x.name = nm ∧ x.desc = d ∧ x ∈ c.methods := by
  unfold mthC at h
  have h1 := List.find?_some h
  rw [Bool.and_eq_true] at h1
  exact ⟨beqS_iff.1 h1.1, beqS_iff.1 h1.2, List.mem_of_find?_eq_some h⟩
theorem firstP_none {p : Prog} {l : List Str} {m : MRef} (h : (l.find? fun s => (getP p ⟨s, m.name, m.desc⟩).isSome) = none) : firstP p l m = none := by unfold firstP; rw [h]; rfl
theorem firstP_some {p : Prog} {l : List Str} {m : MRef} {s : Str} (h : (l.find? fun s => (getP p ⟨s, m.name, m.desc⟩).isSome) = some s) : firstP p l m = some ⟨s, m.name, m.desc⟩ := by unfold firstP; rw [h]; rfl
theorem firstP_get {p : Prog} {l : List Str} {m r : MRef} (h : firstP p l m = some r) : ∃ x, getP p r = some x ∧ r.cls ∈ l ∧ r.name = m.name ∧ r.desc = m.desc ∧ x.name = m.name := by
  unfold firstP at h
  cases hf : l.find? fun s => (getP p ⟨s, m.name, m.desc⟩).isSome with
  | none => rw [hf] at h; cases h
  | some s =>
    rw [hf] at h; cases h
    have h1 := List.find?_some hf
    obtain ⟨x, hx⟩ := Option.isSome_iff_exists.1 h1
    exact ⟨x, hx, List.mem_of_find?_eq_some hf, rfl, rfl, (mthC_name hx).1⟩
theorem declP_none {p : Prog} {l : List Str} {m : MRef} {may : Meth → Bool} (h : firstP p l m = none) : declP p l m may = none := by unfold declP; rw [h]
theorem declP_some {p : Prog} {l : List Str} {m r : MRef} {may : Meth → Bool} {x : Meth} (h : firstP p l m = some r) (hx : getP p r = some x) : declP p l m may = if may x then some r else none := by
  unfold declP; rw [h]; simp only; rw [hx]
theorem declP_get {p : Prog} {l : List Str} {m r : MRef} {may : Meth → Bool} (h : declP p l m may = some r) : ∃ x, firstP p l m = some r ∧ getP p r = some x ∧ may x = true := by
  cases hf : firstP p l m with
  | none => rw [declP_none hf] at h; cases h
  | some r' =>
    obtain ⟨x, hx, _⟩ := firstP_get hf
    rw [declP_some hf hx] at h
    split at h
    · cases h; exact ⟨x, rfl, hx, by assumption⟩
    · cases h

/-- A member that is asked for. -/
def askedP (p : Prog) (x y z : Int) : MRef :=
  if p.classes.length = 0 then ⟨nA, ⟨#[109]⟩, nVd⟩ else
  let c := p.classes.getD (y.tmod p.classes.length).toNat default
  let k := c.methods.getD (z.tmod c.methods.length).toNat default
  ⟨(p.classes.getD (x.tmod p.classes.length).toNat default).name, if c.methods.length = 0 then zS else k.name, if c.methods.length = 0 then zS else k.desc⟩
def fieldQ (p : Prog) (x y z : Int) : FRef :=
  let c := p.classes.getD (y.tmod p.classes.length).toNat default
  ⟨(askedP p x y z).cls, if p.classes.length = 0 then ⟨#[102]⟩ else if c.fields.length = 0 then ⟨#[102]⟩ else (c.fields.getD (z.tmod c.fields.length).toNat default).name⟩
end Go.Sx
