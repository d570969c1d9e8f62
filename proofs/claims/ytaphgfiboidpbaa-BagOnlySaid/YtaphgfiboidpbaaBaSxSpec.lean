/- What functions compute, in plain Lean. -/
import Derived.Test.YtaphgfiboidpbaaBaSxData
set_option linter.unusedVariables false
namespace Go.Sx
open Go

def idxFrom {α : Type} (f : α → Bool) : List α → Nat → Int
  | [], _ => -1
  | a :: r, i => if f a then i else idxFrom f r (i + 1)

def Prog.av (p : Prog) : AV := .agg p.cells
def classAt (p : Prog) (nm : Str) : Int := idxFrom (fun c => beqS c.name nm) p.classes 0
def inL (l : List Str) (s : Str) : Bool := l.any fun x => beqS x s

theorem inL_cons (x : Str) (l : List Str) (s : Str) : inL (x :: l) s = (beqS x s || inL l s) := rfl
theorem notF {a : Bool} (h : (!a) = false) : a = true := by cases a <;> simp_all
theorem drop_get {α : Type} {l : List α} {i : Nat} (h : i < l.length) : l.drop i = l[i] :: l.drop (i + 1) := List.drop_eq_getElem_cons h
theorem drop_end {α : Type} {l : List α} {i : Nat} (h : ¬ i < l.length) : l.drop i = [] := List.drop_of_length_le (by omega)

def Fact.av (f : Fact) : AV := .agg f.cells
def Ty.av (t : Ty) : AV := .agg t.cells
def Cls.av (c : Cls) : AV := .agg c.cells
def clsFind (p : Prog) (nm : Str) : Option Cls := p.classes.find? fun c => beqS c.name nm
def ifaceP (p : Prog) (nm : Str) : Bool := match clsFind p nm with | some c => c.iface | none => false
def isRefK (k : Int) : Bool := decide (2 ≤ k) && decide (k ≤ 6)
def eqF (a b : Fact) : Bool := a.kind == b.kind && beqS a.cls b.cls
def zS : Str := ⟨#[]⟩
def ofT (t : Ty) : Fact :=
  if t.kind = 2 then ⟨1, zS⟩ else if t.kind = 3 then ⟨3, t.cls⟩ else if t.kind = 4 then ⟨4, zS⟩ else if t.kind = 5 then ⟨5, t.cls⟩ else ⟨0, zS⟩
/-- Join, by what tells the nearest class that two have. -/
def joinBy (com : Str → Str → Str) (a b : Fact) : Fact :=
  if eqF a b then a else if !isRefK a.kind || !isRefK b.kind then ⟨0, zS⟩ else if a.kind = 2 then b else if b.kind = 2 then a
  else if a.kind = 3 ∧ b.kind = 3 then (if beqS (com a.cls b.cls) zS then ⟨6, zS⟩ else ⟨3, com a.cls b.cls⟩) else ⟨6, zS⟩
def zCls : List AV := [sA zS, sA zS, bA false, bA false, .v (.slice none 0 0), .v (.slice none 0 0), .v (.slice none 0 0)]
def knownA : Option Cls → AV
  | some c => .tup [.agg c.cells, bA true]
  | none => .tup [.agg zCls, bA false]

def upC (c : Cls) : List Str := if beqS c.super zS then c.ifaces else c.super :: c.ifaces
instance : Inhabited Cls := ⟨⟨⟨#[]⟩, ⟨#[]⟩, false, false, [], [], []⟩⟩
instance : Inhabited Fld := ⟨⟨⟨#[]⟩, ⟨0, ⟨#[]⟩⟩, false⟩⟩
instance : Inhabited Meth := ⟨⟨⟨#[]⟩, ⟨#[]⟩, false, false, 0, []⟩⟩
instance : Inhabited Instr := ⟨⟨0, 0, 0, 0, 0, ⟨#[]⟩, ⟨#[]⟩, ⟨#[]⟩, []⟩⟩
instance : Inhabited Fact := ⟨⟨0, ⟨#[]⟩⟩⟩
theorem map_getD {α β : Type} [Inhabited α] {l : List α} {f : α → β} {i : Nat} (h : i < l.length) : (l.map f)[i]? = some (f (l.getD i default)) := by simp [h, List.getD]
def sameF : List Fact → List Fact → Bool
  | [], [] => true
  | x :: l, y :: r => eqF x y && sameF l r
  | _, _ => false
theorem idxFrom_find {α : Type} (f : α → Bool) : ∀ (l : List α) (k : Nat), (idxFrom f l k = -1 ∧ l.find? f = none) ∨ ∃ (j : Nat) (h : j < l.length), idxFrom f l k = ((k + j : Nat) : Int) ∧ l.find? f = some l[j] ∧ f l[j] = true
  | [], k => .inl ⟨rfl, rfl⟩
  | a :: r, k => by
    simp only [idxFrom]
    cases hf : f a with
    | true => exact .inr ⟨0, by simp, by simp, by simp [List.find?, hf], by simpa using hf⟩
    | false =>
      rcases idxFrom_find f r (k + 1) with ⟨h1, h2⟩ | ⟨j, h, h1, h2, h3⟩
      · exact .inl ⟨by simpa using h1, by simp [List.find?, hf, h2]⟩
      · exact .inr ⟨j + 1, by simp; omega, by simp [h1]; omega, by simp [List.find?, hf, h2], by simpa using h3⟩
theorem classAt_cases (p : Prog) (nm : Str) : (classAt p nm = -1 ∧ clsFind p nm = none) ∨ ∃ (j : Nat) (h : j < p.classes.length), classAt p nm = (j : Int) ∧ clsFind p nm = some p.classes[j] := by
  rcases idxFrom_find (fun c : Cls => beqS c.name nm) p.classes 0 with h | ⟨j, h, h1, h2, _⟩
  · exact .inl h
  · exact .inr ⟨j, h, by unfold classAt; simpa using h1, h2⟩

/-! ### A class and those above it -/

theorem nodup_len {α : Type} [DecidableEq α] : ∀ {l m : List α}, l.Nodup → (∀ x, x ∈ l → x ∈ m) → l.length ≤ m.length
  | [], m, _, _ => Nat.zero_le _
  | x :: l, m, hn, hs => by
    rw [List.nodup_cons] at hn
    have hx : x ∈ m := hs x List.mem_cons_self
    have h1 : ∀ y, y ∈ l → y ∈ m.erase x := fun y hy => (List.mem_erase_of_ne (by rintro rfl; exact hn.1 hy)).2 (hs y (List.mem_cons_of_mem _ hy))
    have h2 := nodup_len hn.2 h1
    have h3 := List.length_erase_of_mem hx
    have h4 : 0 < m.length := List.length_pos_of_mem hx
    simp only [List.length_cons]
    omega

theorem inL_mem {l : List Str} {s : Str} : inL l s = true ↔ s ∈ l := by
  simp only [inL, List.any_eq_true, beqS_iff]
  exact ⟨fun ⟨x, h, e⟩ => e ▸ h, fun h => ⟨s, h, rfl⟩⟩
theorem inL_false {l : List Str} {s : Str} : inL l s = false ↔ s ∉ l := by
  rw [← inL_mem]; cases inL l s <;> simp

def supF (p : Prog) : Nat → Str → List Str → List Str
  | 0, _, out => out
  | n + 1, nm, out => match clsFind p nm with
    | none => out
    | some c => if inL out c.name then out else if beqS c.super zS then out ++ [c.name] else supF p n c.super (out ++ [c.name])
def supers (p : Prog) (nm : Str) : List Str := supF p (p.classes.length + 1) nm []

theorem clsFind_name {p : Prog} {nm : Str} {c : Cls} (h : clsFind p nm = some c) : c.name = nm ∧ c ∈ p.classes := by
  unfold clsFind at h
  have h1 := List.find?_some h
  exact ⟨beqS_iff.1 h1, List.mem_of_find?_eq_some h⟩

structure SupJ (p : Prog) (nm0 nm : Str) (out : List Str) : Prop where
  nd : out.Nodup
  sub : ∀ x, x ∈ out → x ∈ p.classes.map Cls.name
  eq : supF p (p.classes.length + 1 - out.length) nm out = supers p nm0

theorem SupJ.len {p : Prog} {nm0 nm : Str} {out : List Str} (h : SupJ p nm0 nm out) : out.length ≤ p.classes.length := by
  have := nodup_len h.nd h.sub
  simpa using this
theorem SupJ.start (p : Prog) (nm : Str) : SupJ p nm nm [] := ⟨List.nodup_nil, nofun, rfl⟩
theorem SupJ.eq' {p : Prog} {nm0 nm : Str} {out : List Str} (h : SupJ p nm0 nm out) : (match clsFind p nm with
    | none => out
    | some c => if inL out c.name then out else if beqS c.super zS then out ++ [c.name] else supF p (p.classes.length - out.length) c.super (out ++ [c.name])) = supers p nm0 := by
  have h1 := h.eq
  have h2 := h.len
  rw [show p.classes.length + 1 - out.length = (p.classes.length - out.length) + 1 from by omega] at h1
  exact h1
theorem SupJ.none {p : Prog} {nm0 nm : Str} {out : List Str} (h : SupJ p nm0 nm out) (hc : clsFind p nm = none) : out = supers p nm0 := by have := h.eq'; rwa [hc] at this
theorem SupJ.top {p : Prog} {nm0 nm : Str} {out : List Str} {c : Cls} (h : SupJ p nm0 nm out) (hc : clsFind p nm = some c) (hi : inL out c.name = false) (hs : beqS c.super zS = true) : out ++ [c.name] = supers p nm0 := by
  have := h.eq'; simpa [hc, hi, hs] using this
theorem SupJ.sub1 {p : Prog} {nm0 nm : Str} {out : List Str} {c : Cls} (h : SupJ p nm0 nm out) (hc : clsFind p nm = some c) (hi : inL out c.name = false) : (out ++ [c.name]).Nodup ∧ ∀ x, x ∈ out ++ [c.name] → x ∈ p.classes.map Cls.name := by
  refine ⟨?_, ?_⟩
  · rw [List.nodup_append]
    refine ⟨h.nd, by simp, ?_⟩
    intro a ha b hb
    rw [List.mem_singleton] at hb
    rintro rfl
    subst hb
    exact inL_false.1 hi ha
  · intro x hx
    rcases List.mem_append.1 hx with hx | hx
    · exact h.sub x hx
    · rw [List.mem_singleton] at hx
      subst hx
      exact List.mem_map.2 ⟨c, (clsFind_name hc).2, rfl⟩
theorem SupJ.next {p : Prog} {nm0 nm : Str} {out : List Str} {c : Cls} (h : SupJ p nm0 nm out) (hc : clsFind p nm = some c) (hi : inL out c.name = false) (hs : beqS c.super zS = false) : SupJ p nm0 c.super (out ++ [c.name]) := by
  obtain ⟨h1, h2⟩ := h.sub1 hc hi
  refine ⟨h1, h2, ?_⟩
  have h3 := h.eq'
  have h4 := nodup_len h1 h2
  simp only [List.length_append, List.length_map, List.length_cons, List.length_nil] at h4
  rw [hc] at h3
  simp only [hi, hs, Bool.false_eq_true, if_false] at h3
  rw [show p.classes.length + 1 - (out ++ [c.name]).length = p.classes.length - out.length from by simp]
  exact h3
theorem SupJ.lt {p : Prog} {nm0 nm : Str} {out : List Str} {c : Cls} (h : SupJ p nm0 nm out) (hc : clsFind p nm = some c) (hi : inL out c.name = false) : out.length + 1 ≤ p.classes.length := by
  obtain ⟨h1, h2⟩ := h.sub1 hc hi
  have h4 := nodup_len h1 h2
  simpa using h4

def comF (x y : List Str) : Str := (x.find? fun s => inL y s).getD zS
def com (p : Prog) (a b : Str) : Str := if !beqS a b && (ifaceP p a || ifaceP p b) then zS else comF (supers p a) (supers p b)
def mergeF (j : Fact → Fact → Fact) : List Fact → List Fact → List Fact
  | x :: l, y :: r => j x y :: mergeF j l r
  | _, _ => []
/-! ### Great -/
theorem any_hit {α : Type} {f : α → Bool} {l : List α} {i : Nat} (hJ : (l.drop i).any f = l.any f) (hi : i < l.length) (h : f l[i] = true) : l.any f = true := by rw [← hJ, drop_get hi, List.any_cons, h]; rfl
theorem any_next {α : Type} {f : α → Bool} {l : List α} {i : Nat} (hJ : (l.drop i).any f = l.any f) (hi : i < l.length) (h : f l[i] = false) : (l.drop (i + 1)).any f = l.any f := by rw [← hJ, drop_get hi, List.any_cons, h]; rfl
theorem any_end {α : Type} {f : α → Bool} {l : List α} {i : Nat} (hJ : (l.drop i).any f = l.any f) (hi : ¬ i < l.length) : l.any f = false := by rw [← hJ, drop_end hi]; rfl
def greatI (x : Instr) : Bool := decide (x.args.length > 60) || decide (x.cls.size > 300) || decide (x.name.size > 300) || decide (x.desc.size > 300)
def greatM0 (m : Meth) : Bool := decide (m.code.length > 300) || decide (m.name.size > 300) || decide (m.desc.size > 300)
def greatM (m : Meth) : Bool := greatM0 m || m.code.any greatI
def greatC0 (c : Cls) : Bool := decide (c.ifaces.length > 40) || decide (c.fields.length > 40) || decide (c.methods.length > 40) || decide (c.name.size > 300) || decide (c.super.size > 300)
def greatC (c : Cls) : Bool := greatC0 c || c.methods.any greatM
def greatP0 (p : Prog) : Bool := decide (p.classes.length > 70) || decide (p.names.length > 70)
def greatP (p : Prog) : Bool := greatP0 p || p.classes.any greatC

/-- A closure over two things that are boxed. -/
def PairsR (f t : Nat) (x y : AV) : AEnd → AHeap → Prop := fun e H => ∃ i1 i2, e = .ret (.fn (.func f) [.ptr i1 1 0 0, .ptr i2 1 0 0]) ∧ H = [(i2, .rows t 1 [[y]]), (i1, .rows t 1 [[x]])]

/-! ### Sets of texts, as maps -/
theorem beqS_comm (a b : Str) : beqS a b = beqS b a := by
  cases h : beqS b a with
  | true => exact beqS_iff.2 (beqS_iff.1 h).symm
  | false => cases h2 : beqS a b with
    | true => rw [beqS_iff.2 (beqS_iff.1 h2).symm] at h; cases h
    | false => rfl
def setM (out : List Str) : List (Value × AV) := out.map fun s => (.string s, bA true)
theorem setM_keys (out : List Str) : strKeys (setM out) := by
  intro k x h
  obtain ⟨s, _, e⟩ := List.mem_map.1 h
  cases e
  exact ⟨s, rfl⟩
theorem mget_set : ∀ (out : List Str) (k : Str), mget (setM out) k = if inL out k then some (bA true) else none
  | [], k => rfl
  | x :: out, k => by
    have ih := mget_set out k
    unfold setM at ih ⊢
    simp only [List.map_cons, mget, skey, inL_cons, ih, beqS_comm x k]
    cases beqS k x <;> simp
theorem mput_set (out : List Str) (k : Str) (h : inL out k = false) : mput (setM out) k (bA true) = setM (out ++ [k]) := by
  rw [mput_none _ _ _ (by rw [mget_set, h]; rfl)]
  simp [setM]

section
variable {P : Program} {ro : Option Nat} {Q : Exit → St → Prop} {s : St} {ops : Array Oper} {o : Oper} {rest : List Oper} {T : List (Nat × AV)}
theorem eff_hasS {t kt et id : Nat} {p q : Operand} {k : ByteArray} {out : List Str} [hu : UD P t (.map kt et)] [hk : UD P kt .string] [hz : ZV P et (.bool false)] (ho : o.op = .lookup t p q false)
    (hp : ev T p = some (.map id)) (hq : ev T q = some (.v (.string k))) : Eff P o T [(id, .mp (setM out))] (.v (.bool (inL out k))) [] := by
  have h := eff_lookup_str (P := P) (T := T) ho hp hq (setM_keys out)
  rw [mget_set] at h
  cases hi : inL out k <;> simpa [hi] using h
theorem aops_hasS {t kt et id : Nat} {p q : Operand} {k : ByteArray} {out : List Str} (j : Nat) [hu : UD P t (.map kt et)] [hk : UD P kt .string] [hz : ZV P et (.bool false)] (hw : Wanted ops s.T o true) (hd : dok o.dst s.n = true) (ho : o.op = .lookup t p q false)
    (hp : ev s.T p = some (.map id)) (hq : ev s.T q = some (.v (.string k))) (hH : s.H[j]? = some (id, .mp (setM out))) (h : AOps P ro ops rest Q { s with T := put s.T o.dst (.v (.bool (inL out k))) }) : AOps P ro ops (o :: rest) Q s :=
  aops_eff [(id, .mp (setM out))] _ hw hd (eff_hasS ho hp hq) (fun p hp => by rw [List.mem_singleton.1 hp]; exact List.mem_of_getElem? hH) h
theorem aops_ghasS {t kt et id : Nat} {p q : Operand} {k : ByteArray} {out : List Str} {e : Bool} (j : Nat) [hu : UD P t (.map kt et)] [hk : UD P kt .string] [hz : ZV P et (.bool false)] (hw : Wanted ops s.T o e) (hd : dok o.dst s.n = true) (ho : o.op = .lookup t p q false)
    (hp : e = true → ev s.T p = some (.map id)) (hq : e = true → ev s.T q = some (.v (.string k))) (hH : s.H[j]? = some (id, .mp (setM out))) (h : AOps P ro ops rest Q { s with T := put s.T o.dst (cond e (.v (.bool (inL out k))) (.v undef)) }) : AOps P ro ops (o :: rest) Q s := by
  cases e
  · exact aops_off hw hd h
  · exact aops_hasS j hw hd ho (hp rfl) (hq rfl) hH h
theorem aops_putS {t kt et id : Nat} {p q r : Operand} {key : ByteArray} {out : List Str} (k : Nat) [hu : UD P t (.map kt et)] [hk : UD P kt .string] (hw : Wanted ops s.T o true) (hd : dok o.dst s.n = true)
    (ho : o.op = .mapUpdate t p q r) (hp : ev s.T p = some (.map id)) (hH : s.H[k]? = some (id, .mp (setM out))) (hq : ev s.T q = some (.v (.string key))) (hr : ev s.T r = some (.v (.bool true))) (hin : inL out key = false)
    (h : AOps P ro ops rest Q { s with T := put s.T o.dst (.v undef), H := s.H.set k (id, .mp (setM (out ++ [key]))) }) : AOps P ro ops (o :: rest) Q s := by
  refine aops_mapUpdate_str k hw hd ho hp hH hq hr (setM_keys out) ?_
  rw [mput_set out key hin]
  exact h
end

theorem supF_pre (p : Prog) : ∀ (n : Nat) (nm : Str) (out : List Str), ∃ suf, supF p n nm out = out ++ suf
  | 0, _, out => ⟨[], by simp [supF]⟩
  | n + 1, nm, out => by
    unfold supF
    cases clsFind p nm with
    | none => exact ⟨[], by simp⟩
    | some c =>
      simp only
      split
      · exact ⟨[], by simp⟩
      · split
        · exact ⟨[c.name], rfl⟩
        · obtain ⟨suf, h⟩ := supF_pre p n c.super (out ++ [c.name])
          exact ⟨c.name :: suf, by rw [h]; simp⟩
theorem SupJ.pre {p : Prog} {nm0 nm : Str} {out : List Str} {c : Cls} (h : SupJ p nm0 nm out) (hc : clsFind p nm = some c) (hi : inL out nm = false) : ∃ suf, supers p nm0 = out ++ nm :: suf := by
  have hn := (clsFind_name hc).1
  have := h.eq'
  rw [hc] at this
  simp only [hn, hi, Bool.false_eq_true, if_false] at this
  split at this
  · exact ⟨[], this.symm⟩
  · obtain ⟨suf, h2⟩ := supF_pre p (p.classes.length - out.length) c.super (out ++ [nm])
    rw [h2] at this
    exact ⟨suf, by rw [← this]; simp⟩

def AboveR (f t n u : Nat) (cells : List AV) (nm : Str) : AEnd → AHeap → Prop := fun e H => ∃ i1 i2, e = .ret (.fn (.func f) [.ptr i1 n 0 0, .ptr i2 1 0 0]) ∧ H = [(i2, .rows u 1 [[sA nm]]), (i1, .rows t n [cells])]

/-! ### All that a class names above it -/
inductive Anc (p : Prog) (nm : Str) : Str → Prop
  | base {c : Cls} (h : clsFind p nm = some c) : Anc p nm nm
  | step {s u : Str} {c d : Cls} (h : Anc p nm s) (hc : clsFind p s = some c) (hu : u ∈ upC c) (hd : clsFind p u = some d) : Anc p nm u

structure AncJ (p : Prog) (nm : Str) (todo out : List Str) : Prop where
  nd : out.Nodup
  sub : ∀ x, x ∈ out → x ∈ p.classes.map Cls.name
  snd : ∀ x, x ∈ out → Anc p nm x
  tsnd : ∀ x, x ∈ todo → ∀ c, clsFind p x = some c → Anc p nm x
  cl : ∀ s, s ∈ out → ∀ c, clsFind p s = some c → ∀ u, u ∈ upC c → ∀ d, clsFind p u = some d → u ∈ out ∨ u ∈ todo
  st : ∀ c, clsFind p nm = some c → nm ∈ out ∨ nm ∈ todo

theorem AncJ.start (p : Prog) (nm : Str) : AncJ p nm [nm] [] :=
  ⟨List.nodup_nil, nofun, nofun, fun x hx c hc => by rw [List.mem_singleton.1 hx] at hc ⊢; exact .base hc, nofun, fun _ _ => .inr List.mem_cons_self⟩
theorem AncJ.fin {p : Prog} {nm : Str} {out : List Str} (h : AncJ p nm [] out) (s : Str) : s ∈ out ↔ Anc p nm s := by
  refine ⟨h.snd s, fun ha => ?_⟩
  induction ha with
  | base hc => exact (h.st _ hc).resolve_right nofun
  | step _ hc hu hd ih => exact (h.cl _ ih _ hc _ hu _ hd).resolve_right nofun
theorem AncJ.skip {p : Prog} {nm sx : Str} {t out : List Str} (h : AncJ p nm (t ++ [sx]) out) (hs : clsFind p sx = none ∨ sx ∈ out) : AncJ p nm t out := by
  refine ⟨h.nd, h.sub, h.snd, fun x hx => h.tsnd x (List.mem_append_left _ hx), ?_, ?_⟩
  · intro s hs' c hc u hu d hd
    rcases h.cl s hs' c hc u hu d hd with h1 | h1
    · exact .inl h1
    · rcases List.mem_append.1 h1 with h2 | h2
      · exact .inr h2
      · rw [List.mem_singleton] at h2
        subst h2
        rcases hs with h3 | h3
        · rw [h3] at hd; cases hd
        · exact .inl h3
  · intro c hc
    rcases h.st c hc with h1 | h1
    · exact .inl h1
    · rcases List.mem_append.1 h1 with h2 | h2
      · exact .inr h2
      · rw [List.mem_singleton] at h2
        subst h2
        rcases hs with h3 | h3
        · rw [h3] at hc; cases hc
        · exact .inl h3
theorem AncJ.sub1 {p : Prog} {nm sx : Str} {t out : List Str} {c : Cls} (h : AncJ p nm (t ++ [sx]) out) (hc : clsFind p sx = some c) (hn : sx ∉ out) : (out ++ [sx]).Nodup ∧ ∀ x, x ∈ out ++ [sx] → x ∈ p.classes.map Cls.name := by
  refine ⟨?_, ?_⟩
  · rw [List.nodup_append]
    refine ⟨h.nd, by simp, ?_⟩
    intro a ha b hb
    rw [List.mem_singleton] at hb
    subst hb
    rintro rfl
    exact hn ha
  · intro x hx
    rcases List.mem_append.1 hx with hx | hx
    · exact h.sub x hx
    · rw [List.mem_singleton] at hx
      subst hx
      obtain ⟨h1, h2⟩ := clsFind_name hc
      exact List.mem_map.2 ⟨c, h2, h1⟩
theorem AncJ.add {p : Prog} {nm sx : Str} {t out : List Str} {c : Cls} (h : AncJ p nm (t ++ [sx]) out) (hc : clsFind p sx = some c) (hn : sx ∉ out) : AncJ p nm (t ++ upC c) (out ++ [sx]) := by
  have ha : Anc p nm sx := h.tsnd sx (List.mem_append_right _ List.mem_cons_self) c hc
  refine ⟨(h.sub1 hc hn).1, (h.sub1 hc hn).2, ?_, ?_, ?_, ?_⟩
  · intro x hx
    rcases List.mem_append.1 hx with hx | hx
    · exact h.snd x hx
    · rw [List.mem_singleton.1 hx]; exact ha
  · intro x hx d hd
    rcases List.mem_append.1 hx with hx | hx
    · exact h.tsnd x (List.mem_append_left _ hx) d hd
    · exact .step ha hc hx hd
  · intro s hs' c' hc' u hu d hd
    rcases List.mem_append.1 hs' with hs' | hs'
    · rcases h.cl s hs' c' hc' u hu d hd with h1 | h1
      · exact .inl (List.mem_append_left _ h1)
      · rcases List.mem_append.1 h1 with h2 | h2
        · exact .inr (List.mem_append_left _ h2)
        · exact .inl (List.mem_append_right _ h2)
    · rw [List.mem_singleton] at hs'
      subst hs'
      rw [hc] at hc'; cases hc'
      exact .inr (List.mem_append_right _ hu)
  · intro c' hc'
    rcases h.st c' hc' with h1 | h1
    · exact .inl (List.mem_append_left _ h1)
    · rcases List.mem_append.1 h1 with h2 | h2
      · exact .inr (List.mem_append_left _ h2)
      · exact .inl (List.mem_append_right _ h2)
theorem AncJ.lt {p : Prog} {nm sx : Str} {t out : List Str} {c : Cls} (h : AncJ p nm (t ++ [sx]) out) (hc : clsFind p sx = some c) (hn : sx ∉ out) : out.length + 1 ≤ p.classes.length := by
  have h4 := nodup_len (h.sub1 hc hn).1 (h.sub1 hc hn).2
  simpa using h4
theorem AncJ.len {p : Prog} {nm : Str} {t out : List Str} (h : AncJ p nm t out) : out.length ≤ p.classes.length := by
  have h4 := nodup_len h.nd h.sub
  simpa using h4
def MapR (p : Prog) (nm : Str) : AEnd → AHeap → Prop := fun e H => ∃ q out, e = .ret (.map q) ∧ H = [(q, .mp (setM out))] ∧ ∀ s, s ∈ out ↔ Anc p nm s
noncomputable def subP (p : Prog) (a b : Str) : Bool := open Classical in decide (Anc p a b)
theorem inL_subP {p : Prog} {a b : Str} {out : List Str} (h : ∀ s, s ∈ out ↔ Anc p a s) : inL out b = subP p a b := by
  unfold subP
  by_cases hb : Anc p a b
  · rw [inL_mem.2 ((h b).2 hb)]; simp [hb]
  · rw [inL_false.2 (fun hx => hb ((h b).1 hx))]; simp [hb]
theorem upC_len {c : Cls} (h : c.ifaces.length ≤ 1000) : (upC c).length ≤ 1001 := by
  unfold upC; split
  · omega
  · simp; omega

theorem last_get {α β : Type} {l t : List α} {x : α} {f : α → β} {i : Nat} (ht : l = t ++ [x]) (hi : i = t.length) : (l.map f)[i]? = some (f x) := by subst ht; subst hi; simp
def fitsBy (sub : Bool) (f : Fact) (t : Ty) : Bool :=
  if t.kind = 2 then f.kind == 1 else if t.kind = 3 then f.kind == 2 || (f.kind == 3 && sub) else if t.kind = 4 then f.kind == 2 || f.kind == 4 else if t.kind = 5 then f.kind == 2 || (f.kind == 5 && beqS f.cls t.cls) else false
theorem beqS_refl (a : Str) : beqS a a = true := beqS_iff.2 rfl
/-! ### All that a class names above it, reckoned -/
def ancRun (p : Prog) : Nat → List Str → List Str → Option (List Str)
  | 0, _, _ => none
  | n + 1, todo, out => match todo.getLast? with
    | none => some out
    | some s => match clsFind p s with
      | none => ancRun p n todo.dropLast out
      | some c => if inL out s then ancRun p n todo.dropLast out else ancRun p n (todo.dropLast ++ upC c) (out ++ [s])
theorem ancRun_spec {p : Prog} {nm : Str} : ∀ {n : Nat} {todo out r : List Str}, AncJ p nm todo out → ancRun p n todo out = some r → AncJ p nm [] r
  | 0, _, _, _, _, h => by cases h
  | n + 1, todo, out, r, hJ, h => by
    unfold ancRun at h
    cases hl : todo.getLast? with
    | none =>
      rw [hl] at h; cases h
      rw [List.getLast?_eq_none_iff] at hl
      subst hl; exact hJ
    | some s =>
      obtain ⟨t, ht⟩ := List.getLast?_eq_some_iff.1 hl
      subst ht
      rw [hl] at h
      simp only [List.dropLast_concat] at h
      cases hc : clsFind p s with
      | none => rw [hc] at h; exact ancRun_spec (hJ.skip (.inl hc)) h
      | some c =>
        rw [hc] at h
        simp only at h
        cases hi : inL out s with
        | true => rw [hi] at h; exact ancRun_spec (hJ.skip (.inr (inL_mem.1 hi))) h
        | false => rw [hi] at h; exact ancRun_spec (hJ.add hc (inL_false.1 hi)) h
theorem subP_run {p : Prog} {a b : Str} {out : List Str} (n : Nat) (h : ancRun p n [a] [] = some out) : subP p a b = inL out b :=
  (inL_subP (AncJ.fin (ancRun_spec (AncJ.start p a) h))).symm

/-! ### The fixed program of layer 15 -/
def nA : Str := ⟨#[65]⟩
def nB : Str := ⟨#[66]⟩
def nC : Str := ⟨#[67]⟩
def lvCA : Cls := ⟨nA, zS, false, false, [], [], []⟩
def lvCB : Cls := ⟨nB, nA, false, false, [], [], []⟩
def lvCC : Cls := ⟨nC, nA, false, false, [], [], []⟩
def lvP : Prog := ⟨[lvCA, lvCB, lvCC], [], ⟨zS, zS, zS⟩⟩
theorem greatP_len {p : Prog} (h : greatP p = false) : p.classes.length ≤ 1000 := by simp [greatP, greatP0] at h; omega
end Go.Sx
