/- YtecfpjokgjdjcaaRaB1: texts of this claim, one behind the other. -/
import Derived.ProofKit
import Derived.OpenShut
import Derived.Below
import Derived.Carry
import Derived.Test.YtecfpjokgjdjcaaProg
import Derived.AtR
import Derived.Maps.RangeRun
import Derived.Lib.Bytealg
import Derived.Laws.Externs
import Derived.Deep.AppendSrc
import Derived.Laws.CopyRow
import Derived.WalkSpells
import Derived.Lib.Strings
import Derived.LoopNIn
import Derived.Test.YtecfpjokgjdjcaaRaB0
set_option linter.unusedVariables false
set_option linter.unusedSimpArgs false
set_option linter.unusedSectionVars false
set_option linter.unnecessarySimpa false
namespace Go.Sx
open Go Go.ChangeShapes Go.RowKit
inductive TX (P : Program) (t : TypeId) : AV → Prop
 | one {x : AV} (h : TV P t [x]) : TX P t x
 | agg {xs : List AV} (h : TV P t xs) : TX P t (.agg xs)
def isAggT (P : Program) (t : TypeId) : Bool := match P.underlying t with
 | some (.struct _) => true
 | some (.array _ _) => true
 | _ => false
inductive TXs (P : Program) : List TypeId → List AV → Prop
 | nil : TXs P [] []
 | one {t : TypeId} {ts : List TypeId} {x : AV} {xs : List AV} (hn : isAggT P t = false) (h : TV P t [x]) (r : TXs P ts xs) : TXs P (t :: ts) (x :: xs)
 | agg {t : TypeId} {ts : List TypeId} {cs : List AV} {xs : List AV} (hn : isAggT P t = true) (h : TV P t cs) (r : TXs P ts xs) : TXs P (t :: ts) (.agg cs :: xs)
section
variable {H : Type} {enc : TypeId × Value → H} {P : Program} {W : World}
theorem Zfk {n : Nat} {t : TypeId} {v : Value} {d : DataW H} {ps : List MemPlace} {base : Nat} (hok : okT P n t = true) (h : DataW.Trod enc P W 0 (fun _ => true) true t v d ps) (hv : Value.okWide P W .any base t v)
  (hw : ∀ k ∈ d.weights P t, k ≤ reachBytes) : (isAggT P t = false ∧ ∃ x, VR (baseC W) x v ∧ TV P t [x]) ∨ (isAggT P t = true ∧ ∃ cs, VR (baseC W) (.agg cs) v ∧ TV P t cs) := by
 obtain ⟨fuel, hf⟩ := h
 obtain ⟨xs, hc, ht⟩ := Zfj reachBytes rfl n t hok fuel _ d ps hf hw
 cases n with
 | zero => cases hok
 | succ n =>
 unfold okT at hok
 have one : v.cells.toList = [v] → isAggT P t = false → (isAggT P t = false ∧ ∃ x, VR (baseC W) x v ∧ TV P t [x]) ∨ (isAggT P t = true ∧ ∃ cs, VR (baseC W) (.agg cs) v ∧ TV P t cs) := by
  intro h1 h2
  rw [h1] at hc
  left
  refine ⟨h2, ?_⟩
  have hl := hc.1
  match xs, hl, hc, ht with
  | [x], _, hc, ht => exact ⟨x, (hc.2 0 x v rfl rfl).1, ht⟩
 have agg : (∃ cs, v = .agg cs) → isAggT P t = true → (isAggT P t = false ∧ ∃ x, VR (baseC W) x v ∧ TV P t [x]) ∨ (isAggT P t = true ∧ ∃ cs, VR (baseC W) (.agg cs) v ∧ TV P t cs) := by
  rintro ⟨cs, rfl⟩ h2
  right
  refine ⟨h2, xs, .agg xs cs ?_ ?_, ht⟩
  ·simpa [Value.cells] using hc.1
  ·intro i x c hx hcc
   exact (hc.2 i x c hx (by simpa [Value.cells] using hcc)).1
 cases hu : P.underlying t with
 | none => rw [hu] at hok; cases hok
 | some u =>
  rw [hu] at hok
  simp only [Value.okWide, hu, Cell.okWide, Cell.ok] at hv
  cases u with
  | bool => exact one (by clear hc hf one agg; cases v with | agg cs => simp at hv | _ => rfl) (by simp [isAggT, hu])
  | int k => exact one (by clear hc hf one agg; cases v with | agg cs => simp at hv | _ => rfl) (by simp [isAggT, hu])
  | string => exact one (by clear hc hf one agg; cases v with | agg cs => simp at hv | _ => rfl) (by simp [isAggT, hu])
  | slice e => exact one (by clear hc hf one agg; cases v with | agg cs => simp at hv | _ => rfl) (by simp [isAggT, hu])
  | struct fs => exact agg (by obtain ⟨cs, h1, _⟩ := hv; exact ⟨cs, h1⟩) (by simp [isAggT, hu])
  | array k e => exact agg (by obtain ⟨cs, h1, _⟩ := hv; exact ⟨cs, h1⟩) (by simp [isAggT, hu])
  | _ => cases hok
theorem Z8x {n : Nat} {base : Nat} : ∀ {ts : List TypeId} {vs : List Value} {ds : List (DataW H)} {ps : List MemPlace}, ts.all (okT P n) = true → DataW.TrodAll enc P W 0 (fun _ => true) true ts vs ds ps →
  (∀ (j : Nat) t v, ts[j]? = some t → vs[j]? = some v → Value.okWide P W .any base t v) → (∀ k ∈ DataW.weightsEach P ts ds, k ≤ reachBytes) →
  ∃ xs, TXs P ts xs ∧ xs.length = vs.length ∧ ∀ (i : Nat) (x : AV) (v : Value), xs[i]? = some x → vs[i]? = some v → VR (baseC W) x v
 | [], vs, ds, ps, _, h, _, _ => by
  obtain ⟨rfl, rfl, rfl⟩ := trodAll_nil h
  exact ⟨[], .nil, rfl, by intro i x v h; simp at h⟩
 | t :: ts, vs, ds, ps, hok, h, hv, hw => by
  obtain ⟨v, vs', d, ds', p, q, rfl, rfl, rfl, h1, h2⟩ := trodAll_cons h
  simp only [List.all_cons, Bool.and_eq_true] at hok
  simp only [DataW.weightsEach, List.mem_append] at hw
  obtain ⟨xs, g1, g2, g3⟩ := Z8x (ts := ts) hok.2 h2 (fun j t v ht hx => hv (j + 1) t v (by simpa using ht) (by simpa using hx)) (fun k hk => hw k (.inr hk))
  have cons : ∀ x, VR (baseC W) x v → (x :: xs).length = (v :: vs').length ∧ ∀ (i : Nat) (y : AV) (u : Value), (x :: xs)[i]? = some y → (v :: vs')[i]? = some u → VR (baseC W) y u := by
   intro x hx
   refine ⟨by simp [g2], fun i y u hy hu => ?_⟩
   cases i with
   | zero => simp at hy hu; subst hy; subst hu; exact hx
   | succ i => exact g3 i y u (by simpa using hy) (by simpa using hu)
  rcases Zfk hok.1 h1 (hv 0 t v rfl rfl) (fun k hk => hw k (.inl hk)) with ⟨hn, x, hx, ht⟩ | ⟨hn, cs, hx, ht⟩
  ·exact ⟨x :: xs, .one hn ht g1, cons x hx⟩
  ·exact ⟨.agg cs :: xs, .agg hn ht g1, cons _ hx⟩
theorem Z81 (hl : laidOutB P = true) {W' : World} (hb : Below W.heap.size W W') : ∀ {ts : List TypeId} {vs : List Value} {ds : List (DataW H)} {ps : List MemPlace}, (ts.all fun t => P.readableRec t && Nat.blt t P.types.size) = true →
  DataW.TrodAll enc P W 0 (fun _ => true) true ts vs ds ps → DataW.TrodAll enc P W' 0 (fun b => decide (b < W.heap.size)) true ts vs ds ps
 | [], vs, ds, ps, _, h => by
  obtain ⟨rfl, rfl, rfl⟩ := trodAll_nil h
  exact trodAll_mk0
 | t :: ts, vs, ds, ps, hok, h => by
  obtain ⟨v, vs', d, ds', p, q, rfl, rfl, rfl, h1, h2⟩ := trodAll_cons h
  simp only [List.all_cons, Bool.and_eq_true] at hok
  have hlt : t < P.types.size := Nat.blt_eq ▸ hok.1.2
  refine trodAll_cons_mk (Below.trod hl hok.1.1 hlt h1 hb ?_) (Z81 hl hb hok.2 h2)
  obtain ⟨m, hm⟩ := h1
  exact DataW.trod_lt m _ _ _ hm
theorem Zda {f : Nat} {xs : List AV} {args : Array Value} (hx : xs.length = args.toList.length) (hr : ∀ (i : Nat) (x : AV) (v : Value), xs[i]? = some x → args.toList[i]? = some v → VR (baseC W) x v)
  (hc : ACalls P f xs [] (fun e _ => e = .ret (.v (.bool true)))) : Calls P f args W fun e W' => e = .returned (.bool true) ∧ Below W.heap.size W W' := by
 refine (callsIn_wide (n := 0)).1 ?_
 refine (hc.run [] (baseC W) W args (Zac W) ⟨by simpa using hx, fun i x v h1 h2 => hr i x v h1 (by simpa using h2)⟩).mono ?_
 rintro e W' ⟨C', H', x, rfl, hw', he, hx⟩
 cases e with
 | returned v =>
  cases hx
  refine ⟨rfl, he.os, he.tape, he.output, he.size, fun k hk => he.fr k hk ?_⟩
  rintro ⟨i, o, N, h, _⟩
  cases h
 | panicked ch => exact hx.elim
 | outgrown => exact hx.elim
end
theorem Z6h {H : Type} {enc : TypeId × Value → H} {P : Program} {W : World} : ∀ {ts : List TypeId} {vs : List Value} {ds : List (DataW H)} {ps : List MemPlace}, DataW.TrodAll enc P W 0 (fun _ => true) true ts vs ds ps → ds.length = ts.length
 | [], vs, ds, ps, h => by obtain ⟨_, rfl, _⟩ := trodAll_nil h; rfl
 | t :: ts, vs, ds, ps, h => by
  obtain ⟨v, vs', d, ds', p, q, rfl, rfl, rfl, h1, h2⟩ := trodAll_cons h
  simp [Z6h h2]
theorem law_post {H : Type} {enc : TypeId × Value → H} {P : Program} {f : Nat} {fn : Func} {s : ChangeSpec} {W : World} {base : Nat} {args : Array Value} {ds gs : List (DataW H)} {before : List MemPlace} {tb : TypeId}
  (n : Nat) (ts : List TypeId) (hts : fn.params.toList = ts) (hrt : fn.resultTypes = #[tb]) (hub : P.underlying tb = some .bool) (hvars : s.vars = [])
  (hl : laidOutB P = true) (hok : ts.all (okT P n) = true) (hrd : (ts.all fun t => P.readableRec t && Nat.blt t P.types.size) = true)
  (hs : ∀ ds : List (DataW H), ds.length = ts.length → (s.fn H ds).results = [.lit (.bool true)] ∧ (s.fn H ds).args = ds ∧ (s.fn H ds).vars = [])
  (hval : ∀ (j : Nat) t v, fn.params[j]? = some t → args[j]? = some v → Value.okWide P W .any base t v)
  (hW : DataW.Whole enc P fn.params.toList s.vars false W args.toList ds gs before)
  (hsz : (DataW.weightsEach P (fn.params.toList ++ s.plain.varTypes P) (ds ++ gs)).all (· ≤ reachBytes) = true)
  (contract : ∀ xs, TXs P ts xs → ACalls P f xs [] (fun e _ => e = .ret (.v (.bool true)))) :
  Calls P f args W fun e W' => ∃ v, e = .returned v ∧ s.post enc P fn false true false false W args v W' := by
 subst hts
 have hW' := hW
 obtain ⟨p, q, hA, hV, rfl, hfz, hnd⟩ := hW
 rw [hvars] at hV
 obtain ⟨rfl, rfl⟩ := trodVars_none hV
 have hvt : s.plain.varTypes P = [] := by
  have : s.plain.vars = [] := hvars
  simp [DataSpec.varTypes, this]
 rw [hvt, List.append_nil, List.append_nil] at hsz
 have hsz' : ∀ k ∈ DataW.weightsEach P fn.params.toList ds, k ≤ reachBytes := fun k hk => by
  simpa using List.all_eq_true.1 hsz k hk
 obtain ⟨xs, h1, h2, h3⟩ := Z8x (n := n) hok hA (fun j t v ht hv => hval j t v (by simpa using ht) (by simpa using hv)) hsz'
 refine (Zda h2 h3 (contract xs h1)).mono ?_
 rintro e W' ⟨rfl, bel⟩
 have hlen : ds.length = fn.params.toList.length := by
  exact Z6h hA
 obtain ⟨e1, e2, e3⟩ := hs ds hlen
 refine ⟨_, rfl, ds, [], _, [], p, [], hW', ?_, ?_, ?_⟩
 ·rw [hrt, List.append_nil, e1]
  exact trodAll_mk1 (shut_bool hub _)
 ·rw [List.append_nil, e2]
  exact Z81 hl bel hrd hA
 ·rw [List.append_nil, e3, hvars]
  exact ⟨rfl, bel.frame _, fun h => by cases h⟩
end Go.Sx
namespace Go.Sx
open Go
abbrev Str := ByteArray
abbrev iA (n : Int) : AV := .v (.int .i64 n)
abbrev uA (n : Int) : AV := .v (.int .u8 n)
abbrev sA (s : Str) : AV := .v (.string s)
abbrev bA (b : Bool) : AV := .v (.bool b)
def row1 {α : Type} (f : α → AV) (l : List α) : AV := .lst (l.map fun x => [f x])
structure Ty where
 kind : Int
 cls : Str
 deriving DecidableEq
structure Instr where
 op : Int
 a : Int
 b : Int
 c : Int
 k : Int
 cls : Str
 name : Str
 desc : Str
 args : List Int
 deriving DecidableEq
structure Fld where
 name : Str
 type : Ty
 static : Bool
 deriving DecidableEq
structure Meth where
 name : Str
 desc : Str
 static : Bool
 abs : Bool
 regs : Int
 code : List Instr
 deriving DecidableEq
structure Cls where
 name : Str
 super : Str
 iface : Bool
 abs : Bool
 ifaces : List Str
 fields : List Fld
 methods : List Meth
 deriving DecidableEq
structure MRef where
 cls : Str
 name : Str
 desc : Str
 deriving DecidableEq
structure Prog where
 classes : List Cls
 names : List Str
 entry : MRef
 deriving DecidableEq
structure Fact where
 kind : Int
 cls : Str
 deriving DecidableEq
def Ty.cells (t : Ty) : List AV := [iA t.kind, sA t.cls]
def Instr.cells (i : Instr) : List AV := [iA i.op, iA i.a, iA i.b, iA i.c, iA i.k, sA i.cls, sA i.name, sA i.desc, row1 iA i.args]
def Fld.cells (f : Fld) : List AV := [sA f.name, iA f.type.kind, sA f.type.cls, bA f.static]
def Meth.cells (m : Meth) : List AV := [sA m.name, sA m.desc, bA m.static, bA m.abs, iA m.regs, .lst (m.code.map Instr.cells)]
def Cls.cells (c : Cls) : List AV := [sA c.name, sA c.super, bA c.iface, bA c.abs, row1 sA c.ifaces, .lst (c.fields.map Fld.cells), .lst (c.methods.map Meth.cells)]
def MRef.cells (m : MRef) : List AV := [sA m.cls, sA m.name, sA m.desc]
def Prog.cells (p : Prog) : List AV := [.lst (p.classes.map Cls.cells), row1 sA p.names, sA p.entry.cls, sA p.entry.name, sA p.entry.desc]
def Fact.cells (f : Fact) : List AV := [iA f.kind, sA f.cls]
def i64 (n : Int) : Prop := -9223372036854775808 ≤ n ∧ n ≤ 9223372036854775807
def small (n : Nat) : Prop := n ≤ 140737488351232
structure Ty.ok (t : Ty) : Prop where
 kind : i64 t.kind
 cls : small t.cls.size
structure Instr.ok (i : Instr) : Prop where
 op : i64 i.op
 a : i64 i.a
 b : i64 i.b
 c : i64 i.c
 k : i64 i.k
 cls : small i.cls.size
 name : small i.name.size
 desc : small i.desc.size
 args : small i.args.length ∧ ∀ x, x ∈ i.args → i64 x
structure Fld.ok (f : Fld) : Prop where
 name : small f.name.size
 type : f.type.ok
structure Meth.ok (m : Meth) : Prop where
 name : small m.name.size
 desc : small m.desc.size
 regs : i64 m.regs
 code : small m.code.length ∧ ∀ x, x ∈ m.code → x.ok
structure Cls.ok (c : Cls) : Prop where
 name : small c.name.size
 super : small c.super.size
 ifaces : small c.ifaces.length ∧ ∀ x, x ∈ c.ifaces → small x.size
 fields : small c.fields.length ∧ ∀ x, x ∈ c.fields → x.ok
 methods : small c.methods.length ∧ ∀ x, x ∈ c.methods → x.ok
structure MRef.ok (m : MRef) : Prop where
 cls : small m.cls.size
 name : small m.name.size
 desc : small m.desc.size
structure Prog.ok (p : Prog) : Prop where
 classes : small p.classes.length ∧ ∀ x, x ∈ p.classes → x.ok
 names : small p.names.length ∧ ∀ x, x ∈ p.names → small x.size
 entry : p.entry.ok
structure Fact.ok (f : Fact) : Prop where
 kind : i64 f.kind
 cls : small f.cls.size
def Dec (P : Program) (t : TypeId) {α : Type} (cells : α → List AV) (ok : α → Prop) : Prop := ∀ xs, TV P t xs → ∃ x : α, xs = cells x ∧ ok x
def fts (P : Program) (t : TypeId) : Option (List TypeId) := match P.underlying t with
 | some (.struct fs) => some (fs.toList.map (·.type))
 | _ => none
theorem Ze1 {P : Program} {t : TypeId} (h : (fts P t).isSome = true) : ∃ fs, P.underlying t = some (.struct fs) := by
 unfold fts at h
 split at h
 ·exact ⟨_, by assumption⟩
 ·cases h
inductive TVF (P : Program) : List TypeId → List AV → Prop
 | nil : TVF P [] []
 | cons {t : TypeId} {ts : List TypeId} {x y : List AV} (h : TV P t x) (r : TVF P ts y) : TVF P (t :: ts) (x ++ y)
section
variable {P : Program} {t : TypeId}
theorem Zha (hu : P.underlying t = some (.int .i64)) : Dec P t (fun n => [iA n]) i64 := by
 intro xs h
 cases h with
 | int n h hn => rw [hu] at h; cases h; exact ⟨n, rfl, _root_.Go.bounds_i64 hn⟩
 | _ => simp_all
theorem dec_str (hu : P.underlying t = some .string) : Dec P t (fun s => [sA s]) (fun s => small s.size) := by
 intro xs h
 cases h with
 | string s h hs => exact ⟨s, rfl, hs⟩
 | _ => simp_all
theorem Zgh {α : Type} {cells : α → List AV} {ok : α → Prop} : ∀ (es : List (List AV)), (∀ x : List AV, x ∈ es → ∃ y : α, x = cells y ∧ ok y) → ∃ l : List α, es = l.map cells ∧ ∀ x, x ∈ l → ok x
 | [], _ => ⟨[], rfl, nofun⟩
 | e :: es, h => by
  obtain ⟨y, rfl, hy⟩ := h e List.mem_cons_self
  obtain ⟨l, rfl, hl⟩ := Zgh es (fun x hx => h x (List.mem_cons_of_mem _ hx))
  refine ⟨y :: l, rfl, fun x hx => ?_⟩
  rcases List.mem_cons.1 hx with rfl | hx
  ·exact hy
  ·exact hl x hx
theorem dec_list {e : TypeId} {α : Type} {cells : α → List AV} {ok : α → Prop} (hu : P.underlying t = some (.slice e)) (hb : Nat.blt 0 (P.bytesOf e) = true) (he : Dec P e cells ok) :
  Dec P t (fun l : List α => [.lst (l.map cells)]) (fun l => small l.length ∧ ∀ x, x ∈ l → ok x) := by
 intro xs h
 cases h with
 | slice es h hl hm hes =>
  rw [hu] at h; cases h
  obtain ⟨l, rfl, hok⟩ := Zgh es (fun x hx => he x (hes x hx))
  refine ⟨l, rfl, ?_, hok⟩
  have hb : 0 < P.bytesOf e := Nat.blt_eq ▸ hb
  rw [List.length_map] at hl
  have h1 : l.length * 1 ≤ l.length * P.bytesOf e := Nat.mul_le_mul_left _ hb
  have h2 : reachBytes = 140737488351232 := rfl
  unfold small
  omega
 | _ => simp_all
theorem Ze7 {ts : List TypeId} {xs : List AV} (h : fts P t = some ts) (hv : TV P t xs) : TVF P ts xs := by
 unfold fts at h
 split at h
 ·rename_i fs hu
  simp only [Option.some.injEq] at h
  subst h
  cases hv with
  | struct parts h hl hp =>
   rw [hu] at h; cases h
   have claim : ∀ (fl : List Field) (parts : List (List AV)), parts.length = fl.length → (∀ (i : Nat) (f : Field) (x : List AV), fl[i]? = some f → parts[i]? = some x → TV P f.type x) → TVF P (fl.map (·.type)) parts.flatten := by
    intro fl
    induction fl with
    | nil => intro parts hl _; cases parts with | nil => exact .nil | cons => simp at hl
    | cons f fl ih =>
     intro parts hl hp
     cases parts with
     | nil => simp at hl
     | cons x parts =>
      exact .cons (hp 0 f x rfl rfl) (ih parts (by simpa using hl) (fun i f x h1 h2 => hp (i + 1) f x (by simpa using h1) (by simpa using h2)))
   exact claim _ _ (by simpa using hl) (fun i f x h1 h2 => hp i f x (by simpa using h1) h2)
  | _ => simp_all
 ·cases h
theorem Ze6 {α : Type} {cells : α → List AV} {ok : α → Prop} {ts : List TypeId} {xs : List AV} (hd : Dec P t cells ok) (h : TVF P (t :: ts) xs) : ∃ (x : α) (ys : List AV), xs = cells x ++ ys ∧ ok x ∧ TVF P ts ys := by
 cases h with
 | cons h r =>
  obtain ⟨x, rfl, hx⟩ := hd _ h
  exact ⟨x, _, rfl, hx, r⟩
theorem Zj8 {xs : List AV} (h : TVF P [] xs) : xs = [] := by cases h; rfl
section
variable {i s b li ls tt ti tf tm tc tr lI lF lM lC : TypeId}
theorem Zio (h : fts P t = some [i, s]) (hi : P.underlying i = some (.int .i64)) (hs : P.underlying s = some .string) : Dec P t Ty.cells Ty.ok := by
 intro xs hx
 obtain ⟨k, ys, rfl, hk, h1⟩ := Ze6 (Zha hi) (Ze7 h hx)
 obtain ⟨c, ys, rfl, hc, h2⟩ := Ze6 (dec_str hs) h1
 rw [Zj8 h2]
 exact ⟨⟨k, c⟩, rfl, ⟨hk, hc⟩⟩
end
end
theorem txs_one {P : Program} {α : Type} {f : α → AV} {ok : α → Prop} {t : TypeId} {ts : List TypeId} {xs : List AV} (hd : Dec P t (fun a => [f a]) ok) (hn : isAggT P t = false) (h : TXs P (t :: ts) xs) :
  ∃ (a : α) (ys : List AV), xs = f a :: ys ∧ ok a ∧ TXs P ts ys := by
 cases h with
 | agg hn' _ _ => rw [hn] at hn'; cases hn'
 | one _ h r => obtain ⟨a, e, ha⟩ := hd _ h; cases e; exact ⟨a, _, rfl, ha, r⟩
end Go.Sx
namespace Go.Sx
open Go
instance : TK Proofs.Try.prog 0 false 1 := ⟨by kernel_rfl⟩
instance : TK Proofs.Try.prog 1 false 1 := ⟨by kernel_rfl⟩
instance : ZC Proofs.Try.prog 1 [.nilFunc] := ⟨by kernel_rfl⟩
instance : TK Proofs.Try.prog 2 false 1 := ⟨by kernel_rfl⟩
instance : UD Proofs.Try.prog 2 (.int .i64) := ⟨by kernel_rfl⟩
instance : ZC Proofs.Try.prog 2 [.int .i64 0] := ⟨by kernel_rfl⟩
instance : TK Proofs.Try.prog 3 false 1 := ⟨by kernel_rfl⟩
instance : UD Proofs.Try.prog 3 (.int .i64) := ⟨by kernel_rfl⟩
instance : ZC Proofs.Try.prog 3 [.int .i64 0] := ⟨by kernel_rfl⟩
instance : TK Proofs.Try.prog 4 false 1 := ⟨by kernel_rfl⟩
instance : UD Proofs.Try.prog 4 (.bool) := ⟨by kernel_rfl⟩
instance : ZC Proofs.Try.prog 4 [.bool false] := ⟨by kernel_rfl⟩
instance : TK Proofs.Try.prog 5 false 1 := ⟨by kernel_rfl⟩
instance : UD Proofs.Try.prog 5 (.int .u8) := ⟨by kernel_rfl⟩
instance : ZC Proofs.Try.prog 5 [.int .u8 0] := ⟨by kernel_rfl⟩
instance : TK Proofs.Try.prog 9 false 1 := ⟨by kernel_rfl⟩
instance : UD Proofs.Try.prog 9 (.string) := ⟨by kernel_rfl⟩
instance : ZC Proofs.Try.prog 9 [.string ⟨#[]⟩] := ⟨by kernel_rfl⟩
instance : TK Proofs.Try.prog 20 false 1 := ⟨by kernel_rfl⟩
instance : ZC Proofs.Try.prog 20 [.nilIface] := ⟨by kernel_rfl⟩
instance : TK Proofs.Try.prog 22 false 1 := ⟨by kernel_rfl⟩
instance : UD Proofs.Try.prog 22 (.slice 27) := ⟨by kernel_rfl⟩
instance : ZC Proofs.Try.prog 22 [.slice none 0 0] := ⟨by kernel_rfl⟩
instance : TK Proofs.Try.prog 23 false 1 := ⟨by kernel_rfl⟩
instance : UD Proofs.Try.prog 23 (.slice 9) := ⟨by kernel_rfl⟩
instance : ZC Proofs.Try.prog 23 [.slice none 0 0] := ⟨by kernel_rfl⟩
instance : TK Proofs.Try.prog 25 false 1 := ⟨by kernel_rfl⟩
instance : UD Proofs.Try.prog 25 (.int .i64) := ⟨by kernel_rfl⟩
instance : ZC Proofs.Try.prog 25 [.int .i64 0] := ⟨by kernel_rfl⟩
instance : TK Proofs.Try.prog 26 true 2 := ⟨by kernel_rfl⟩
instance : FO Proofs.Try.prog 26 0 0 25 := ⟨by kernel_rfl⟩
instance : FO Proofs.Try.prog 26 1 1 9 := ⟨by kernel_rfl⟩
instance : ZC Proofs.Try.prog 26 [.int .i64 0, .string ⟨#[]⟩] := ⟨by kernel_rfl⟩
instance : TK Proofs.Try.prog 27 true 2 := ⟨by kernel_rfl⟩
instance : FO Proofs.Try.prog 27 0 0 25 := ⟨by kernel_rfl⟩
instance : FO Proofs.Try.prog 27 1 1 9 := ⟨by kernel_rfl⟩
instance : ZC Proofs.Try.prog 27 [.int .i64 0, .string ⟨#[]⟩] := ⟨by kernel_rfl⟩
instance : TK Proofs.Try.prog 30 false 1 := ⟨by kernel_rfl⟩
instance : UD Proofs.Try.prog 30 (.int .i64) := ⟨by kernel_rfl⟩
instance : ZC Proofs.Try.prog 30 [.int .i64 0] := ⟨by kernel_rfl⟩
instance : TK Proofs.Try.prog 31 false 1 := ⟨by kernel_rfl⟩
instance : TK Proofs.Try.prog 33 false 1 := ⟨by kernel_rfl⟩
instance : UD Proofs.Try.prog 33 (.slice 5) := ⟨by kernel_rfl⟩
instance : ZC Proofs.Try.prog 33 [.slice none 0 0] := ⟨by kernel_rfl⟩
instance : TK Proofs.Try.prog 34 false 1 := ⟨by kernel_rfl⟩
instance : TK Proofs.Try.prog 37 false 1 := ⟨by kernel_rfl⟩
instance : UD Proofs.Try.prog 37 (.pointer 68) := ⟨by kernel_rfl⟩
instance : ZC Proofs.Try.prog 37 [.pointer none] := ⟨by kernel_rfl⟩
instance : TK Proofs.Try.prog 40 false 1 := ⟨by kernel_rfl⟩
instance : TK Proofs.Try.prog 49 true 2 := ⟨by kernel_rfl⟩
instance : FO Proofs.Try.prog 49 0 0 30 := ⟨by kernel_rfl⟩
instance : FO Proofs.Try.prog 49 1 1 3 := ⟨by kernel_rfl⟩
instance : ZC Proofs.Try.prog 49 [.int .i64 0, .int .i64 0] := ⟨by kernel_rfl⟩
instance : TK Proofs.Try.prog 50 true 2 := ⟨by kernel_rfl⟩
instance : FO Proofs.Try.prog 50 0 0 30 := ⟨by kernel_rfl⟩
instance : FO Proofs.Try.prog 50 1 1 3 := ⟨by kernel_rfl⟩
instance : ZC Proofs.Try.prog 50 [.int .i64 0, .int .i64 0] := ⟨by kernel_rfl⟩
instance : TK Proofs.Try.prog 55 false 1 := ⟨by kernel_rfl⟩
instance : ZC Proofs.Try.prog 55 [.nilFunc] := ⟨by kernel_rfl⟩
instance : TK Proofs.Try.prog 57 false 1 := ⟨by kernel_rfl⟩
instance : UD Proofs.Try.prog 57 (.map 9 4) := ⟨by kernel_rfl⟩
instance : ZC Proofs.Try.prog 57 [.map none] := ⟨by kernel_rfl⟩
instance : TK Proofs.Try.prog 60 false 1 := ⟨by kernel_rfl⟩
instance : UD Proofs.Try.prog 60 (.int .u64) := ⟨by kernel_rfl⟩
instance : ZC Proofs.Try.prog 60 [.int .u64 0] := ⟨by kernel_rfl⟩
instance : TK Proofs.Try.prog 67 true 5 := ⟨by kernel_rfl⟩
instance : FO Proofs.Try.prog 67 0 0 33 := ⟨by kernel_rfl⟩
instance : FO Proofs.Try.prog 67 1 1 3 := ⟨by kernel_rfl⟩
instance : FO Proofs.Try.prog 67 2 2 3 := ⟨by kernel_rfl⟩
instance : FO Proofs.Try.prog 67 3 3 50 := ⟨by kernel_rfl⟩
instance : ZC Proofs.Try.prog 67 [.slice none 0 0, .int .i64 0, .int .i64 0, .int .i64 0, .int .i64 0] := ⟨by kernel_rfl⟩
instance : TK Proofs.Try.prog 68 true 5 := ⟨by kernel_rfl⟩
instance : FO Proofs.Try.prog 68 0 0 33 := ⟨by kernel_rfl⟩
instance : FO Proofs.Try.prog 68 1 1 3 := ⟨by kernel_rfl⟩
instance : FO Proofs.Try.prog 68 2 2 3 := ⟨by kernel_rfl⟩
instance : FO Proofs.Try.prog 68 3 3 50 := ⟨by kernel_rfl⟩
instance : ZC Proofs.Try.prog 68 [.slice none 0 0, .int .i64 0, .int .i64 0, .int .i64 0, .int .i64 0] := ⟨by kernel_rfl⟩
instance : TK Proofs.Try.prog 70 false 1 := ⟨by kernel_rfl⟩
instance : UD Proofs.Try.prog 70 (.pointer 72) := ⟨by kernel_rfl⟩
instance : ZC Proofs.Try.prog 70 [.pointer none] := ⟨by kernel_rfl⟩
instance : TK Proofs.Try.prog 71 true 2 := ⟨by kernel_rfl⟩
instance : FO Proofs.Try.prog 71 0 0 9 := ⟨by kernel_rfl⟩
instance : FO Proofs.Try.prog 71 1 1 3 := ⟨by kernel_rfl⟩
instance : ZC Proofs.Try.prog 71 [.string ⟨#[]⟩, .int .i64 0] := ⟨by kernel_rfl⟩
instance : TK Proofs.Try.prog 72 true 2 := ⟨by kernel_rfl⟩
instance : FO Proofs.Try.prog 72 0 0 9 := ⟨by kernel_rfl⟩
instance : FO Proofs.Try.prog 72 1 1 3 := ⟨by kernel_rfl⟩
instance : ZC Proofs.Try.prog 72 [.string ⟨#[]⟩, .int .i64 0] := ⟨by kernel_rfl⟩
instance : TK Proofs.Try.prog 78 false 1 := ⟨by kernel_rfl⟩
instance : ZC Proofs.Try.prog 78 [.nilFunc] := ⟨by kernel_rfl⟩
instance : TK Proofs.Try.prog 82 false 1 := ⟨by kernel_rfl⟩
instance : UD Proofs.Try.prog 82 (.int .u64) := ⟨by kernel_rfl⟩
instance : ZC Proofs.Try.prog 82 [.int .u64 0] := ⟨by kernel_rfl⟩
instance : TK Proofs.Try.prog 83 true 10 := ⟨by kernel_rfl⟩
instance : UD Proofs.Try.prog 83 (.array 10 5) := ⟨by kernel_rfl⟩
instance : ZC Proofs.Try.prog 83 [.int .u8 0, .int .u8 0, .int .u8 0, .int .u8 0, .int .u8 0, .int .u8 0, .int .u8 0, .int .u8 0, .int .u8 0, .int .u8 0] := ⟨by kernel_rfl⟩
instance : TK Proofs.Try.prog 86 true 1 := ⟨by kernel_rfl⟩
instance : FO Proofs.Try.prog 86 0 0 30 := ⟨by kernel_rfl⟩
instance : ZC Proofs.Try.prog 86 [.int .i64 0] := ⟨by kernel_rfl⟩
instance : TK Proofs.Try.prog 87 true 1 := ⟨by kernel_rfl⟩
instance : FO Proofs.Try.prog 87 0 0 30 := ⟨by kernel_rfl⟩
instance : ZC Proofs.Try.prog 87 [.int .i64 0] := ⟨by kernel_rfl⟩
instance : TK Proofs.Try.prog 93 true 2 := ⟨by kernel_rfl⟩
instance : FO Proofs.Try.prog 93 0 0 50 := ⟨by kernel_rfl⟩
instance : ZC Proofs.Try.prog 93 [.int .i64 0, .int .i64 0] := ⟨by kernel_rfl⟩
instance : TK Proofs.Try.prog 94 true 2 := ⟨by kernel_rfl⟩
instance : FO Proofs.Try.prog 94 0 0 50 := ⟨by kernel_rfl⟩
instance : ZC Proofs.Try.prog 94 [.int .i64 0, .int .i64 0] := ⟨by kernel_rfl⟩
instance : TK Proofs.Try.prog 98 false 1 := ⟨by kernel_rfl⟩
instance : UD Proofs.Try.prog 98 (.int .i64) := ⟨by kernel_rfl⟩
instance : ZC Proofs.Try.prog 98 [.int .i64 0] := ⟨by kernel_rfl⟩
instance : TK Proofs.Try.prog 99 false 1 := ⟨by kernel_rfl⟩
instance : TK Proofs.Try.prog 104 false 1 := ⟨by kernel_rfl⟩
instance : TK Proofs.Try.prog 107 false 1 := ⟨by kernel_rfl⟩
instance : UD Proofs.Try.prog 107 (.int .u32) := ⟨by kernel_rfl⟩
instance : ZC Proofs.Try.prog 107 [.int .u32 0] := ⟨by kernel_rfl⟩
instance : TK Proofs.Try.prog 110 false 1 := ⟨by kernel_rfl⟩
instance : TK Proofs.Try.prog 112 false 1 := ⟨by kernel_rfl⟩
instance : TK Proofs.Try.prog 114 false 1 := ⟨by kernel_rfl⟩
instance : UD Proofs.Try.prog 114 (.int .u64) := ⟨by kernel_rfl⟩
instance : ZC Proofs.Try.prog 114 [.int .u64 0] := ⟨by kernel_rfl⟩
instance : TK Proofs.Try.prog 117 false 1 := ⟨by kernel_rfl⟩
instance : UD Proofs.Try.prog 117 (.pointer 3) := ⟨by kernel_rfl⟩
instance : ZC Proofs.Try.prog 117 [.pointer none] := ⟨by kernel_rfl⟩
instance : TK Proofs.Try.prog 119 false 1 := ⟨by kernel_rfl⟩
instance : UD Proofs.Try.prog 119 (.pointer 114) := ⟨by kernel_rfl⟩
instance : ZC Proofs.Try.prog 119 [.pointer none] := ⟨by kernel_rfl⟩
instance : TK Proofs.Try.prog 120 false 1 := ⟨by kernel_rfl⟩
instance : AP Proofs.Try.prog 1 1 8 := ⟨by kernel_rfl⟩
instance : ZV Proofs.Try.prog 1 (.nilFunc) := ⟨by kernel_rfl⟩
instance : AP Proofs.Try.prog 2 1 8 := ⟨by kernel_rfl⟩
instance : ZV Proofs.Try.prog 2 (.int .i64 0) := ⟨by kernel_rfl⟩
instance : AP Proofs.Try.prog 3 1 8 := ⟨by kernel_rfl⟩
instance : ZV Proofs.Try.prog 3 (.int .i64 0) := ⟨by kernel_rfl⟩
instance : AP Proofs.Try.prog 4 1 1 := ⟨by kernel_rfl⟩
instance : ZV Proofs.Try.prog 4 (.bool false) := ⟨by kernel_rfl⟩
instance : AP Proofs.Try.prog 5 1 1 := ⟨by kernel_rfl⟩
instance : ZV Proofs.Try.prog 5 (.int .u8 0) := ⟨by kernel_rfl⟩
instance : AP Proofs.Try.prog 9 1 16 := ⟨by kernel_rfl⟩
instance : ZV Proofs.Try.prog 9 (.string ⟨#[]⟩) := ⟨by kernel_rfl⟩
instance : AP Proofs.Try.prog 20 1 16 := ⟨by kernel_rfl⟩
instance : ZV Proofs.Try.prog 20 (.nilIface) := ⟨by kernel_rfl⟩
instance : AP Proofs.Try.prog 22 1 24 := ⟨by kernel_rfl⟩
instance : ZV Proofs.Try.prog 22 (.slice none 0 0) := ⟨by kernel_rfl⟩
instance : AP Proofs.Try.prog 23 1 24 := ⟨by kernel_rfl⟩
instance : ZV Proofs.Try.prog 23 (.slice none 0 0) := ⟨by kernel_rfl⟩
instance : AP Proofs.Try.prog 25 1 8 := ⟨by kernel_rfl⟩
instance : ZV Proofs.Try.prog 25 (.int .i64 0) := ⟨by kernel_rfl⟩
instance : AP Proofs.Try.prog 26 2 24 := ⟨by kernel_rfl⟩
instance : PL Proofs.Try.prog 26 [(0, 1), (1, 1)] := ⟨by kernel_rfl⟩
instance : AP Proofs.Try.prog 27 2 24 := ⟨by kernel_rfl⟩
instance : PL Proofs.Try.prog 27 [(0, 1), (1, 1)] := ⟨by kernel_rfl⟩
instance : EQ Proofs.Try.prog 27 [.int .i64, .str] := ⟨by kernel_rfl, by kernel_rfl, Ze1 (by kernel_rfl)⟩
instance : AP Proofs.Try.prog 30 1 8 := ⟨by kernel_rfl⟩
instance : ZV Proofs.Try.prog 30 (.int .i64 0) := ⟨by kernel_rfl⟩
instance : AP Proofs.Try.prog 33 1 24 := ⟨by kernel_rfl⟩
instance : ZV Proofs.Try.prog 33 (.slice none 0 0) := ⟨by kernel_rfl⟩
instance : AP Proofs.Try.prog 37 1 8 := ⟨by kernel_rfl⟩
instance : ZV Proofs.Try.prog 37 (.pointer none) := ⟨by kernel_rfl⟩
instance : AP Proofs.Try.prog 49 2 16 := ⟨by kernel_rfl⟩
instance : PL Proofs.Try.prog 49 [(0, 1), (1, 1)] := ⟨by kernel_rfl⟩
instance : AP Proofs.Try.prog 50 2 16 := ⟨by kernel_rfl⟩
instance : PL Proofs.Try.prog 50 [(0, 1), (1, 1)] := ⟨by kernel_rfl⟩
instance : EQ Proofs.Try.prog 50 [.int .i64, .int .i64] := ⟨by kernel_rfl, by kernel_rfl, Ze1 (by kernel_rfl)⟩
instance : AP Proofs.Try.prog 55 1 8 := ⟨by kernel_rfl⟩
instance : ZV Proofs.Try.prog 55 (.nilFunc) := ⟨by kernel_rfl⟩
instance : AP Proofs.Try.prog 57 1 8 := ⟨by kernel_rfl⟩
instance : ZV Proofs.Try.prog 57 (.map none) := ⟨by kernel_rfl⟩
instance : AP Proofs.Try.prog 60 1 8 := ⟨by kernel_rfl⟩
instance : ZV Proofs.Try.prog 60 (.int .u64 0) := ⟨by kernel_rfl⟩
instance : AP Proofs.Try.prog 67 5 56 := ⟨by kernel_rfl⟩
instance : PL Proofs.Try.prog 67 [(0, 1), (1, 1), (2, 1), (3, 2)] := ⟨by kernel_rfl⟩
instance : AP Proofs.Try.prog 68 5 56 := ⟨by kernel_rfl⟩
instance : PL Proofs.Try.prog 68 [(0, 1), (1, 1), (2, 1), (3, 2)] := ⟨by kernel_rfl⟩
instance : AP Proofs.Try.prog 70 1 8 := ⟨by kernel_rfl⟩
instance : ZV Proofs.Try.prog 70 (.pointer none) := ⟨by kernel_rfl⟩
instance : AP Proofs.Try.prog 71 2 24 := ⟨by kernel_rfl⟩
instance : PL Proofs.Try.prog 71 [(0, 1), (1, 1)] := ⟨by kernel_rfl⟩
instance : AP Proofs.Try.prog 72 2 24 := ⟨by kernel_rfl⟩
instance : PL Proofs.Try.prog 72 [(0, 1), (1, 1)] := ⟨by kernel_rfl⟩
instance : EQ Proofs.Try.prog 72 [.str, .int .i64] := ⟨by kernel_rfl, by kernel_rfl, Ze1 (by kernel_rfl)⟩
instance : AP Proofs.Try.prog 78 1 8 := ⟨by kernel_rfl⟩
instance : ZV Proofs.Try.prog 78 (.nilFunc) := ⟨by kernel_rfl⟩
instance : AP Proofs.Try.prog 82 1 8 := ⟨by kernel_rfl⟩
instance : ZV Proofs.Try.prog 82 (.int .u64 0) := ⟨by kernel_rfl⟩
instance : AP Proofs.Try.prog 83 10 10 := ⟨by kernel_rfl⟩
instance : AP Proofs.Try.prog 86 1 8 := ⟨by kernel_rfl⟩
instance : PL Proofs.Try.prog 86 [(0, 1)] := ⟨by kernel_rfl⟩
instance : AP Proofs.Try.prog 87 1 8 := ⟨by kernel_rfl⟩
instance : PL Proofs.Try.prog 87 [(0, 1)] := ⟨by kernel_rfl⟩
instance : EQ Proofs.Try.prog 87 [.int .i64] := ⟨by kernel_rfl, by kernel_rfl, Ze1 (by kernel_rfl)⟩
instance : AP Proofs.Try.prog 93 2 16 := ⟨by kernel_rfl⟩
instance : PL Proofs.Try.prog 93 [(0, 2)] := ⟨by kernel_rfl⟩
instance : AP Proofs.Try.prog 94 2 16 := ⟨by kernel_rfl⟩
instance : PL Proofs.Try.prog 94 [(0, 2)] := ⟨by kernel_rfl⟩
instance : EQ Proofs.Try.prog 94 [.int .i64, .int .i64] := ⟨by kernel_rfl, by kernel_rfl, Ze1 (by kernel_rfl)⟩
instance : AP Proofs.Try.prog 98 1 8 := ⟨by kernel_rfl⟩
instance : ZV Proofs.Try.prog 98 (.int .i64 0) := ⟨by kernel_rfl⟩
instance : AP Proofs.Try.prog 107 1 4 := ⟨by kernel_rfl⟩
instance : ZV Proofs.Try.prog 107 (.int .u32 0) := ⟨by kernel_rfl⟩
instance : AP Proofs.Try.prog 114 1 8 := ⟨by kernel_rfl⟩
instance : ZV Proofs.Try.prog 114 (.int .u64 0) := ⟨by kernel_rfl⟩
instance : AP Proofs.Try.prog 117 1 8 := ⟨by kernel_rfl⟩
instance : ZV Proofs.Try.prog 117 (.pointer none) := ⟨by kernel_rfl⟩
instance : AP Proofs.Try.prog 119 1 8 := ⟨by kernel_rfl⟩
instance : ZV Proofs.Try.prog 119 (.pointer none) := ⟨by kernel_rfl⟩
theorem dec27 : Dec Go.Proofs.Try.prog 27 Ty.cells Ty.ok := Zio (i := 25) (s := 9) (by kernel_rfl) (by kernel_rfl) (by kernel_rfl)
end Go.Sx
namespace Go.Sx
open Go
theorem Z1o {P : Program} {b : Frame} {a : Act} {k : List Item} {cs : List Frame} {w : World} {c : Code} : step P (lone (b.atR a (.code (.scope c) :: k)) cs w) = .next (lone (b.atR a (.code c :: .inScope c :: k)) cs w) :=
 step_lone_go (by simp [stepG, stepG.exec, Frame.atR])
theorem Z7u {P : Program} {b : Frame} {a : Act} {k : List Item} {cs : List Frame} {w : World} {c : Code} : step P (lone (b.atR a (.inScope c :: k)) cs w) = .next (lone (b.atR a k) cs w) :=
 step_lone_go (by simp [stepG, stepG.exec, Frame.atR])
theorem Z77 {F : Fence} {n : Nat} {P : Program} {c : Code} {Q : Exit → Act → World → Prop} {a : Act} {w : World} (h : c.wpIn F n P (Exit.noGoto Q) a w) : (Code.scope c).wpIn F n P Q a w := by
 intro b k cs hro hb hr
 have h0 : (lone (b.atR a (.code (.scope c) :: k)) cs w).fenced P F := fenced_calm hb hr rfl
 obtain ⟨e, a₁, w₁, hq, harr⟩ := h b (.inScope c :: k) cs hro hb hr
 cases e with
 | normal => exact ⟨.normal, a₁, w₁, hq, .head h0 Z1o (StepsIn.trans harr (.one (fenced_calm hb hr rfl) Z7u))⟩
 | exit id =>
  have hx : exitTo id (.inScope c :: k) = exitTo id k := by simp [exitTo]
  exact ⟨.exit id, a₁, w₁, hq, fun k' hk => .head h0 Z1o (harr.1 k' (by rw [hx]; exact hk)),
   fun hr' hk => let ⟨k₁, h1, h2⟩ := harr.2 hr' (by rw [hx]; exact hk); ⟨k₁, h1, .head h0 Z1o h2⟩⟩
 | goto l => exact hq.elim
 | ret => exact ⟨_, a₁, w₁, hq, .of_steps (.one h0 Z1o) harr⟩
 | panic ch => exact ⟨_, a₁, w₁, hq, .of_steps (.one h0 Z1o) harr⟩
 | outgrown => exact ⟨_, a₁, w₁, hq, .of_steps (.one h0 Z1o) harr⟩
def scopeQ (Q : Exit → St → Prop) : Exit → St → Prop
 | .goto _, _ => False
 | .normal, s => Q .normal s
 | .exit i, s => Q (.exit i) s
 | .ret, s => Q .ret s
 | .panic c, s => Q (.panic c) s
 | .outgrown, s => Q .outgrown s
theorem Zce {P : Program} {ro : Option Nat} {Q : Exit → St → Prop} {s : St} {c : Code} (h : AWp P ro c (scopeQ Q) s) : AWp P ro (.scope c) Q s :=
 fun Z C0 H0 w0 C a w he hs => Z77 (wpIn_mono (h Z C0 H0 w0 C a w he hs) (by
  rintro e a' w' ⟨h1, C', s', hq, hs', he'⟩
  cases e with
  | goto l => exact hq.elim
  | outgrown => exact absurd rfl h1
  | _ => exact ⟨h1, C', s', hq, hs', he'⟩))
end Go.Sx
namespace Go.Sx
open Go
variable {P : Program} {ro : Option Nat} {Q : Exit → St → Prop} {s : St} {ops : Array Oper} {o : Oper} {rest : List Oper} {T : List (Nat × AV)}
def Sub (x y : AV) : Prop := ∀ C v, VR C x v → VR C y v
theorem Sub.refl (x : AV) : Sub x x := fun _ _ h => h
theorem Sub.z : Sub (.v (.slice none 0 0)) (.lst []) := fun C v h => by cases h; exact .lstNil
inductive Subs : List AV → List AV → Prop
 | nil : Subs [] []
 | keep {x : AV} {xs ys : List AV} (h : Subs xs ys) : Subs (x :: xs) (x :: ys)
 | z {xs ys : List AV} (h : Subs xs ys) : Subs (.v (.slice none 0 0) :: xs) (.lst [] :: ys)
 | to {x y : AV} {xs ys : List AV} (h0 : Sub x y) (h : Subs xs ys) : Subs (x :: xs) (y :: ys)
theorem Subs.len : ∀ {xs ys : List AV}, Subs xs ys → xs.length = ys.length
 | _, _, .nil => rfl
 | _, _, .keep h => by simp [h.len]
 | _, _, .z h => by simp [h.len]
 | _, _, .to _ h => by simp [h.len]
theorem Subs.get {C : Ctx} : ∀ {xs ys : List AV}, Subs xs ys → ∀ (i : Nat) (y : AV), ys[i]? = some y → ∃ x, xs[i]? = some x ∧ Sub x y
 | _, _, .nil, i, y, h => by simp at h
 | _, _, .keep h, 0, y, hy => by simp at hy; subst hy; exact ⟨_, rfl, .refl _⟩
 | _, _, .z h, 0, y, hy => by simp at hy; subst hy; exact ⟨_, rfl, .z⟩
 | _, _, .to h0 h, 0, y, hy => by simp at hy; subst hy; exact ⟨_, rfl, h0⟩
 | _, _, .keep h, i + 1, y, hy => by simpa using h.get (C := C) i y (by simpa using hy)
 | _, _, .z h, i + 1, y, hy => by simpa using h.get (C := C) i y (by simpa using hy)
 | _, _, .to _ h, i + 1, y, hy => by simpa using h.get (C := C) i y (by simpa using hy)
theorem Sub.agg {xs ys : List AV} (h : Subs xs ys) : Sub (.agg xs) (.agg ys) := fun C v hv => by
 cases hv with
 | agg _ vs hl hh =>
  refine .agg ys vs (h.len.symm.trans hl) fun i y x h1 h2 => ?_
  obtain ⟨z, h3, h4⟩ := h.get (C := C) i y h1
  exact h4 C x (hh i z x h3 h2)
theorem Zcx {x y : AV} {Hn On : AHeap} (h : Eff P o T Hn x On) (hs : Sub x y) : Eff P o T Hn y On :=
 fun Z C H a w h1 h2 h3 h4 h5 h6 ro next R hk => h Z C H a w h1 h2 h3 h4 h5 h6 ro next R fun v w1 C1 hv => hk v w1 C1 (hs _ _ hv)
theorem Zz {x y : AV} {Hn On : AHeap} (h : Eff P o T Hn x On) (hs : x = y) : Eff P o T Hn y On := hs ▸ h
def bitOf (ms : List Nat) (i j : Nat) : Bool := Nat.testBit (ms.getD i 0) j
def okCert (ops : Array Oper) (ms : List Nat) : Bool := (List.range ops.size).all fun i => match ops[i]? with
 | some o => (List.range i).all fun j => !bitOf ms i j || o.after.any fun e => Region.binds .any e && (e.on == j || (Nat.blt j e.on && bitOf ms e.on j))
 | none => true
def okLooksM (ops : Array Oper) (ms : List Nat) (np : Nat) : Bool := (List.range np).all fun i => match ops[i]? with
 | some o => (o.looksAt ops).all fun t => (List.range np).all fun j => !((ops[j]?).bind (·.dst) == some t) || (Nat.blt j i && bitOf ms i j)
 | none => false
def okTailM (ops : Array Oper) (ms : List Nat) (np : Nat) : Bool := (List.range (ops.size - np)).all fun d => (List.range (np + d)).all fun i => bitOf ms (np + d) i
def tidyM (ops : Array Oper) (ms : List Nat) (np : Nat) : Bool := Nat.ble np ops.size && okEdges ops && okDst ops np && okCert ops ms && okLooksM ops ms np && okTailM ops ms np
theorem Zaa {ops : Array Oper} : ∀ {f g i j : Nat}, f ≤ g → anc ops f i j = true → anc ops g i j = true
 | 0, _, _, _, _, h => by cases h
 | f + 1, 0, _, _, hl, _ => by omega
 | f + 1, g + 1, i, j, hl, h => by
  unfold anc at h ⊢
  cases ho : ops[i]? with
  | none => rw [ho] at h; cases h
  | some o =>
   rw [ho] at h
   simp only [Array.any_eq_true, Bool.and_eq_true, Bool.or_eq_true] at h ⊢
   obtain ⟨k, hk, hb, h1⟩ := h
   exact ⟨k, hk, hb, h1.imp id fun h2 => Zaa (by omega) h2⟩
theorem Z4z {ops : Array Oper} {ms : List Nat} (he : okEdges ops = true) (hc : okCert ops ms = true) : ∀ i, i < ops.size → ∀ j, j < i → bitOf ms i j = true → anc ops i i j = true := by
 intro i
 induction i using Nat.strongRecOn with
 | _ i ih =>
  intro hi j hj hb
  have h1 := List.all_eq_true.1 hc i (List.mem_range.2 hi)
  have h2 := List.all_eq_true.1 he i (List.mem_range.2 hi)
  rw [Array.getElem?_eq_getElem hi] at h1 h2
  simp only at h1 h2
  have h1 := List.all_eq_true.1 h1 j (List.mem_range.2 hj)
  rw [hb] at h1
  simp only [Bool.not_true, Bool.false_or, Array.any_eq_true, Bool.and_eq_true, Bool.or_eq_true] at h1
  obtain ⟨k, hk, hbn, h3⟩ := h1
  obtain ⟨i', rfl⟩ : ∃ i', i = i' + 1 := ⟨i - 1, by omega⟩
  have h4 : Nat.blt (ops[i' + 1].after[k]).on (i' + 1) = true := by
   have := Array.all_eq_true.1 h2 k hk
   rw [hbn, Bool.not_true, Bool.false_or] at this
   exact this
  have h4 : (ops[i' + 1].after[k]).on < i' + 1 := Nat.blt_eq ▸ h4
  unfold anc
  rw [Array.getElem?_eq_getElem hi]
  simp only [Array.any_eq_true, Bool.and_eq_true, Bool.or_eq_true]
  refine ⟨k, hk, hbn, h3.imp id fun h5 => ?_⟩
  have h6 : j < (ops[i' + 1].after[k]).on := Nat.blt_eq ▸ h5.1
  exact Zaa (by omega) (ih _ h4 (by omega) j h6 h5.2)
theorem Zhw {ops : Array Oper} {ms : List Nat} {np : Nat} (h : tidyM ops ms np = true) : tidy ops np = true := by
 simp only [tidyM, Bool.and_eq_true] at h
 obtain ⟨⟨⟨⟨⟨h1, h2⟩, h3⟩, h4⟩, h5⟩, h6⟩ := h
 have hle : np ≤ ops.size := Nat.le_of_ble_eq_true h1
 simp only [tidy, Bool.and_eq_true]
 refine ⟨⟨⟨⟨h1, h2⟩, h3⟩, ?_⟩, ?_⟩
 ·refine List.all_eq_true.2 fun i hi => ?_
  have h7 := List.all_eq_true.1 h5 i hi
  have hi' : i < ops.size := by have := List.mem_range.1 hi; omega
  rw [Array.getElem?_eq_getElem hi'] at h7 ⊢
  refine List.all_eq_true.2 fun t ht => List.all_eq_true.2 fun j hj => ?_
  have h8 := List.all_eq_true.1 (List.all_eq_true.1 h7 t ht) j hj
  simp only [Bool.or_eq_true, Bool.and_eq_true] at h8 ⊢
  exact h8.imp id fun h9 => ⟨h9.1, Z4z h2 h4 i hi' j (Nat.blt_eq ▸ h9.1) h9.2⟩
 ·refine List.all_eq_true.2 fun d hd => List.all_eq_true.2 fun i hi => ?_
  have h7 := List.all_eq_true.1 (List.all_eq_true.1 h6 d hd) i hi
  have hd' := List.mem_range.1 hd
  exact Z4z h2 h4 (np + d) (by omega) i (List.mem_range.1 hi) h7
theorem Z0i {id : Nat} {l : List Oper} (ms : List Nat) (np : Nat) (hm : P.follows .mixedOrders = true) (ht : tidyM l.toArray ms (l.take np).length = true)
  (h : Calm P l.toArray s.H (AOps P ro l.toArray (l.drop np) Q) 0 (l.take np) [] s) : AWp P ro (.region id l.toArray true) Q s :=
 Z1l np hm (Zhw ht) h
theorem Z3i {t : Nat} {p q : Operand} {u : ByteArray} {k : IntKind} {i : Int} [h : UD P t .string] (ho : o.op = .slice t p (some q) none none)
  (hp : ev T p = some (.v (.string u))) (hq : ev T q = some (.v (.int k i))) (h0 : 0 ≤ i) (h1 : i ≤ u.size) : Eff P o T [] (.v (.string (u.extract i.toNat u.size))) [] :=
 Z04 (by intro c; rw [ho]; nofun) fun C H a w hw hn hv => by
  have e1 := VR.val (hv p (by rw [ho]; simp [Op.operands]) _ hp)
  have e2 := VR.val (hv q (by rw [ho]; simp [Op.operands]) _ hq)
  refine ⟨_, ?_, .v _⟩
  simp [execOp, ho, e1, e2, Instr.sliceAt, Instr.slice, Instr.sliceBounds, run_underlying (d := .string), Z18 rfl h0 h1, Sem.run_bind, Result.andThen, Sem.run_pure]
def GSome {α : Type} (f : α → AV) (φ : α → Prop) : AEnd → AHeap → Prop := fun e H => ∃ a, φ a ∧ e = .ret (f a) ∧ H = []
theorem Z33 {fo : Operand} {args : Array Operand} {ats : Array TypeId} {g : Nat} {caps xs : List AV} {α : Type} {f : α → AV} {φ : α → Prop} (hw : Wanted ops s.T o true) (hd : dok o.dst s.n = true)
  (ho : o.op = .call { callee := .value fo, args := args, argTypes := ats }) (hfo : ev s.T fo = some (.fn (.func g) caps)) (hxs : evs s.T args.toList = some xs) (hc : ACalls P g (xs ++ caps) [] (GSome f φ))
  (h : ∀ a, φ a → AOps P ro ops rest Q { s with T := put s.T o.dst (f a) }) : AOps P ro ops (o :: rest) Q s :=
 Zbh hw hd ho hfo hxs hc (fun ch H' hR => by obtain ⟨_, _, h, _⟩ := hR; cases h) (fun x H' hR => by obtain ⟨a, h1, h2, rfl⟩ := hR; cases h2; exact h a h1)
abbrev SomeB : AEnd → AHeap → Prop := GSome bA (fun _ => True)
abbrev SomeI : AEnd → AHeap → Prop := GSome iA (fun _ => True)
abbrev SomeS : AEnd → AHeap → Prop := GSome sA (fun _ => True)
theorem Z6m {α : Type} {f : α → AV} {φ : α → Prop} {xs : List AV} (a : α) (h : φ a) (hx : mkRes xs = f a) : GSome f φ (.ret (mkRes xs)) [] := ⟨a, h, congrArg _ hx, rfl⟩
def byteAt (u : ByteArray) (k : Int) : Int := match u[k.toNat]? with | some c => c.toNat | none => 0
theorem Z12 {t : Nat} {p q : Operand} {u : ByteArray} {kd : IntKind} {k : Int} [h : UD P t .string] (ho : o.op = .index t p q)
  (hp : ev T p = some (.v (.string u))) (hq : ev T q = some (.v (.int kd k))) (h0 : 0 ≤ k) (h1 : k < u.size) : Eff P o T [] (.v (.int .u8 (byteAt u k))) [] := by
 have hl : k.toNat < u.size := by omega
 have e : u[k.toNat]? = some u[k.toNat] := getElem?_pos u k.toNat hl
 have := Z7h (P := P) (T := T) ho hp hq h0 e
 unfold byteAt; rw [e]; exact this
theorem Z5b {t : Nat} {x : AV} (ht : lk s.T t = some x) : Weak s { s with T := (t, x) :: s.T } := fun Z C a w hs =>
 ⟨C, ⟨hs.wr, fun t' y hy => by
  simp only [lk] at hy
  cases hb : Nat.beq t t' with
  | true => simp only [hb, cond_true] at hy; have e := Nat.eq_of_beq_eq_true hb; subst e; exact hs.sl t y (ht.trans hy)
  | false => simp only [hb, cond_false] at hy; exact hs.sl t' y hy, hs.df, hs.du, hs.sz⟩, .refl ..⟩
theorem Z0q {c : Code} {b : Bool} (t : Nat) (ht : lk s.T t = some (.v (.bool b))) (h : ∀ d, d = b → AWp P ro c Q { s with T := (t, .v (.bool d)) :: s.T }) : AWp P ro c Q s := Z1e (Z5b ht) (h b rfl)
theorem Zef {c : Code} {k : IntKind} {b : Int} (t : Nat) (ht : lk s.T t = some (.v (.int k b))) (h : ∀ d, d = b → AWp P ro c Q { s with T := (t, .v (.int k d)) :: s.T }) : AWp P ro c Q s := Z1e (Z5b ht) (h b rfl)
theorem Z02 {l : List ByteArray} {i : Nat} (h : i < l.length) : (l.map fun x => [AV.v (.string x)])[i]? = some [.v (.string (l.getD i default))] := by simp [h, List.getD]
theorem Zhh {t t' : TypeId} {p q : Operand} {k : IntKind} {x y : Int} (ho : o.op = .binOp .rem t p q t') (hp : ev T p = some (.v (.int k x))) (hq : ev T q = some (.v (.int k y))) (hy : y ≠ 0) : Eff P o T [] (.v (.int k (x.tmod y))) [] :=
 Z04 (by intro c; rw [ho]; nofun) fun C H a w hw hn hv => by
  have h2 := VR.val (hv p (by rw [ho]; simp [Op.operands]) _ hp)
  have h3 := VR.val (hv q (by rw [ho]; simp [Op.operands]) _ hq)
  refine ⟨_, ?_, .v _⟩
  simp [execOp, ho, h2, h3, eqGuard, binOp, Op.intDiv, hy, Sem.run_bind, Result.andThen]
def GP {β : Type} (f : β → AV) (Hb : β → AHeap) (φ : β → Prop) : AEnd → AHeap → Prop := fun e H => ∃ b, φ b ∧ e = .ret (f b) ∧ H = Hb b
theorem Z1n {H : AHeap} {k j : Nat} {p q : Nat × AObj} (h : H[k]? = some p) (h2 : (H.eraseIdx k)[j]? = some q) : H.Perm ([p, q] ++ (H.eraseIdx k).eraseIdx j) := (Zu h).trans ((Zu h2).cons p)
theorem Zl {fo : Operand} {args : Array Operand} {ats : Array TypeId} {g : Nat} {caps xs : List AV} {β : Type} {f : β → AV} {Hb : β → AHeap} {φ : β → Prop} (Hf Fr : AHeap) (hw : Wanted ops s.T o true) (hd : dok o.dst s.n = true)
  (ho : o.op = .call { callee := .value fo, args := args, argTypes := ats }) (hfo : ev s.T fo = some (.fn (.func g) caps)) (hxs : evs s.T args.toList = some xs) (hp : s.H.Perm (Hf ++ Fr)) (hc : ACalls P g (xs ++ caps) Hf (GP f Hb φ))
  (h : ∀ b, φ b → AOps P ro ops rest Q { s with T := put s.T o.dst (f b), H := Hb b ++ Fr }) : AOps P ro ops (o :: rest) Q s :=
 Zbf Hf Fr hw hd ho hfo hxs hp hc (fun ch H' hR => by obtain ⟨_, _, h, _⟩ := hR; cases h) (fun x H' hR => by obtain ⟨b, h1, h2, rfl⟩ := hR; cases h2; exact h b h1)
theorem gp {β : Type} {f : β → AV} {Hb : β → AHeap} {φ : β → Prop} {xs : List AV} {H : AHeap} (b : β) (h : φ b) (hx : mkRes xs = f b) (hH : H = Hb b) : GP f Hb φ (.ret (mkRes xs)) H := ⟨b, h, congrArg _ hx, hH⟩
theorem Z1x {x y : Int} (h : -9223372036854775808 ≤ x * y ∧ x * y ≤ 9223372036854775807) : arith .mul .i64 x y = some (x * y) := by simp [arith, Z0u h]
theorem Z1g {t t' : TypeId} {p q : Operand} {x y : Int} (ho : o.op = .binOp .quo t p q t') (hp : ev T p = some (.v (.int .i64 x))) (hq : ev T q = some (.v (.int .i64 y))) (hy : y ≠ 0) (hr : -9223372036854775808 ≤ x.tdiv y ∧ x.tdiv y ≤ 9223372036854775807) : Eff P o T [] (.v (.int .i64 (x.tdiv y))) [] :=
 Z04 (by intro c; rw [ho]; nofun) fun C H a w hw hn hv => by
  have h2 := VR.val (hv p (by rw [ho]; simp [Op.operands]) _ hp)
  have h3 := VR.val (hv q (by rw [ho]; simp [Op.operands]) _ hq)
  refine ⟨_, ?_, .v _⟩
  simp [execOp, ho, h2, h3, eqGuard, binOp, Op.intDiv, hy, Z0u hr, Sem.run_bind, Result.andThen]
theorem Zt {H0 : AHeap} {K : St → Prop} {kk : Nat} {M : List (Nat × (Nat × AObj))} {e : Bool} {t : TypeId} {p : Operand} {id el i : Nat} {l : List ByteArray} (k : Nat) (hw : Wanted ops s.T o e) (hd : dok o.dst s.n = true) (ho : o.op = .load t p) (hp : e = true → ev s.T p = some (.ptr id 1 i 0))
  (hH : H0[k]? = some (id, .rows el 1 (l.map fun x => [AV.v (.string x)]))) (hi : e = true → i < l.length) (hl : ∀ x, Ld P t [x] x) (h : Calm P ops H0 K (kk + 1) rest M { s with T := put s.T o.dst (cond e (.v (.string (l.getD i default))) (.v undef)) }) : Calm P ops H0 K kk (o :: rest) M s := by
 cases e
 ·exact .off hw hd h
 ·exact Zw k hw hd ho (hp rfl) hH (Z02 (hi rfl)) (hl _) h
theorem Z79 {c : Code} {k : IntKind} {b d : Int} (t : Nat) (ht : lk s.T t = some (.v (.int k b))) (e : b = d) (h : AWp P ro c Q { s with T := (t, .v (.int k d)) :: s.T }) : AWp P ro c Q s := by subst e; exact Z1e (Z5b ht) h
theorem Zj0 {a b : Nat} (h : a ≤ b) : (((b - a : Nat) : Int) - 1).tdiv 2 = (((b - a - 1) / 2 : Nat) : Int) := by
 cases e : b - a with
 | zero => decide
 | succ k =>
  rw [show ((k + 1 : Nat) : Int) - 1 = (k : Int) from by omega, show k + 1 - 1 = k from by omega]
  exact (Int.ofNat_tdiv k 2).symm
theorem Z3q (a b : Nat) : ((a : Int)).tdiv b = ((a / b : Nat) : Int) := (Int.ofNat_tdiv a b).symm
theorem Z13 (a b : Nat) (h : a ≤ 9223372036854775807) : -9223372036854775808 ≤ ((a : Int)).tdiv b ∧ ((a : Int)).tdiv b ≤ 9223372036854775807 := by
 rw [Z3q]
 have := Nat.div_le_self a b
 generalize a / b = c at *
 omega
def bitsI (op : BinOp) (k : IntKind) (x y : Int) : Int := match op with
 | .and => k.wrap (BitVec.ofInt k.bits x &&& BitVec.ofInt k.bits y).toNat
 | .or => k.wrap (BitVec.ofInt k.bits x ||| BitVec.ofInt k.bits y).toNat
 | .xor => k.wrap (BitVec.ofInt k.bits x ^^^ BitVec.ofInt k.bits y).toNat
 | _ => k.wrap (BitVec.ofInt k.bits x &&& ~~~BitVec.ofInt k.bits y).toNat
theorem Z1p {b : BinOp} {t t' : TypeId} {p q : Operand} {k : IntKind} {x y : Int} (ho : o.op = .binOp b t p q t') (hb : b = .and ∨ b = .or ∨ b = .xor) (hp : ev T p = some (.v (.int k x))) (hq : ev T q = some (.v (.int k y))) : Eff P o T [] (.v (.int k (bitsI b k x y))) [] :=
 Z04 (by intro c; rw [ho]; nofun) fun C H a w hw hn hv => by
  have h2 := VR.val (hv p (by rw [ho]; simp [Op.operands]) _ hp)
  have h3 := VR.val (hv q (by rw [ho]; simp [Op.operands]) _ hq)
  refine ⟨_, ?_, .v _⟩
  rcases hb with rfl | rfl | rfl <;> simp [execOp, ho, h2, h3, eqGuard, binOp, Op.intBits, bitsI, Sem.run_bind, Result.andThen]
theorem Z5k {t t' : TypeId} {p q : Operand} {k k' : IntKind} {x y : Int} (ho : o.op = .binOp .shl t p q t') (hp : ev T p = some (.v (.int k x))) (hq : ev T q = some (.v (.int k' y))) (hy : 0 ≤ y) : Eff P o T [] (.v (.int k (k.wrap (x * 2 ^ (min y.toNat k.bits))))) [] :=
 Z04 (by intro c; rw [ho]; nofun) fun C H a w hw hn hv => by
  have h2 := VR.val (hv p (by rw [ho]; simp [Op.operands]) _ hp)
  have h3 := VR.val (hv q (by rw [ho]; simp [Op.operands]) _ hq)
  refine ⟨_, ?_, .v _⟩
  have : ¬ y < 0 := by omega
  simp [execOp, ho, h2, h3, eqGuard, binOp, Op.shift, this, Sem.run_bind, Result.andThen]
theorem Z2a {t t' : TypeId} {p q : Operand} {k k' : IntKind} {x y : Int} (ho : o.op = .binOp .shr t p q t') (hp : ev T p = some (.v (.int k x))) (hq : ev T q = some (.v (.int k' y))) (hy : 0 ≤ y) : Eff P o T [] (.v (.int k (x.fdiv (2 ^ (min y.toNat k.bits))))) [] :=
 Z04 (by intro c; rw [ho]; nofun) fun C H a w hw hn hv => by
  have h2 := VR.val (hv p (by rw [ho]; simp [Op.operands]) _ hp)
  have h3 := VR.val (hv q (by rw [ho]; simp [Op.operands]) _ hq)
  refine ⟨_, ?_, .v _⟩
  have : ¬ y < 0 := by omega
  simp [execOp, ho, h2, h3, eqGuard, binOp, Op.shift, this, Sem.run_bind, Result.andThen]
theorem Z5l {t e n : Nat} {b : Bool} {p q : Operand} {es : List (List AV)} {kd : IntKind} {k : Int} [h : UD P t (.slice e)] [k1 : TK P e b n] (ho : o.op = .slice t p none (some q) none)
  (hp : ev T p = some (.lst es)) (hq : ev T q = some (.v (.int kd k))) (h0 : 0 ≤ k) (h1 : k ≤ es.length) : Eff P o T [] (.lst (es.take k.toNat)) [] :=
 Z04 (by intro c; rw [ho]; nofun) fun C H a w hw hn hv => by
  have h2 := hv p (by rw [ho]; simp [Op.operands]) _ hp
  have h3 := VR.val (hv q (by rw [ho]; simp [Op.operands]) _ hq)
  generalize hpv : a.eval p = u at h2
  cases h2 with
  | lstNil =>
   have hk : k = 0 := by simp at h1; omega
   subst hk
   refine ⟨.slice none 0 0, ?_, by simpa using VR.lstNil⟩
   have hb : ∀ code, (Instr.sliceBound (.int kd 0) 0 code).run P w = .ok 0 w := fun code => Z18 rfl (by omega) (by omega) w
   simp [execOp, ho, hpv, h3, Instr.sliceAt, Instr.slice, Instr.sliceBounds, run_underlying (d := .slice e), Z0g k1.tk, hb, Sem.run_bind, Result.andThen, Sem.run_pure]
  | lst _ ad sz cap cells elem fz xs hs hb hz hc hvv ho' hcap =>
   have hkc : k ≤ (cap : Int) := by omega
   refine ⟨.slice (some ad) k.toNat cap, ?_, ?_⟩
   ·have e0 : ad.add 0 = ad := by simp [Addr.add]
    simp [execOp, ho, hpv, h3, Instr.sliceAt, Instr.slice, Instr.sliceBounds, run_underlying (d := .slice e), Z0g k1.tk, Z18 rfl h0 hkc, Sem.run_bind, Result.andThen, Sem.run_pure, e0]
   ·have hl : (es.take k.toNat).length = k.toNat := by rw [List.length_take]; omega
    have hne : es.take k.toNat ≠ [] → es ≠ [] := fun h e => h (by rw [e]; simp)
    have hget : ∀ (i : Nat) (e : List AV), (es.take k.toNat)[i]? = some e → es[i]? = some e := fun i e h => by
     rw [List.getElem?_take] at h; split at h <;> simp_all
    have hfin := VR.lst (C := C) (es.take k.toNat) ad sz cap cells elem fz xs (fun h => hs (hne h)) (fun h => hb (hne h)) (fun e he => hz e (List.mem_of_mem_take he)) (fun i e j c h1 h2 => hc i e j c (hget i e h1) h2)
     (fun i e j c h1 h2 => hvv i e j c (hget i e h1) h2) (fun i e j c h1 h2 => ho' i e j c (hget i e h1) h2) (by omega)
    rw [hl] at hfin
    exact hfin
end Go.Sx
namespace Go.Sx
open Go
def EffW (P : Program) (o : Oper) (T : List (Nat × AV)) (H H' : AHeap) : Prop :=
 ∀ Z C a w, WR C H w → (∀ p, p ∈ o.op.operands → ∀ y, ev T p = some y → VR C y (a.eval p)) →
  ∀ ro next R, (∀ v w1 C1, VR C1 (.v undef) v → WR C1 H' w1 → Ext Z C H w C1 H' w1 → next (a.put o.dst v) w1) → o.uponIn (Wd ro) 0 P a next R ((o.semAt ro a.eval).run P w)
section
variable {P : Program} {ro : Option Nat} {Q : Exit → St → Prop} {s : St} {ops : Array Oper} {o : Oper} {rest : List Oper} {T : List (Nat × AV)}
theorem Z6t {t n id sz i c el : Nat} {b : Bool} {p q : Operand} {es : List (List AV)} {e : List AV} {x : AV} {H : AHeap} (k : Nat) [kt : TK P t b n]
  (ho : o.op = .store t p q) (hp : ev T p = some (.ptr id sz i c)) (hH : H[k]? = some (id, .rows el sz es)) (he : es[i]? = some e) (hq : ev T q = some x)
  (hx : (cellsA x).length = n) (h1 : (cellsA x).all one = true) (hc : Nat.ble (c + n) sz = true) :
  EffW P o T H (H.set k (id, .rows el sz (es.set i (e.take c ++ cellsA x ++ e.drop (c + (cellsA x).length))))) := by
 intro Z C a w hswr hv ro next R hk
 have hc := Nat.le_of_ble_eq_true hc
 have hmem := List.mem_of_getElem? hH
 obtain ⟨hu, hlen, hor⟩ := hswr.ids _ _ hmem
 have hpv := hv p (by rw [ho]; simp [Op.operands]) _ hp
 have hqv := hv q (by rw [ho]; simp [Op.operands]) _ hq
 obtain ⟨hcl, hcr⟩ := Z1z hqv
 have hone := Zhq hcl hcr h1
 have hel : e.length = sz := hlen e (List.mem_of_getElem? he)
 have hie : i < es.length := (List.getElem?_eq_some_iff.1 he).1
 rcases hor with ⟨hm, _⟩ | ⟨b', N, cells, hm, hh, hsz, hfit, hrow⟩
 ·generalize a.eval p = u at hpv
  cases hpv with
  | ptr _ _ _ _ b2 N2 hid _ => rw [hm] at hid; cases hid
 ·have hpe : a.eval p = .pointer (some ⟨b', i * sz + c, none⟩) := by
   generalize a.eval p = u at hpv
   cases hpv with
   | ptr _ _ _ _ b2 N2 hid _ => rw [hm] at hid; cases hid; rfl
  have hrowfit : i * sz + sz ≤ es.length * sz := by
   have : (i + 1) * sz ≤ es.length * sz := Nat.mul_le_mul_right _ hie
   rw [Nat.add_mul] at this; omega
  have hvs : (a.eval q).cells.toList.length = n := by rw [Array.length_toList, ← hcl, hx]
  have hst := run_storeCells_at P b' (i * sz + c) el (a.eval q).cells.toList 0 cells w hh (by rw [hvs]; omega) (by
   intro v hv'
   obtain ⟨j, hj⟩ := List.mem_iff_getElem?.1 hv'
   exact hone j v (by rw [← Array.getElem?_toList]; exact hj))
  simp only [Nat.add_zero] at hst
  have hrun : (o.semAt ro a.eval).run P w = .ok .skip (w.setRow b' (cells.toList.take (i * sz + c) ++ (a.eval q).cells.toList ++ cells.toList.drop (i * sz + c + (a.eval q).cells.toList.length)).toArray) := by
   rw [Oper.semAt_eq _ _ _ (by intro c; rw [ho]; nofun)]
   have hsz1 : (a.eval q).cells.size = n := by rw [← hcl, hx]
   simp [execOp, ho, Instr.storeAt, hpe, Instr.sureAddr, storeVar, Z0g kt.tk, hsz1, Sem.run_bind, Result.andThen]
   rw [hst]
   simp [hsz1]
  rw [hrun]
  obtain ⟨hw1, he1⟩ := Z1h (Z := Z) (C' := C) (id' := id) (o' := .rows el sz (es.set i (e.take c ++ cellsA x ++ e.drop (c + (cellsA x).length))))
   (w' := w.setRow b' (cells.toList.take (i * sz + c) ++ (a.eval q).cells.toList ++ cells.toList.drop (i * sz + c + (a.eval q).cells.toList.length)).toArray) hswr hH (.refl C) rfl (.inl rfl) hu (fun _ _ h => h) rfl rfl rfl (by simp)
   (fun b N' hm' => .inl ⟨N', hm'⟩) (fun b hb hne => setRow_other w b' b _ (by rintro rfl; exact hne N hm)) (by
    refine ⟨?_, .inr ⟨b', N, _, hm, setRow_heap w b' cells _ el (0, 0) hh, ?_, by simpa using hfit, ?_⟩⟩
    ·intro e' he'
     rcases List.mem_or_eq_of_mem_set he' with h2 | h2
     ·exact hlen e' h2
     ·subst h2
      simp only [List.length_append, List.length_take, List.length_drop]
      omega
    ·simp only [List.size_toArray, List.length_append, List.length_take, List.length_drop, Array.length_toList]
     have := hvs
     rw [Array.length_toList] at this
     omega
    ·intro i' e' j cc he' hcc
     rw [List.getElem?_toArray, Z0z _ _ _ _ (by rw [hvs, Array.length_toList]; omega), hvs]
     rw [List.getElem?_set] at he'
     by_cases hi : i = i'
     ·subst hi
      rw [if_pos rfl, if_pos hie] at he'
      simp only [Option.some.injEq] at he'
      subst he'
      rw [Z0z _ _ _ _ (by omega), hx] at hcc
      have hjlt : j < sz := by
       rcases Nat.lt_or_ge j sz with h2 | h2
       ·exact h2
       ·rw [if_neg (by omega), if_neg (by omega), List.getElem?_eq_none (by omega)] at hcc; cases hcc
      by_cases hj1 : j < c
      ·rw [if_pos hj1] at hcc
       rw [if_pos (by omega)]
       rw [Array.getElem?_toList]
       exact hrow i e j cc he hcc
      ·rw [if_neg hj1] at hcc
       rw [if_neg (by omega)]
       by_cases hj2 : j < c + n
       ·rw [if_pos hj2] at hcc
        rw [if_pos (by omega), show i * sz + j - (i * sz + c) = j - c from by omega]
        have hlt : j - c < (a.eval q).cells.size := by rw [← hcl]; exact (List.getElem?_eq_some_iff.1 hcc).1
        have hg : (a.eval q).cells[j - c]? = some (a.eval q).cells[j - c] := Array.getElem?_eq_getElem hlt
        exact ⟨_, by rw [Array.getElem?_toList]; exact hg, hcr _ _ _ hcc hg, hone _ _ hg⟩
       ·rw [if_neg hj2] at hcc
        rw [if_neg (by omega), Array.getElem?_toList]
        exact hrow i e j cc he hcc
     ·rw [if_neg hi] at he'
      have hel' : e'.length = sz := hlen e' (List.mem_of_getElem? he')
      have hj : j < sz := by rw [← hel']; exact (List.getElem?_eq_some_iff.1 hcc).1
      have hout : ¬ (i * sz + c ≤ i' * sz + j ∧ i' * sz + j < i * sz + c + n) := by
       rintro ⟨h2, h3⟩
       rcases Nat.lt_or_ge i i' with h4 | h4
       ·have := Z1k (k := c + n - 1) (sz := sz) h4 (by omega)
        omega
       ·have h5 : i' < i := by omega
        have := Z1k (k := j) (sz := sz) h5 hj
        omega
      have hg := hrow i' e' j cc he' hcc
      rw [← Array.getElem?_toList] at hg
      split
      ·exact hg
      ·split
       ·exact (hout ⟨by omega, by omega⟩).elim
       ·exact hg)
  exact hk undef _ C (.v undef) hw1 he1
theorem Z9i {t n id el i : Nat} {b : Bool} {p q : Operand} {l : List ByteArray} {x : ByteArray} {H : AHeap} (k : Nat) [kt : TK P t b n] (hn1 : n = 1)
  (ho : o.op = .store t p q) (hp : ev T p = some (.ptr id 1 i 0)) (hH : H[k]? = some (id, .rows el 1 (l.map fun x => [AV.v (.string x)]))) (hi : i < l.length) (hq : ev T q = some (.v (.string x))) :
  EffW P o T H (H.set k (id, .rows el 1 ((l.set i x).map fun x => [AV.v (.string x)]))) := by
 subst hn1
 have e : (l.map fun x => [AV.v (.string x)]).set i ([AV.v (.string (l.getD i default))].take 0 ++ cellsA (.v (.string x)) ++ [AV.v (.string (l.getD i default))].drop (0 + (cellsA (.v (.string x))).length)) = (l.set i x).map fun x => [AV.v (.string x)] := by
  rw [List.map_set]; rfl
 rw [← e]
 exact Z6t k ho hp hH (Z02 hi) hq rfl rfl rfl
end
inductive WCalm (P : Program) (ops : Array Oper) (H0 : AHeap) (ws rs : List Nat) (K : St → Prop) : Nat → List Oper → St → Prop
 | done {k : Nat} {s : St} (h : K s) : WCalm P ops H0 ws rs K k [] s
 | eff {k : Nat} {o : Oper} {r : List Oper} {s : St} (Hn : AHeap) (x : AV) (hw : Wanted ops s.T o true) (hd : dok o.dst s.n = true) (he : Eff P o s.T Hn x []) (hn : ∀ p, p ∈ Hn → p ∈ H0) (hr : Hn = [] ∨ rs.contains k = true) (hk : ws.contains k = false)
   (h : WCalm P ops H0 ws rs K (k + 1) r { s with T := put s.T o.dst x }) : WCalm P ops H0 ws rs K k (o :: r) s
 | off {k : Nat} {o : Oper} {r : List Oper} {s : St} (hw : Wanted ops s.T o false) (hd : dok o.dst s.n = true) (hk : ws.contains k = false) (h : WCalm P ops H0 ws rs K (k + 1) r { s with T := put s.T o.dst (.v undef) }) : WCalm P ops H0 ws rs K k (o :: r) s
 | write {k : Nat} {o : Oper} {r : List Oper} {s : St} (H' : AHeap) (hw : Wanted ops s.T o true) (hd : dok o.dst s.n = true) (he : EffW P o s.T s.H H') (hk : ws.contains k = true)
   (h : WCalm P ops H0 ws rs K (k + 1) r { s with T := put s.T o.dst (.v undef), H := H' }) : WCalm P ops H0 ws rs K k (o :: r) s
def GoodW (P : Program) (ops : Array Oper) (n : Nat) (ws rs : List Nat) (xs : Nat → AV) (B : Nat → AHeap) (T0 : List (Nat × AV)) (i : Nat) : Prop :=
 ∃ o, ops[i]? = some o ∧ dok o.dst n = true ∧
  ((ws.contains i = false ∧ B (i + 1) = B i ∧ ((Wanted ops (TT ops xs T0 i) o false ∧ xs i = .v undef) ∨
   (Wanted ops (TT ops xs T0 i) o true ∧ ∃ Hn, Eff P o (TT ops xs T0 i) Hn (xs i) [] ∧ (∀ p, p ∈ Hn → p ∈ B 0) ∧ (Hn = [] ∨ rs.contains i = true)))) ∨
  (ws.contains i = true ∧ Wanted ops (TT ops xs T0 i) o true ∧ xs i = .v undef ∧ EffW P o (TT ops xs T0 i) (B i) (B (i + 1))))
theorem GoodW.congr {P : Program} {ops : Array Oper} {n : Nat} {ws rs : List Nat} {xs ys : Nat → AV} {B D : Nat → AHeap} {T0 : List (Nat × AV)} {i : Nat} (h1 : ∀ j, j ≤ i → xs j = ys j) (h2 : ∀ j, j ≤ i + 1 → B j = D j) (h : GoodW P ops n ws rs xs B T0 i) : GoodW P ops n ws rs ys D T0 i := by
 obtain ⟨o, ho, hd, h⟩ := h
 refine ⟨o, ho, hd, ?_⟩
 rw [← Z0p (ops := ops) (T0 := T0) i (fun j hj => h1 j (by omega)), ← h1 i (Nat.le_refl _), ← h2 i (by omega), ← h2 (i + 1) (Nat.le_refl _), ← h2 0 (by omega)]
 exact h
theorem WCalm.tell {P : Program} {ops : Array Oper} {H0 : AHeap} {ws rs : List Nat} {K : St → Prop} {T0 : List (Nat × AV)} {D : List Nat} {n : Nat} {k : Nat} {l : List Oper} {s : St} (h : WCalm P ops H0 ws rs K k l s) :
  ∀ (xs : Nat → AV) (B : Nat → AHeap), ops.toList.drop k = l → B 0 = H0 → s = ⟨TT ops xs T0 k, B k, D, n⟩ → (∀ i, i < k → GoodW P ops n ws rs xs B T0 i) →
   ∃ (ys : Nat → AV) (E : Nat → AHeap), E 0 = H0 ∧ K ⟨TT ops ys T0 (k + l.length), E (k + l.length), D, n⟩ ∧ ∀ i, i < k + l.length → GoodW P ops n ws rs ys E T0 i := by
 have step : ∀ (k : Nat) (o : Oper) (xs : Nat → AV) (B : Nat → AHeap) (x : AV) (H' : AHeap), ops[k]? = some o → (∀ i, i < k → GoodW P ops n ws rs xs B T0 i) → dok o.dst n = true →
   ((ws.contains k = false ∧ H' = B k ∧ ((Wanted ops (TT ops xs T0 k) o false ∧ x = .v undef) ∨
    (Wanted ops (TT ops xs T0 k) o true ∧ ∃ Hn, Eff P o (TT ops xs T0 k) Hn x [] ∧ (∀ p, p ∈ Hn → p ∈ B 0) ∧ (Hn = [] ∨ rs.contains k = true)))) ∨
   (ws.contains k = true ∧ Wanted ops (TT ops xs T0 k) o true ∧ x = .v undef ∧ EffW P o (TT ops xs T0 k) (B k) H')) →
   ∃ (ys : Nat → AV) (E : Nat → AHeap), (∀ i, i < k → ys i = xs i) ∧ (∀ i, i ≤ k → E i = B i) ∧ ys k = x ∧ E (k + 1) = H' ∧ (∀ i, i < k + 1 → GoodW P ops n ws rs ys E T0 i) := by
  intro k o xs B x H' ho hg hd hx
  refine ⟨fun i => if i = k then x else xs i, fun i => if i = k + 1 then H' else B i, fun i hi => if_neg (by omega), fun i hi => if_neg (by omega), if_pos rfl, if_pos rfl, ?_⟩
  intro i hi
  rcases Nat.lt_or_ge i k with hlt | hge
  ·exact (hg i hlt).congr (fun j hj => (if_neg (by omega)).symm) (fun j hj => (if_neg (by omega)).symm)
  ·have e : i = k := by omega
   subst e
   refine ⟨o, ho, hd, ?_⟩
   have e1 : TT ops (fun j => if j = i then x else xs j) T0 i = TT ops xs T0 i := Z0p i (fun j hj => if_neg (by omega))
   have e2 : (if i = i + 1 then H' else B i) = B i := if_neg (by omega)
   have e3 : (if 0 = i + 1 then H' else B 0) = B 0 := if_neg (by omega)
   simp only [e1, if_true, e2, e3]
   exact hx
 induction h with
 | done h =>
  intro xs B hl hB hs hg
  subst hs
  exact ⟨xs, B, hB, h, hg⟩
 | @eff k o r s Hn x hw hd he hn hr hk h ih =>
  intro xs B hl hB hs hg
  subst hs
  obtain ⟨h1, h2⟩ := Z08 hl
  have ho : ops[k]? = some o := by rw [← Array.getElem?_toList]; exact h1
  obtain ⟨ys, E, e1, e2, e3, e4, e5⟩ := step k o xs B x (B k) ho hg hd (.inl ⟨hk, rfl, .inr ⟨hw, Hn, he, fun p hp => hB ▸ hn p hp, hr⟩⟩)
  have hlen : k + (o :: r).length = k + 1 + r.length := by simp; omega
  rw [hlen]
  refine ih ys E h2 ((e2 0 (by omega)).trans hB) ?_ e5
  simp only [TT, ho, Option.bind_some, e3, e4]
  rw [Z0p k e1]
 | @off k o r s hw hd hk h ih =>
  intro xs B hl hB hs hg
  subst hs
  obtain ⟨h1, h2⟩ := Z08 hl
  have ho : ops[k]? = some o := by rw [← Array.getElem?_toList]; exact h1
  obtain ⟨ys, E, e1, e2, e3, e4, e5⟩ := step k o xs B (.v undef) (B k) ho hg hd (.inl ⟨hk, rfl, .inl ⟨hw, rfl⟩⟩)
  have hlen : k + (o :: r).length = k + 1 + r.length := by simp; omega
  rw [hlen]
  refine ih ys E h2 ((e2 0 (by omega)).trans hB) ?_ e5
  simp only [TT, ho, Option.bind_some, e3, e4]
  rw [Z0p k e1]
 | @write k o r s H' hw hd he hk h ih =>
  intro xs B hl hB hs hg
  subst hs
  obtain ⟨h1, h2⟩ := Z08 hl
  have ho : ops[k]? = some o := by rw [← Array.getElem?_toList]; exact h1
  obtain ⟨ys, E, e1, e2, e3, e4, e5⟩ := step k o xs B (.v undef) H' ho hg hd (.inr ⟨hk, hw, rfl, he⟩)
  have hlen : k + (o :: r).length = k + 1 + r.length := by simp; omega
  rw [hlen]
  refine ih ys E h2 ((e2 0 (by omega)).trans hB) ?_ e5
  simp only [TT, ho, Option.bind_some, e3, e4]
  rw [Z0p k e1]
def okWrites (ms ws rs : List Nat) : Bool := ws.all fun w => (rs.all fun r => Nat.blt r w && bitOf ms w r) && ws.all fun v => Nat.beq v w || (Nat.blt v w && bitOf ms w v) || (Nat.blt w v && bitOf ms v w)
def tidyW (ops : Array Oper) (ms ws rs : List Nat) : Bool := okEdges ops && okDst ops ops.size && okCert ops ms && okLooksM ops ms ops.size && okWrites ms ws rs && (ws ++ rs).all fun i => Nat.blt i ops.size
structure InvW (P : Program) (ops : Array Oper) (ws : List Nat) (ys : Nat → AV) (B : Nat → AHeap) (cur : Nat) (s : St) (Z : List Nat) (C0 : Ctx) (H0 : AHeap) (w0 : World) (listed : Array Bool) (a : Act) (w : World) (C : Ctx) : Prop where
 wr : WR C (B cur) w
 sl0 : ∀ t x, lk s.T t = some x → (∀ j, j < ops.size → (ops[j]?).bind (·.dst) ≠ some t) → ∃ v, a.tmps[t]? = some v ∧ VR C x v
 sl1 : ∀ j t, j < ops.size → listed.getD j false = true → (ops[j]?).bind (·.dst) = some t → ∃ v, a.tmps[t]? = some v ∧ VR C (ys j) v
 df : a.defers = s.D.map (mark C)
 du : ∀ i, i ∈ s.D → i ∈ C.U
 sz : a.tmps.size = s.n
 ext : Ext Z C0 H0 w0 C (B cur) w
 dn : ∀ i o, ops[i]? = some o → listed.getD i false = true → ∀ e, e ∈ o.after → Region.binds .any e = true → listed.getD e.on false = true
 lw : ∀ v, ws.contains v = true → v < ops.size → (listed.getD v false = true ↔ v < cur)
 lc : cur ≤ ops.size
theorem Zf5 {B : Nat → AHeap} {ws : List Nat} {N : Nat} (hB : ∀ i, i < N → ws.contains i = false → B (i + 1) = B i) : ∀ (d a : Nat), a + d ≤ N → (∀ i, a ≤ i → i < a + d → ws.contains i = false) → B (a + d) = B a
 | 0, a, _, _ => rfl
 | d + 1, a, h, hw => by
  rw [show a + (d + 1) = (a + d) + 1 from by omega, hB (a + d) (by omega) (hw _ (by omega) (by omega))]
  exact Zf5 hB d a (by omega) (fun i h1 h2 => hw i h1 (by omega))
theorem Zix {P : Program} {ro : Option Nat} {ops : Array Oper} {Q : Exit → St → Prop} {ms ws rs : List Nat} {ys : Nat → AV} {B : Nat → AHeap} {s : St} {Z : List Nat} {C0 : Ctx} {H0 : AHeap} {w0 : World}
  (ht : tidyW ops ms ws rs = true) (hK : Q .normal ⟨TT ops ys s.T ops.size, B ops.size, s.D, s.n⟩) (hg : ∀ i, i < ops.size → GoodW P ops s.n ws rs ys B s.T i) :
  ∀ (fuel : Nat) (listed : Array Bool) (cur : Nat) (a : Act) (w : World) (C : Ctx), listed.size = ops.size → left ops listed = fuel →
   InvW P ops ws ys B cur s Z C0 H0 w0 listed a w C → wpAnyIn (Wd ro) 0 P .any ops (Post Z C0 H0 w0 Q) fuel listed a w := by
 simp only [tidyW, Bool.and_eq_true] at ht
 obtain ⟨⟨⟨⟨⟨hE, hD⟩, hCt⟩, hL⟩, hW⟩, hIn⟩ := ht
 have hcert := Z4z hE hCt
 have hwsz : ∀ v, ws.contains v = true → v < ops.size := fun v hv => Nat.blt_eq ▸ List.all_eq_true.1 hIn v (List.mem_append_left _ (by simpa using hv))
 have hrsz : ∀ v, rs.contains v = true → v < ops.size := fun v hv => Nat.blt_eq ▸ List.all_eq_true.1 hIn v (List.mem_append_right _ (by simpa using hv))
 have hrw : ∀ v r, ws.contains v = true → rs.contains r = true → anc ops v v r = true := by
  intro v r hv hr
  have h1 := List.all_eq_true.1 hW v (by simpa using hv)
  rw [Bool.and_eq_true] at h1
  have h2 := List.all_eq_true.1 h1.1 r (by simpa using hr)
  rw [Bool.and_eq_true] at h2
  exact hcert v (hwsz v hv) r (Nat.blt_eq ▸ h2.1) h2.2
 have hww : ∀ v u, ws.contains v = true → ws.contains u = true → u < v → anc ops v v u = true := by
  intro v u hv hu hlt
  have h1 := List.all_eq_true.1 hW v (by simpa using hv)
  rw [Bool.and_eq_true] at h1
  have h2 := List.all_eq_true.1 h1.2 u (by simpa using hu)
  simp only [Bool.or_eq_true, Bool.and_eq_true] at h2
  rcases h2 with (h2 | h2) | h2
  ·have := Nat.eq_of_beq_eq_true h2; omega
  ·exact hcert v (hwsz v hv) u hlt h2.2
  ·have : v < u := Nat.blt_eq ▸ h2.1; omega
 have hBs : ∀ i, i < ops.size → ws.contains i = false → B (i + 1) = B i := by
  intro i hi hw
  obtain ⟨o, _, _, h | h⟩ := hg i hi
  ·exact h.2.1
  ·rw [hw] at h; cases h.1
 intro fuel
 induction fuel with
 | zero =>
  intro listed cur a w C hls hleft hI
  have hall : ∀ i, i < ops.size → listed.getD i false = true := by
   intro i hi
   cases hb : listed.getD i false with
   | true => rfl
   | false => have := Z47 hi hls hb; omega
  refine ⟨?_, ?_⟩
  ·rw [List.eq_nil_iff_forall_not_mem]
   intro j hj
   obtain ⟨h3, o, h4, _⟩ := mem_ready.1 hj
   have hlt : j < ops.size := (Array.getElem?_eq_some_iff.1 h4).1
   have := hall j hlt
   simp [hls, hlt] at h3 this
   rw [h3] at this; cases this
  ·have hB : B ops.size = B cur := by
    have := Zf5 hBs (ops.size - cur) cur (by have := hI.lc; omega) (fun i h1 h2 => by
     cases hw : ws.contains i with
     | false => rfl
     | true => have := (hI.lw i hw (hwsz i hw)).1 (hall i (hwsz i hw)); omega)
    rwa [show cur + (ops.size - cur) = ops.size from by have := hI.lc; omega] at this
   refine ⟨nofun, C, _, hK, ⟨by rw [hB]; exact hI.wr, ?_, hI.df, hI.du, hI.sz⟩, by rw [hB]; exact hI.ext⟩
   intro t x hx
   rcases Z3j ops.size hx with ⟨j, h1, h2, rfl⟩ | ⟨h1, h2⟩
   ·exact hI.sl1 j t h1 (hall j h1) h2
   ·exact hI.sl0 t x h1 h2
 | succ fuel ih =>
  intro listed cur a w C hls hleft hI
  refine ⟨fun hnil => ?_, fun i hi => ?_⟩
  ·exfalso
   obtain ⟨i, h1, h2, h3⟩ := Zaz (ops := ops) (listed := listed) (by omega)
   have : i ∈ Region.ready .any ops listed := by
    rw [mem_ready]
    refine ⟨?_, ops[i], Array.getElem?_eq_getElem h1, ?_⟩
    ·simp [hls, h1] at h2 ⊢; exact h2
    ·intro e he hbd
     have := List.all_eq_true.1 hE i (List.mem_range.2 h1)
     rw [Array.getElem?_eq_getElem h1] at this
     have h5 := Array.all_eq_true_iff_forall_mem.1 this e he
     rw [hbd, Bool.not_true, Bool.false_or, Nat.blt_eq] at h5
     exact h3 e.on h5
   rw [hnil] at this; cases this
  ·obtain ⟨h3, o, ho, hdeps⟩ := mem_ready.1 hi
   have hlt : i < ops.size := (Array.getElem?_eq_some_iff.1 ho).1
   have hunl : listed.getD i false = false := by simp [hls, hlt] at h3 ⊢; exact h3
   obtain ⟨o', ho', hd, hgood⟩ := hg i hlt
   rw [ho] at ho'; cases ho'
   have hanc : ∀ j, anc ops i i j = true → listed.getD j false = true := fun j hj => Z1i hI.dn i i j o ho hdeps hj
   have hLi := List.all_eq_true.1 hL i (List.mem_range.2 hlt)
   simp only [ho] at hLi
   have hlook : ∀ t x, t ∈ o.looksAt ops → lk (TT ops ys s.T i) t = some x → ∃ v, a.tmps[t]? = some v ∧ VR C x v := by
    intro t x htl' hx
    have h5 := List.all_eq_true.1 hLi t htl'
    have h6 : ∀ j, j < ops.size → (ops[j]?).bind (·.dst) = some t → j < i ∧ listed.getD j false = true := by
     intro j hj hjt
     have h7 := List.all_eq_true.1 h5 j (List.mem_range.2 hj)
     rw [hjt] at h7
     simp only [beq_self_eq_true, Bool.not_true, Bool.false_or, Bool.and_eq_true, Nat.blt_eq] at h7
     exact ⟨h7.1, hanc j (hcert i hlt j h7.1 h7.2)⟩
    rcases Z3j i hx with ⟨j, h7, h8, rfl⟩ | ⟨h7, h8⟩
    ·exact hI.sl1 j t (by omega) (h6 j (by omega) h8).2 h8
    ·refine hI.sl0 t x h7 (fun j hj hjt => ?_)
     exact h8 j (h6 j hj hjt).1 hjt
   have hwant : ∀ b, Wanted ops (TT ops ys s.T i) o b → Region.wanted o (yielded ops a.tmps) = b := by
    intro b hb
    rcases hb with ⟨h, rfl⟩ | ⟨g, c, d, og, t, h1, h2, h4, ⟨h5, h6⟩ | ⟨h5, rfl⟩⟩
    ·simp [Region.wanted, h]
    ·obtain ⟨v, h7, h8⟩ := hlook t _ (Z2j h1 h2 h4) h5
     have := VR.val h8
     subst this
     have hy : yielded ops a.tmps g = some d := by
      have hb : (ops[g]?.bind fun x => x.dst) = some t := by rw [h2]; exact h4
      have hb2 : ((ops[g]?.bind fun x => x.dst).bind fun x => a.tmps[x]?) = some (.bool d) := by rw [hb]; exact h7
      unfold yielded
      rw [hb2]
     rw [← h6]
     cases d <;> cases c <;> simp [Region.wanted, h1, hy]
    ·obtain ⟨v, h7, h8⟩ := hlook t _ (Z2j h1 h2 h4) h5
     have := VR.val h8
     subst this
     have hy : yielded ops a.tmps g = none := by
      have hb : (ops[g]?.bind fun x => x.dst) = some t := by rw [h2]; exact h4
      have hb2 : ((ops[g]?.bind fun x => x.dst).bind fun x => a.tmps[x]?) = some undef := by rw [hb]; exact h7
      unfold yielded
      rw [hb2]
      rfl
     simp [Region.wanted, h1, hy]
   have hdst : ∀ j t, j < ops.size → j ≠ i → o.dst = some t → (ops[j]?).bind (·.dst) ≠ some t := by
    intro j t hj hne hot hjt
    have hbi : (ops[i]?).bind (·.dst) = some t := by rw [ho]; exact hot
    rcases Nat.lt_or_ge j i with h | h
    ·have h5 := List.all_eq_true.1 (List.all_eq_true.1 hD i (List.mem_range.2 hlt)) j (List.mem_range.2 h)
     rw [hbi, hjt] at h5; simp at h5
    ·have h5 := List.all_eq_true.1 (List.all_eq_true.1 hD j (List.mem_range.2 hj)) i (List.mem_range.2 (by omega))
     rw [hbi, hjt] at h5; simp at h5
   have hset : ∀ j, (listed.setIfInBounds i true).getD j false = if j = i then true else listed.getD j false := by
    intro j
    by_cases e : j = i
    ·subst e; have : j < listed.size := by omega
     simp [this]
    ·rw [if_neg e, getD_set_ne _ (Ne.symm e)]
   have hops : ∀ p, p ∈ o.op.operands → ∀ y, ev (TT ops ys s.T i) p = some y → VR C y (a.eval p) := by
    intro p hp y hy
    cases p with
    | tmp t =>
     obtain ⟨v, h5, h6⟩ := hlook t y (Z5w hp) hy
     have e : a.eval (.tmp t) = v := by simp [Act.eval, h5]
     rw [e]; exact h6
    | const c => cases hy; exact .v c
    | func f => cases hy; exact .fn _ [] #[] rfl (by intro i c x h; simp at h)
    | global g => cases hy
   -- behind it
   have next : ∀ (cur' : Nat) (v : Value) (w1 : World) (C1 : Ctx), VR C1 (ys i) v → WR C1 (B cur') w1 → Ext Z C (B cur) w C1 (B cur') w1 → cur' ≤ ops.size →
     (∀ u, ws.contains u = true → u < ops.size → ((listed.setIfInBounds i true).getD u false = true ↔ u < cur')) →
     wpAnyIn (Wd ro) 0 P .any ops (Post Z C0 H0 w0 Q) fuel (listed.setIfInBounds i true) (a.put o.dst v) w1 := by
    intro cur' v w1 C1 hv hw1 he1 hcs hlw
    refine ih _ cur' _ _ C1 (by simpa using hls) (by have := Z47 hlt hls hunl; omega) ?_
    refine ⟨hw1, ?_, ?_, ?_, fun j hj => he1.le.U j (hI.du j hj), ?_, hI.ext.trans he1, ?_, hlw, hcs⟩
    ·intro t x hx hno
     obtain ⟨u, h5, h6⟩ := hI.sl0 t x hx hno
     refine ⟨u, ?_, h6.mono he1.le⟩
     cases hod : o.dst with
     | none => exact h5
     | some d =>
      have hne : d ≠ t := by
       rintro rfl
       exact hno i hlt (by rw [ho]; exact hod)
      simpa [Act.put, Array.getElem?_setIfInBounds_ne hne] using h5
    ·intro j t hj hlj hjt
     by_cases e : j = i
     ·subst e
      have hod : o.dst = some t := by rw [ho] at hjt; exact hjt
      refine ⟨v, ?_, hv⟩
      have := Z0t hd t hod
      rw [← hI.sz] at this
      simp [Act.put, hod, this]
     ·rw [hset, if_neg e] at hlj
      obtain ⟨u, h5, h6⟩ := hI.sl1 j t hj hlj hjt
      refine ⟨u, ?_, h6.mono he1.le⟩
      cases hod : o.dst with
      | none => exact h5
      | some d =>
       have hne : d ≠ t := by
        rintro rfl
        exact hdst j d hj e hod hjt
       simpa [Act.put, Array.getElem?_setIfInBounds_ne hne] using h5
    ·have e1 : (a.put o.dst v).defers = a.defers := by cases o.dst <;> rfl
     rw [e1, hI.df]
     exact List.map_congr_left fun j hj => by simp [mark, he1.le.m j (hI.du j hj), he1.le.df j (hI.du j hj)]
    ·have e1 : (a.put o.dst v).tmps.size = a.tmps.size := by cases o.dst <;> simp [Act.put]
     rw [e1]; exact hI.sz
    ·intro j o2 ho2 hlj e he hb
     rw [hset]
     split
     ·rfl
     ·by_cases e2 : j = i
      ·subst e2; rw [ho] at ho2; cases ho2; exact hdeps e he hb
      ·rw [hset, if_neg e2] at hlj; exact hI.dn j o2 ho2 hlj e he hb
   have hlw0 : ws.contains i = false → ∀ u, ws.contains u = true → u < ops.size → ((listed.setIfInBounds i true).getD u false = true ↔ u < cur) := by
    intro hw u hu hus
    have : u ≠ i := fun e => by rw [e, hw] at hu; cases hu
    rw [hset, if_neg this]; exact hI.lw u hu hus
   unfold wpOpIn
   simp only [ho]
   rcases hgood with ⟨hwi, hBi, ⟨hw, hx⟩ | ⟨hw, Hn, heff, hHn, hrd⟩⟩ | ⟨hwi, hw, hx, heff⟩
   ·rw [hwant false hw]
    simp only [Bool.false_eq_true, if_false]
    exact ⟨fun _ _ => trivial, next cur undef w C (by rw [hx]; exact .v undef) hI.wr (.refl ..) hI.lc (hlw0 hwi)⟩
   ·rw [hwant true hw]
    simp only [if_true]
    refine ⟨fun _ _ => trivial, ?_⟩
    refine heff Z C (B cur) a w hI.wr ?_ hops nofun List.nodup_nil (fun _ _ => by simp) ro _ _ (fun v w1 C1 hv hw1 he1 => next cur v w1 C1 hv hw1 he1 hI.lc (hlw0 hwi))
    intro p hp
    rcases hrd with h | h
    ·subst h; cases hp
    ·have hno : ∀ j, j < cur → ws.contains j = false := by
      intro j hj
      cases hwj : ws.contains j with
      | false => rfl
      | true =>
       have hjs := hwsz j hwj
       have hlj := (hI.lw j hwj hjs).2 hj
       have hoj := Array.getElem?_eq_getElem hjs
       have := Z1i hI.dn j j i _ hoj (fun e he hb => hI.dn j _ hoj hlj e he hb) (hrw j i hwj h)
       rw [hunl] at this; cases this
     have e := Zf5 hBs cur 0 (by have := hI.lc; omega) (fun j _ h2 => hno j (by omega))
     rw [Nat.zero_add] at e
     rw [e]; exact hHn p hp
   ·rw [hwant true hw]
    simp only [if_true]
    refine ⟨fun _ _ => trivial, ?_⟩
    have hge : cur ≤ i := Nat.le_of_not_lt fun h => by
     have := (hI.lw i hwi hlt).2 h
     rw [hunl] at this; cases this
    have hBi : B i = B cur := by
     have := Zf5 hBs (i - cur) cur (by omega) (fun j h1 h2 => by
      cases hwj : ws.contains j with
      | false => rfl
      | true =>
       have := hanc j (hww i j hwi hwj (by omega))
       have := (hI.lw j hwj (hwsz j hwj)).1 this
       omega)
     rwa [show cur + (i - cur) = i from by omega] at this
    rw [hBi] at heff
    refine heff Z C a w hI.wr hops ro _ _ (fun v w1 C1 hv hw1 he1 => next (i + 1) v w1 C1 (by rw [hx]; exact hv) hw1 he1 (by omega) ?_)
    intro u hu hus
    rw [hset]
    by_cases e : u = i
    ·subst e; simp
    ·rw [if_neg e]
     constructor
     ·intro h; have := (hI.lw u hu hus).1 h; omega
     ·intro h; exact hanc u (hww i u hwi hu (by omega))
theorem Z0m {P : Program} {ro : Option Nat} {Q : Exit → St → Prop} {s : St} {id : Nat} {l : List Oper} (ms ws rs : List Nat) (hm : P.follows .mixedOrders = true) (ht : tidyW l.toArray ms ws rs = true)
  (h : WCalm P l.toArray s.H ws rs (Q .normal) 0 l s) : AWp P ro (.region id l.toArray true) Q s := by
 intro Z C0 H0 w0 C a w he hs
 refine wpIn_region_any hm ?_
 obtain ⟨ys, B, h0, h1, h2⟩ := h.tell (T0 := s.T) (D := s.D) (n := s.n) (fun _ => .v undef) (fun _ => s.H) (by simp) rfl rfl (fun i hi => absurd hi (Nat.not_lt_zero _))
 simp only [Nat.zero_add] at h1 h2
 have hw1 : WR C s.H { w with drawn := w.drawn + 1 } := ⟨hs.wr.hp, hs.wr.nd, fun i o hi => ⟨(hs.wr.ids i o hi).1, (hs.wr.ids i o hi).2.keep (.refl C) (hs.wr.ids i o hi).1 (fun _ _ _ => rfl)⟩, hs.wr.inj, hs.wr.dis⟩
 have he1 : Ext Z C0 H0 w0 C s.H { w with drawn := w.drawn + 1 } := ⟨he.le, he.av, he.os, he.tape, he.output, he.size, he.fr, he.nhp, he.nbl, he.nid⟩
 have hf : ∀ i, (Array.replicate l.toArray.size false).getD i false = false := by
  intro i
  rw [Array.getD_eq_getD_getElem?, Array.getElem?_replicate]
  split <;> rfl
 refine Zix (ys := ys) (B := B) (s := s) (cur := 0) ht (by simpa using h1) (by simpa using h2) l.toArray.size _ _ _ C (by simp) ?_ ?_
 ·unfold left
  rw [List.filter_eq_self.2 (fun i _ => by rw [hf]; rfl), List.length_range]
 ·refine ⟨by rw [h0]; exact hw1, fun t x hx _ => hs.sl t x hx, fun j t _ hj => (by rw [hf] at hj; cases hj), hs.df, hs.du, hs.sz, by rw [h0]; exact he1, fun i o _ hi => (by rw [hf] at hi; cases hi), fun v _ _ => by rw [hf]; simp, Nat.zero_le _⟩
section
variable {P : Program} {ops : Array Oper} {o : Oper} {rest : List Oper} {H0 : AHeap} {ws rs : List Nat} {K : St → Prop} {k : Nat} {s : St}
theorem Z8 {x : AV} (hw : Wanted ops s.T o true) (hd : dok o.dst s.n = true) (he : Eff P o s.T [] x []) (hk : ws.contains k = false) (h : WCalm P ops H0 ws rs K (k + 1) rest { s with T := put s.T o.dst x }) : WCalm P ops H0 ws rs K k (o :: rest) s :=
 .eff [] x hw hd he nofun (.inl rfl) hk h
theorem Zk {t : TypeId} {p : Operand} {id sz i c el : Nat} {es : List (List AV)} {e : List AV} {x : AV} (j : Nat) (hw : Wanted ops s.T o true) (hd : dok o.dst s.n = true)
  (ho : o.op = .load t p) (hp : ev s.T p = some (.ptr id sz i c)) (hH : H0[j]? = some (id, .rows el sz es)) (he : es[i]? = some e) (hl : Ld P t (e.drop c) x) (hr : rs.contains k = true) (hk : ws.contains k = false)
  (h : WCalm P ops H0 ws rs K (k + 1) rest { s with T := put s.T o.dst x }) : WCalm P ops H0 ws rs K k (o :: rest) s :=
 .eff [(id, .rows el sz es)] x hw hd (Z26 ho hp ⟨el, es, e, List.mem_cons_self, he, rfl⟩ hl) (fun p hp => by rw [List.mem_singleton.1 hp]; exact List.mem_of_getElem? hH) (.inr hr) hk h
theorem Zq {t n id el i : Nat} {b : Bool} {p q : Operand} {l : List ByteArray} {x : ByteArray} (j : Nat) [kt : TK P t b n] (hn1 : n = 1) (hw : Wanted ops s.T o true) (hd : dok o.dst s.n = true)
  (ho : o.op = .store t p q) (hp : ev s.T p = some (.ptr id 1 i 0)) (hH : s.H[j]? = some (id, .rows el 1 (l.map fun x => [AV.v (.string x)]))) (hi : i < l.length) (hq : ev s.T q = some (.v (.string x))) (hk : ws.contains k = true)
  (h : WCalm P ops H0 ws rs K (k + 1) rest { s with T := put s.T o.dst (.v undef), H := s.H.set j (id, .rows el 1 ((l.set i x).map fun x => [AV.v (.string x)])) }) : WCalm P ops H0 ws rs K k (o :: rest) s :=
 .write _ hw hd (Z9i j hn1 ho hp hH hi hq) hk h
end
end Go.Sx
namespace Go.Sx
open Go
def EffA (P : Program) (o : Oper) (T : List (Nat × AV)) (H : AHeap) (x : AV) (H' : AHeap) (id : Nat) : Prop :=
 ∀ Z C a w, WR C H w → (∀ p, p ∈ o.op.operands → ∀ y, ev T p = some y → VR C y (a.eval p)) → id ∉ C.U → id ∉ Z →
  ∀ ro next R, (∀ v w1 C1, VR C1 x v → WR C1 H' w1 → Ext Z C H w C1 H' w1 → next (a.put o.dst v) w1) → o.uponIn (Wd ro) 0 P a next R ((o.semAt ro a.eval).run P w)
inductive VCalm (P : Program) (ops : Array Oper) (H0 : AHeap) (ws rs : List Nat) (K : St → Prop) : Nat → List Oper → List (Nat × (Nat × AObj)) → AHeap → St → Prop
 | done {k : Nat} {M : List (Nat × (Nat × AObj))} {S : AHeap} {s : St} (h : K s) : VCalm P ops H0 ws rs K k [] M S s
 | keep {k : Nat} {l : List Oper} {M : List (Nat × (Nat × AObj))} {S : AHeap} {s : St} (p : Nat × AObj) (hp : p ∈ s.H) (hf : (ws.all fun w => Nat.ble k w) = true) (h : VCalm P ops H0 ws rs K k l M (p :: S) s) : VCalm P ops H0 ws rs K k l M S s
 | eff {k : Nat} {o : Oper} {r : List Oper} {M : List (Nat × (Nat × AObj))} {S : AHeap} {s : St} (Hn : AHeap) (x : AV) (hw : Wanted ops s.T o true) (hd : dok o.dst s.n = true) (he : Eff P o s.T Hn x []) (hk : ws.contains k = false)
   (hn : ∀ p, p ∈ Hn → p ∈ H0 ∨ ∃ j, (j, p) ∈ M ∧ anc ops k k j = true) (hr : Hn = [] ∨ rs.contains k = true ∨ ∀ p, p ∈ Hn → p ∈ S)
   (h : VCalm P ops H0 ws rs K (k + 1) r M S { s with T := put s.T o.dst x }) : VCalm P ops H0 ws rs K k (o :: r) M S s
 | eff1 {k : Nat} {o : Oper} {r : List Oper} {M : List (Nat × (Nat × AObj))} {S : AHeap} {s : St} (x : Nat → AV) (ob : Nat → AObj) (hw : Wanted ops s.T o true) (hd : dok o.dst s.n = true) (he : ∀ id, Eff P o s.T [] (x id) [(id, ob id)]) (hk : rs.contains k = true) (hk2 : ws.contains k = false)
   (h : ∀ id, VCalm P ops H0 ws rs K (k + 1) r ((k, (id, ob id)) :: M) S { s with T := put s.T o.dst (x id), H := (id, ob id) :: s.H }) : VCalm P ops H0 ws rs K k (o :: r) M S s
 | off {k : Nat} {o : Oper} {r : List Oper} {M : List (Nat × (Nat × AObj))} {S : AHeap} {s : St} (hw : Wanted ops s.T o false) (hd : dok o.dst s.n = true) (hk : ws.contains k = false)
   (h : VCalm P ops H0 ws rs K (k + 1) r M S { s with T := put s.T o.dst (.v undef) }) : VCalm P ops H0 ws rs K k (o :: r) M S s
 | write {k : Nat} {o : Oper} {r : List Oper} {M : List (Nat × (Nat × AObj))} {S : AHeap} {s : St} (H' : AHeap) (hw : Wanted ops s.T o true) (hd : dok o.dst s.n = true) (he : EffW P o s.T s.H H') (hk : ws.contains k = true) (hS : ∀ p, p ∈ S → p ∈ H')
   (h : VCalm P ops H0 ws rs K (k + 1) r M S { s with T := put s.T o.dst (.v undef), H := H' }) : VCalm P ops H0 ws rs K k (o :: r) M S s
 | app {k : Nat} {o : Oper} {r : List Oper} {M : List (Nat × (Nat × AObj))} {S : AHeap} {s : St} (x : Nat → AV) (H' : Nat → AHeap) (hw : Wanted ops s.T o true) (hd : dok o.dst s.n = true) (he : ∀ id, EffA P o s.T s.H (x id) (H' id) id) (hk : ws.contains k = true) (hS : ∀ id p, p ∈ S → p ∈ H' id)
   (h : ∀ id, VCalm P ops H0 ws rs K (k + 1) r M S { s with T := put s.T o.dst (x id), H := H' id }) : VCalm P ops H0 ws rs K k (o :: r) M S s
def GV (P : Program) (ops : Array Oper) (ws rs : List Nat) (T : List (Nat × AV)) (os : Nat → AHeap) (H0 S : AHeap) (i : Nat) (o : Oper) (x : AV) (obs B B' : AHeap) : Prop :=
 (ws.contains i = false ∧ obs = [] ∧ B' = B ∧ ((Wanted ops T o false ∧ x = .v undef) ∨
  (Wanted ops T o true ∧ ∃ Hn, Eff P o T Hn x [] ∧ (∀ p, p ∈ Hn → p ∈ H0 ∨ ∃ j, j < i ∧ p ∈ os j ∧ anc ops i i j = true) ∧ (Hn = [] ∨ rs.contains i = true ∨ ∀ p, p ∈ Hn → p ∈ S)))) ∨
 (ws.contains i = false ∧ rs.contains i = true ∧ B' = obs ++ B ∧ Wanted ops T o true ∧ Eff P o T [] x obs) ∨
 (ws.contains i = true ∧ obs = [] ∧ Wanted ops T o true ∧ x = .v undef ∧ EffW P o T B B') ∨
 (ws.contains i = true ∧ Wanted ops T o true ∧ ∃ id, obs = [(id, .rows 0 0 [])] ∧ EffA P o T B x B' id)
theorem GV.mono {P : Program} {ops : Array Oper} {ws rs : List Nat} {T : List (Nat × AV)} {os ps : Nat → AHeap} {H0 S S' : AHeap} {i : Nat} {o : Oper} {x : AV} {obs B B' : AHeap} (hS : ∀ p, p ∈ S → p ∈ S') (ho : ∀ j, j < i → ps j = os j)
  (h : GV P ops ws rs T os H0 S i o x obs B B') : GV P ops ws rs T ps H0 S' i o x obs B B' := by
 rcases h with ⟨h1, h2, h3, h4 | ⟨h4, Hn, h5, h6, h7⟩⟩ | h | h | h
 ·exact .inl ⟨h1, h2, h3, .inl h4⟩
 ·refine .inl ⟨h1, h2, h3, .inr ⟨h4, Hn, h5, fun p hp => (h6 p hp).imp id (fun ⟨j, a, b, c⟩ => ⟨j, a, by rw [ho j a]; exact b, c⟩), h7.imp id (fun h => h.imp id (fun h p hp => hS p (h p hp)))⟩⟩
 ·exact .inr (.inl h)
 ·exact .inr (.inr (.inl h))
 ·exact .inr (.inr (.inr h))
def GoodV (P : Program) (ops : Array Oper) (n : Nat) (ws rs : List Nat) (xs : Nat → AV) (os B : Nat → AHeap) (T0 : List (Nat × AV)) (H0 S : AHeap) (i : Nat) : Prop :=
 ∃ o, ops[i]? = some o ∧ dok o.dst n = true ∧ GV P ops ws rs (TT ops xs T0 i) os H0 S i o (xs i) (os i) (B i) (B (i + 1))
theorem GoodV.congr {P : Program} {ops : Array Oper} {n : Nat} {ws rs : List Nat} {xs ys : Nat → AV} {os ps B E : Nat → AHeap} {T0 : List (Nat × AV)} {H0 S S' : AHeap} {i : Nat} (h1 : ∀ j, j ≤ i → ys j = xs j) (h2 : ∀ j, j ≤ i → ps j = os j) (h3 : ∀ j, j ≤ i + 1 → E j = B j) (hS : ∀ p, p ∈ S → p ∈ S')
  (h : GoodV P ops n ws rs xs os B T0 H0 S i) : GoodV P ops n ws rs ys ps E T0 H0 S' i := by
 obtain ⟨o, ho, hd, h⟩ := h
 refine ⟨o, ho, hd, ?_⟩
 rw [Z0p (ops := ops) (T0 := T0) i (fun j hj => h1 j (by omega)), h1 i (Nat.le_refl _), h2 i (Nat.le_refl _), h3 i (by omega), h3 (i + 1) (Nat.le_refl _)]
 exact h.mono hS (fun j hj => h2 j (by omega))
structure ToldV (P : Program) (ops : Array Oper) (n : Nat) (ws rs : List Nat) (T0 : List (Nat × AV)) (H0 : AHeap) (L : List Nat) (k : Nat) (S : AHeap) (xs : Nat → AV) (os B : Nat → AHeap) : Prop where
 b0 : B 0 = H0
 g : ∀ i, i < k → GoodV P ops n ws rs xs os B T0 H0 S i
 fr : ∀ i p, i < k → p ∈ os i → p.1 ∉ L
 di : ∀ i j p q, i < k → j < k → p ∈ os i → q ∈ os j → p.1 = q.1 → i = j
 nd : ∀ i, i < k → ((os i).map Prod.fst).Nodup
 s : ∀ p, p ∈ S → ∀ c, (∃ v, ws.contains v = true ∧ v < c) → c ≤ k → p ∈ B c
theorem ToldV.adv {P : Program} {ops : Array Oper} {n : Nat} {ws rs : List Nat} {T0 : List (Nat × AV)} {H0 : AHeap} {L : List Nat} {k : Nat} {S : AHeap} {xs : Nat → AV} {os B : Nat → AHeap} (h : ToldV P ops n ws rs T0 H0 L k S xs os B)
  {o : Oper} (ho : ops[k]? = some o) (hd : dok o.dst n = true) (x : AV) (obs H' : AHeap) (hg : GV P ops ws rs (TT ops xs T0 k) os H0 S k o x obs (B k) H') (hS : ∀ p, p ∈ S → p ∈ H')
  (h1 : ∀ p, p ∈ obs → p.1 ∉ L) (h2 : ∀ i p q, i < k → p ∈ os i → q ∈ obs → p.1 ≠ q.1) (h3 : (obs.map Prod.fst).Nodup) :
  ∃ (ys : Nat → AV) (ps E : Nat → AHeap), ToldV P ops n ws rs T0 H0 L (k + 1) S ys ps E ∧ TT ops ys T0 (k + 1) = put (TT ops xs T0 k) o.dst x ∧ E (k + 1) = H' ∧ (∀ i, i < k → ps i = os i) ∧ ps k = obs := by
 let ys : Nat → AV := fun i => if i = k then x else xs i
 let ps : Nat → AHeap := fun i => if i = k then obs else os i
 let E : Nat → AHeap := fun i => if i = k + 1 then H' else B i
 have e1 : ∀ i, i < k → ys i = xs i := fun i hi => if_neg (by omega)
 have e2 : ∀ i, i < k → ps i = os i := fun i hi => if_neg (by omega)
 have e3 : ∀ i, i ≤ k → E i = B i := fun i hi => if_neg (by omega)
 have e4 : ys k = x := if_pos rfl
 have e5 : ps k = obs := if_pos rfl
 have e6 : E (k + 1) = H' := if_pos rfl
 have et : TT ops ys T0 k = TT ops xs T0 k := Z0p k e1
 refine ⟨ys, ps, E, ⟨(e3 0 (Nat.zero_le _)).trans h.b0, ?_, ?_, ?_, ?_, ?_⟩, ?_, e6, e2, e5⟩
 ·intro i hi
  rcases Nat.lt_or_ge i k with hlt | hge
  ·exact (h.g i hlt).congr (fun j hj => e1 j (by omega)) (fun j hj => e2 j (by omega)) (fun j hj => e3 j (by omega)) (fun _ h => h)
  ·have e : i = k := by omega
   subst e
   refine ⟨o, ho, hd, ?_⟩
   rw [et, e4, e5, e6, e3 i (Nat.le_refl _)]
   exact hg.mono (fun _ h => h) e2
 ·intro i p hi hp
  rcases Nat.lt_or_ge i k with hlt | hge
  ·rw [e2 i hlt] at hp; exact h.fr i p hlt hp
  ·have e : i = k := by omega
   subst e; rw [e5] at hp; exact h1 p hp
 ·intro i j p q hi hj hp hq hpq
  rcases Nat.lt_or_ge i k with hlt | hge <;> rcases Nat.lt_or_ge j k with hlt' | hge'
  ·rw [e2 i hlt] at hp; rw [e2 j hlt'] at hq; exact h.di i j p q hlt hlt' hp hq hpq
  ·have e : j = k := by omega
   subst e; rw [e5] at hq; rw [e2 i hlt] at hp; exact (h2 i p q hlt hp hq hpq).elim
  ·have e : i = k := by omega
   subst e; rw [e5] at hp; rw [e2 j hlt'] at hq; exact (h2 j q p hlt' hq hp hpq.symm).elim
  ·omega
 ·intro i hi
  rcases Nat.lt_or_ge i k with hlt | hge
  ·rw [e2 i hlt]; exact h.nd i hlt
  ·have e : i = k := by omega
   subst e; rw [e5]; exact h3
 ·intro p hp c hv hc
  rcases Nat.lt_or_ge k c with hlt | hge
  ·have e : c = k + 1 := by omega
   subst e; rw [e6]; exact hS p hp
  ·rw [e3 c hge]; exact h.s p hp c hv hge
 ·simp only [TT, ho, Option.bind_some]
  rw [e4, et]
theorem VCalm.tell {P : Program} {ops : Array Oper} {H0 : AHeap} {ws rs : List Nat} {K : St → Prop} {T0 : List (Nat × AV)} {D : List Nat} {n : Nat} (L : List Nat) {k : Nat} {l : List Oper} {M : List (Nat × (Nat × AObj))} {S : AHeap} {s : St} (h : VCalm P ops H0 ws rs K k l M S s) :
  ∀ (xs : Nat → AV) (os B : Nat → AHeap), ToldV P ops n ws rs T0 H0 L k S xs os B → ops.toList.drop k = l → s = ⟨TT ops xs T0 k, B k, D, n⟩ → (∀ j p, (j, p) ∈ M → j < k ∧ p ∈ os j) → (∀ p, p ∈ S → p ∈ B k) →
   ∃ (ys : Nat → AV) (ps E : Nat → AHeap) (S' : AHeap), ToldV P ops n ws rs T0 H0 L (k + l.length) S' ys ps E ∧ K ⟨TT ops ys T0 (k + l.length), E (k + l.length), D, n⟩ := by
 induction h with
 | done h =>
  intro xs os B hT hl hs hM hS
  subst hs
  exact ⟨xs, os, B, _, hT, h⟩
 | @keep k l M S s p hp hf h ih =>
  intro xs os B hT hl hs hM hS
  subst hs
  refine ih xs os B ⟨hT.b0, fun i hi => (hT.g i hi).congr (fun _ _ => rfl) (fun _ _ => rfl) (fun _ _ => rfl) (fun q hq => List.mem_cons_of_mem _ hq), hT.fr, hT.di, hT.nd, ?_⟩ hl rfl hM ?_
  ·intro q hq c hv hc
   rcases List.mem_cons.1 hq with rfl | hq
   ·obtain ⟨v, hv, hvc⟩ := hv
    have := List.all_eq_true.1 hf v (by simpa using hv)
    have := Nat.le_of_ble_eq_true this
    omega
   ·exact hT.s q hq c hv hc
  ·intro q hq
   rcases List.mem_cons.1 hq with rfl | hq
   ·exact hp
   ·exact hS q hq
 | @eff k o r M S s Hn x hw hd he hk hn hr h ih =>
  intro xs os B hT hl hs hM hS
  subst hs
  obtain ⟨h1, h2⟩ := Z08 hl
  have ho : ops[k]? = some o := by rw [← Array.getElem?_toList]; exact h1
  obtain ⟨ys, ps, E, g1, g2, g3, g4, g5⟩ := hT.adv ho hd x [] (B k) (.inl ⟨hk, rfl, rfl, .inr ⟨hw, Hn, he, fun p hp => (hn p hp).imp id (fun ⟨j, a, b⟩ => ⟨j, (hM j p a).1, (hM j p a).2, b⟩), hr⟩⟩) hS nofun (fun _ _ _ _ _ h => nomatch h) List.nodup_nil
  rw [show k + (o :: r).length = k + 1 + r.length by simp; omega]
  exact ih ys ps E g1 h2 (by rw [g2, g3]) (fun j p hp => ⟨by have := (hM j p hp).1; omega, by rw [g4 j (hM j p hp).1]; exact (hM j p hp).2⟩) (by rw [g3]; exact hS)
 | @eff1 k o r M S s x ob hw hd he hk hk2 h ih =>
  intro xs os B hT hl hs hM hS
  subst hs
  obtain ⟨h1, h2⟩ := Z08 hl
  have ho : ops[k]? = some o := by rw [← Array.getElem?_toList]; exact h1
  obtain ⟨id, hid⟩ := Z9s (L ++ ((List.range k).flatMap fun i => (os i).map Prod.fst))
  rw [List.mem_append, not_or] at hid
  obtain ⟨ys, ps, E, g1, g2, g3, g4, g5⟩ := hT.adv ho hd (x id) [(id, ob id)] ((id, ob id) :: B k) (.inr (.inl ⟨hk2, hk, rfl, hw, he id⟩)) (fun p hp => List.mem_cons_of_mem _ (hS p hp)) (fun p hp => by rw [List.mem_singleton.1 hp]; exact hid.1)
   (fun i p q hi hp hq e => by rw [List.mem_singleton.1 hq] at e; exact hid.2 (List.mem_flatMap.2 ⟨i, List.mem_range.2 hi, List.mem_map.2 ⟨p, hp, e⟩⟩)) (by simp)
  rw [show k + (o :: r).length = k + 1 + r.length by simp; omega]
  refine ih id ys ps E g1 h2 (by rw [g2, g3]) ?_ (by rw [g3]; exact fun p hp => List.mem_cons_of_mem _ (hS p hp))
  intro j p hp
  rcases List.mem_cons.1 hp with hp | hp
  ·cases hp; exact ⟨by omega, by rw [g5]; exact List.mem_cons_self⟩
  ·exact ⟨by have := (hM j p hp).1; omega, by rw [g4 j (hM j p hp).1]; exact (hM j p hp).2⟩
 | @off k o r M S s hw hd hk h ih =>
  intro xs os B hT hl hs hM hS
  subst hs
  obtain ⟨h1, h2⟩ := Z08 hl
  have ho : ops[k]? = some o := by rw [← Array.getElem?_toList]; exact h1
  obtain ⟨ys, ps, E, g1, g2, g3, g4, g5⟩ := hT.adv ho hd (.v undef) [] (B k) (.inl ⟨hk, rfl, rfl, .inl ⟨hw, rfl⟩⟩) hS nofun (fun _ _ _ _ _ h => nomatch h) List.nodup_nil
  rw [show k + (o :: r).length = k + 1 + r.length by simp; omega]
  exact ih ys ps E g1 h2 (by rw [g2, g3]) (fun j p hp => ⟨by have := (hM j p hp).1; omega, by rw [g4 j (hM j p hp).1]; exact (hM j p hp).2⟩) (by rw [g3]; exact hS)
 | @write k o r M S s H' hw hd he hk hS' h ih =>
  intro xs os B hT hl hs hM hS
  subst hs
  obtain ⟨h1, h2⟩ := Z08 hl
  have ho : ops[k]? = some o := by rw [← Array.getElem?_toList]; exact h1
  obtain ⟨ys, ps, E, g1, g2, g3, g4, g5⟩ := hT.adv ho hd (.v undef) [] H' (.inr (.inr (.inl ⟨hk, rfl, hw, rfl, he⟩))) hS' nofun (fun _ _ _ _ _ h => nomatch h) List.nodup_nil
  rw [show k + (o :: r).length = k + 1 + r.length by simp; omega]
  exact ih ys ps E g1 h2 (by rw [g2, g3]) (fun j p hp => ⟨by have := (hM j p hp).1; omega, by rw [g4 j (hM j p hp).1]; exact (hM j p hp).2⟩) (by rw [g3]; exact hS')
 | @app k o r M S s x H' hw hd he hk hS' h ih =>
  intro xs os B hT hl hs hM hS
  subst hs
  obtain ⟨h1, h2⟩ := Z08 hl
  have ho : ops[k]? = some o := by rw [← Array.getElem?_toList]; exact h1
  obtain ⟨id, hid⟩ := Z9s (L ++ ((List.range k).flatMap fun i => (os i).map Prod.fst))
  rw [List.mem_append, not_or] at hid
  obtain ⟨ys, ps, E, g1, g2, g3, g4, g5⟩ := hT.adv ho hd (x id) [(id, .rows 0 0 [])] (H' id) (.inr (.inr (.inr ⟨hk, hw, id, rfl, he id⟩))) (hS' id) (fun p hp => by rw [List.mem_singleton.1 hp]; exact hid.1)
   (fun i p q hi hp hq e => by rw [List.mem_singleton.1 hq] at e; exact hid.2 (List.mem_flatMap.2 ⟨i, List.mem_range.2 hi, List.mem_map.2 ⟨p, hp, e⟩⟩)) (by simp)
  rw [show k + (o :: r).length = k + 1 + r.length by simp; omega]
  exact ih id ys ps E g1 h2 (by rw [g2, g3]) (fun j p hp => ⟨by have := (hM j p hp).1; omega, by rw [g4 j (hM j p hp).1]; exact (hM j p hp).2⟩) (by rw [g3]; exact hS' id)
def hpF (N : Nat) (ps : Nat → AHeap) (H0 : AHeap) (B : Nat → AHeap) (listed : Array Bool) (cur : Nat) : AHeap :=
 if cur = 0 then (List.range N).flatMap (fun j => if listed.getD j false = true then ps j else []) ++ H0 else B cur
structure InvV (P : Program) (ops : Array Oper) (ws : List Nat) (ys : Nat → AV) (ps B : Nat → AHeap) (cur : Nat) (s : St) (Z : List Nat) (C0 : Ctx) (H0 : AHeap) (w0 : World) (listed : Array Bool) (a : Act) (w : World) (C : Ctx) : Prop where
 wr : WR C (hpF ops.size ps s.H B listed cur) w
 sl0 : ∀ t x, lk s.T t = some x → (∀ j, j < ops.size → listed.getD j false = true → (ops[j]?).bind (·.dst) ≠ some t) → ∃ v, a.tmps[t]? = some v ∧ VR C x v
 sl1 : ∀ j t, j < ops.size → listed.getD j false = true → (ops[j]?).bind (·.dst) = some t → ∃ v, a.tmps[t]? = some v ∧ VR C (ys j) v
 df : a.defers = s.D.map (mark C)
 du : ∀ i, i ∈ s.D → i ∈ C.U
 sz : a.tmps.size = s.n
 av : ∀ j p, j < ops.size → listed.getD j false = false → p ∈ ps j → p.1 ∉ C.U
 ext : Ext Z C0 H0 w0 C (hpF ops.size ps s.H B listed cur) w
 dn : ∀ i o, ops[i]? = some o → listed.getD i false = true → ∀ e, e ∈ o.after → Region.binds .any e = true → listed.getD e.on false = true
 lw : ∀ v, ws.contains v = true → v < ops.size → (listed.getD v false = true ↔ v < cur)
 lc : cur ≤ ops.size
 lz : cur = 0 ∨ ∃ v, ws.contains v = true ∧ v < cur
def okLooksV (ops : Array Oper) (ms : List Nat) : Bool := (List.range ops.size).all fun i => match ops[i]? with
 | some o => (o.looksAt ops).all fun t => (List.range ops.size).all fun j => !((ops[j]?).bind (·.dst) == some t) || (Nat.blt j i && bitOf ms i j) || (Nat.blt i j && bitOf ms j i)
 | none => false
def tidyV (ops : Array Oper) (ms ws rs : List Nat) : Bool := (okEdges ops && okDst ops ops.size && okCert ops ms && okLooksV ops ms && okWrites ms ws rs && (ws ++ rs).all fun i => Nat.blt i ops.size) && !ws.isEmpty
section
variable {P : Program} {ops : Array Oper} {o : Oper} {rest : List Oper} {H0 : AHeap} {ws rs : List Nat} {K : St → Prop} {k : Nat} {M : List (Nat × (Nat × AObj))} {S : AHeap} {s : St}
def inH (H : AHeap) : AHeap → List Nat → Prop
 | [], _ => True
 | p :: S, j :: js => H[j]? = some p ∧ inH H S js
 | _ :: _, [] => False
end
end Go.Sx
namespace Go.Sx
open Go
section
variable {α : Type} [Inhabited α]
variable {P : Program} {ro : Option Nat} {Q : Exit → St → Prop} {s : St} {ops : Array Oper} {o : Oper} {rest : List Oper}
end
end Go.Sx
namespace Go.Sx
open Go
def idxFrom {α : Type} (f : α → Bool) : List α → Nat → Int
 | [], _ => -1
 | a :: r, i => if f a then i else idxFrom f r (i + 1)
def Prog.av (p : Prog) : AV := .agg p.cells
def classAt (p : Prog) (nm : Str) : Int := idxFrom (fun c => beqS c.name nm) p.classes 0
def inL (l : List Str) (s : Str) : Bool := l.any fun x => beqS x s
theorem Zf8 (x : Str) (l : List Str) (s : Str) : inL (x :: l) s = (beqS x s || inL l s) := rfl
theorem Z8w {a : Bool} (h : (!a) = false) : a = true := by cases a <;> simp_all
theorem Zaj {α : Type} {l : List α} {i : Nat} (h : i < l.length) : l.drop i = l[i] :: l.drop (i + 1) := List.drop_eq_getElem_cons h
theorem Zer {α : Type} {l : List α} {i : Nat} (h : ¬ i < l.length) : l.drop i = [] := List.drop_of_length_le (by omega)
def Fact.av (f : Fact) : AV := .agg f.cells
def Ty.av (t : Ty) : AV := .agg t.cells
def Cls.av (c : Cls) : AV := .agg c.cells
def clsFind (p : Prog) (nm : Str) : Option Cls := p.classes.find? fun c => beqS c.name nm
def ifaceP (p : Prog) (nm : Str) : Bool := match clsFind p nm with | some c => c.iface | none => false
def isRefK (k : Int) : Bool := decide (2 ≤ k) && decide (k ≤ 6)
def eqF (a b : Fact) : Bool := a.kind == b.kind && beqS a.cls b.cls
def zS : Str := ⟨#[]⟩
def ofT (t : Ty) : Fact :=
 if t.kind = 2 then ⟨1, zS⟩ else if t.kind = 3 then ⟨3, t.cls⟩ else if t.kind = 4 then ⟨4, zS⟩ else if t.kind = 5 then ⟨5, t.cls⟩ else ⟨0, zS⟩
def joinBy (com : Str → Str → Str) (a b : Fact) : Fact :=
 if eqF a b then a else if !isRefK a.kind || !isRefK b.kind then ⟨0, zS⟩ else if a.kind = 2 then b else if b.kind = 2 then a
 else if a.kind = 3 ∧ b.kind = 3 then (if beqS (com a.cls b.cls) zS then ⟨6, zS⟩ else ⟨3, com a.cls b.cls⟩) else ⟨6, zS⟩
def zCls : List AV := [sA zS, sA zS, bA false, bA false, .v (.slice none 0 0), .v (.slice none 0 0), .v (.slice none 0 0)]
def knownA : Option Cls → AV
 | some c => .tup [.agg c.cells, bA true]
 | none => .tup [.agg zCls, bA false]
def upC (c : Cls) : List Str := if beqS c.super zS then c.ifaces else c.super :: c.ifaces
instance : Inhabited Cls := ⟨⟨⟨#[]⟩, ⟨#[]⟩, false, false, [], [], []⟩⟩
instance : Inhabited Fld := ⟨⟨⟨#[]⟩, ⟨0, ⟨#[]⟩⟩, false⟩⟩
instance : Inhabited Meth := ⟨⟨⟨#[]⟩, ⟨#[]⟩, false, false, 0, []⟩⟩
instance : Inhabited Instr := ⟨⟨0, 0, 0, 0, 0, ⟨#[]⟩, ⟨#[]⟩, ⟨#[]⟩, []⟩⟩
instance : Inhabited Fact := ⟨⟨0, ⟨#[]⟩⟩⟩
theorem Z54 {α β : Type} [Inhabited α] {l : List α} {f : α → β} {i : Nat} (h : i < l.length) : (l.map f)[i]? = some (f (l.getD i default)) := by simp [h, List.getD]
def sameF : List Fact → List Fact → Bool
 | [], [] => true
 | x :: l, y :: r => eqF x y && sameF l r
 | _, _ => false
theorem Z27 {α : Type} (f : α → Bool) : ∀ (l : List α) (k : Nat), (idxFrom f l k = -1 ∧ l.find? f = none) ∨ ∃ (j : Nat) (h : j < l.length), idxFrom f l k = ((k + j : Nat) : Int) ∧ l.find? f = some l[j] ∧ f l[j] = true
 | [], k => .inl ⟨rfl, rfl⟩
 | a :: r, k => by
  simp only [idxFrom]
  cases hf : f a with
  | true => exact .inr ⟨0, by simp, by simp, by simp [List.find?, hf], by simpa using hf⟩
  | false =>
   rcases Z27 f r (k + 1) with ⟨h1, h2⟩ | ⟨j, h, h1, h2, h3⟩
   ·exact .inl ⟨by simpa using h1, by simp [List.find?, hf, h2]⟩
   ·exact .inr ⟨j + 1, by simp; omega, by simp [h1]; omega, by simp [List.find?, hf, h2], by simpa using h3⟩
theorem Z1r {α : Type} [DecidableEq α] : ∀ {l m : List α}, l.Nodup → (∀ x, x ∈ l → x ∈ m) → l.length ≤ m.length
 | [], m, _, _ => Nat.zero_le _
 | x :: l, m, hn, hs => by
  rw [List.nodup_cons] at hn
  have hx : x ∈ m := hs x List.mem_cons_self
  have h1 : ∀ y, y ∈ l → y ∈ m.erase x := fun y hy => (List.mem_erase_of_ne (by rintro rfl; exact hn.1 hy)).2 (hs y (List.mem_cons_of_mem _ hy))
  have h2 := Z1r hn.2 h1
  have h3 := List.length_erase_of_mem hx
  have h4 : 0 < m.length := List.length_pos_of_mem hx
  simp only [List.length_cons]
  omega
theorem inL_mem {l : List Str} {s : Str} : inL l s = true ↔ s ∈ l := by
 simp only [inL, List.any_eq_true, beqS_iff]
 exact ⟨fun ⟨x, h, e⟩ => e ▸ h, fun h => ⟨s, h, rfl⟩⟩
theorem inL_false {l : List Str} {s : Str} : inL l s = false ↔ s ∉ l := by
 rw [← inL_mem]; cases inL l s <;> simp
def supF (p : Prog) : Nat → Str → List Str → List Str
 | 0, _, out => out
 | n + 1, nm, out => match clsFind p nm with
  | none => out
  | some c => if inL out c.name then out else if beqS c.super zS then out ++ [c.name] else supF p n c.super (out ++ [c.name])
def supers (p : Prog) (nm : Str) : List Str := supF p (p.classes.length + 1) nm []
theorem Z0r {p : Prog} {nm : Str} {c : Cls} (h : clsFind p nm = some c) : c.name = nm ∧ c ∈ p.classes := by
 unfold clsFind at h
 have h1 := List.find?_some h
 exact ⟨beqS_iff.1 h1, List.mem_of_find?_eq_some h⟩
structure SupJ (p : Prog) (nm0 nm : Str) (out : List Str) : Prop where
 nd : out.Nodup
 sub : ∀ x, x ∈ out → x ∈ p.classes.map Cls.name
 eq : supF p (p.classes.length + 1 - out.length) nm out = supers p nm0
theorem SupJ.len {p : Prog} {nm0 nm : Str} {out : List Str} (h : SupJ p nm0 nm out) : out.length ≤ p.classes.length := by
 have := Z1r h.nd h.sub
 simpa using this
theorem SupJ.start (p : Prog) (nm : Str) : SupJ p nm nm [] := ⟨List.nodup_nil, nofun, rfl⟩
theorem SupJ.eq' {p : Prog} {nm0 nm : Str} {out : List Str} (h : SupJ p nm0 nm out) : (match clsFind p nm with
  | none => out
  | some c => if inL out c.name then out else if beqS c.super zS then out ++ [c.name] else supF p (p.classes.length - out.length) c.super (out ++ [c.name])) = supers p nm0 := by
 have h1 := h.eq
 have h2 := h.len
 rw [show p.classes.length + 1 - out.length = (p.classes.length - out.length) + 1 from by omega] at h1
 exact h1
theorem SupJ.none {p : Prog} {nm0 nm : Str} {out : List Str} (h : SupJ p nm0 nm out) (hc : clsFind p nm = none) : out = supers p nm0 := by have := h.eq'; rwa [hc] at this
theorem SupJ.top {p : Prog} {nm0 nm : Str} {out : List Str} {c : Cls} (h : SupJ p nm0 nm out) (hc : clsFind p nm = some c) (hi : inL out c.name = false) (hs : beqS c.super zS = true) : out ++ [c.name] = supers p nm0 := by
 have := h.eq'; simpa [hc, hi, hs] using this
theorem SupJ.sub1 {p : Prog} {nm0 nm : Str} {out : List Str} {c : Cls} (h : SupJ p nm0 nm out) (hc : clsFind p nm = some c) (hi : inL out c.name = false) : (out ++ [c.name]).Nodup ∧ ∀ x, x ∈ out ++ [c.name] → x ∈ p.classes.map Cls.name := by
 refine ⟨?_, ?_⟩
 ·rw [List.nodup_append]
  refine ⟨h.nd, by simp, ?_⟩
  intro a ha b hb
  rw [List.mem_singleton] at hb
  rintro rfl
  subst hb
  exact inL_false.1 hi ha
 ·intro x hx
  rcases List.mem_append.1 hx with hx | hx
  ·exact h.sub x hx
  ·rw [List.mem_singleton] at hx
   subst hx
   exact List.mem_map.2 ⟨c, (Z0r hc).2, rfl⟩
theorem SupJ.next {p : Prog} {nm0 nm : Str} {out : List Str} {c : Cls} (h : SupJ p nm0 nm out) (hc : clsFind p nm = some c) (hi : inL out c.name = false) (hs : beqS c.super zS = false) : SupJ p nm0 c.super (out ++ [c.name]) := by
 obtain ⟨h1, h2⟩ := h.sub1 hc hi
 refine ⟨h1, h2, ?_⟩
 have h3 := h.eq'
 have h4 := Z1r h1 h2
 simp only [List.length_append, List.length_map, List.length_cons, List.length_nil] at h4
 rw [hc] at h3
 simp only [hi, hs, Bool.false_eq_true, if_false] at h3
 rw [show p.classes.length + 1 - (out ++ [c.name]).length = p.classes.length - out.length from by simp]
 exact h3
theorem SupJ.lt {p : Prog} {nm0 nm : Str} {out : List Str} {c : Cls} (h : SupJ p nm0 nm out) (hc : clsFind p nm = some c) (hi : inL out c.name = false) : out.length + 1 ≤ p.classes.length := by
 obtain ⟨h1, h2⟩ := h.sub1 hc hi
 have h4 := Z1r h1 h2
 simpa using h4
def comF (x y : List Str) : Str := (x.find? fun s => inL y s).getD zS
def com (p : Prog) (a b : Str) : Str := if !beqS a b && (ifaceP p a || ifaceP p b) then zS else comF (supers p a) (supers p b)
def mergeF (j : Fact → Fact → Fact) : List Fact → List Fact → List Fact
 | x :: l, y :: r => j x y :: mergeF j l r
 | _, _ => []
def greatI (x : Instr) : Bool := decide (x.args.length > 60) || decide (x.cls.size > 300) || decide (x.name.size > 300) || decide (x.desc.size > 300)
def greatM0 (m : Meth) : Bool := decide (m.code.length > 300) || decide (m.name.size > 300) || decide (m.desc.size > 300)
def greatM (m : Meth) : Bool := greatM0 m || m.code.any greatI
def greatC0 (c : Cls) : Bool := decide (c.ifaces.length > 40) || decide (c.fields.length > 40) || decide (c.methods.length > 40) || decide (c.name.size > 300) || decide (c.super.size > 300)
def greatC (c : Cls) : Bool := greatC0 c || c.methods.any greatM
def greatP0 (p : Prog) : Bool := decide (p.classes.length > 70) || decide (p.names.length > 70)
def greatP (p : Prog) : Bool := greatP0 p || p.classes.any greatC
def PairsR (f t : Nat) (x y : AV) : AEnd → AHeap → Prop := fun e H => ∃ i1 i2, e = .ret (.fn (.func f) [.ptr i1 1 0 0, .ptr i2 1 0 0]) ∧ H = [(i2, .rows t 1 [[y]]), (i1, .rows t 1 [[x]])]
theorem Zcf (a b : Str) : beqS a b = beqS b a := by
 cases h : beqS b a with
 | true => exact beqS_iff.2 (beqS_iff.1 h).symm
 | false => cases h2 : beqS a b with
  | true => rw [beqS_iff.2 (beqS_iff.1 h2).symm] at h; cases h
  | false => rfl
def setM (out : List Str) : List (Value × AV) := out.map fun s => (.string s, bA true)
theorem Z93 (out : List Str) : strKeys (setM out) := by
 intro k x h
 obtain ⟨s, _, e⟩ := List.mem_map.1 h
 cases e
 exact ⟨s, rfl⟩
theorem Z7r : ∀ (out : List Str) (k : Str), mget (setM out) k = if inL out k then some (bA true) else none
 | [], k => rfl
 | x :: out, k => by
  have ih := Z7r out k
  unfold setM at ih ⊢
  simp only [List.map_cons, mget, skey, Zf8, ih, Zcf x k]
  cases beqS k x <;> simp
theorem Zfg (out : List Str) (k : Str) (h : inL out k = false) : mput (setM out) k (bA true) = setM (out ++ [k]) := by
 rw [Z62 _ _ _ (by rw [Z7r, h]; rfl)]
 simp [setM]
section
variable {P : Program} {ro : Option Nat} {Q : Exit → St → Prop} {s : St} {ops : Array Oper} {o : Oper} {rest : List Oper} {T : List (Nat × AV)}
theorem Zet {t kt et id : Nat} {p q : Operand} {k : ByteArray} {out : List Str} [hu : UD P t (.map kt et)] [hk : UD P kt .string] [hz : ZV P et (.bool false)] (ho : o.op = .lookup t p q false)
  (hp : ev T p = some (.map id)) (hq : ev T q = some (.v (.string k))) : Eff P o T [(id, .mp (setM out))] (.v (.bool (inL out k))) [] := by
 have h := Z6l (P := P) (T := T) ho hp hq (Z93 out)
 rw [Z7r] at h
 cases hi : inL out k <;> simpa [hi] using h
theorem Zcb {t kt et id : Nat} {p q : Operand} {k : ByteArray} {out : List Str} (j : Nat) [hu : UD P t (.map kt et)] [hk : UD P kt .string] [hz : ZV P et (.bool false)] (hw : Wanted ops s.T o true) (hd : dok o.dst s.n = true) (ho : o.op = .lookup t p q false)
  (hp : ev s.T p = some (.map id)) (hq : ev s.T q = some (.v (.string k))) (hH : s.H[j]? = some (id, .mp (setM out))) (h : AOps P ro ops rest Q { s with T := put s.T o.dst (.v (.bool (inL out k))) }) : AOps P ro ops (o :: rest) Q s :=
 Z3u [(id, .mp (setM out))] _ hw hd (Zet ho hp hq) (fun p hp => by rw [List.mem_singleton.1 hp]; exact List.mem_of_getElem? hH) h
theorem Zcc {t kt et id : Nat} {p q r : Operand} {key : ByteArray} {out : List Str} (k : Nat) [hu : UD P t (.map kt et)] [hk : UD P kt .string] (hw : Wanted ops s.T o true) (hd : dok o.dst s.n = true)
  (ho : o.op = .mapUpdate t p q r) (hp : ev s.T p = some (.map id)) (hH : s.H[k]? = some (id, .mp (setM out))) (hq : ev s.T q = some (.v (.string key))) (hr : ev s.T r = some (.v (.bool true))) (hin : inL out key = false)
  (h : AOps P ro ops rest Q { s with T := put s.T o.dst (.v undef), H := s.H.set k (id, .mp (setM (out ++ [key]))) }) : AOps P ro ops (o :: rest) Q s := by
 refine Z3v k hw hd ho hp hH hq hr (Z93 out) ?_
 rw [Zfg out key hin]
 exact h
end
theorem Zb9 (p : Prog) : ∀ (n : Nat) (nm : Str) (out : List Str), ∃ suf, supF p n nm out = out ++ suf
 | 0, _, out => ⟨[], by simp [supF]⟩
 | n + 1, nm, out => by
  unfold supF
  cases clsFind p nm with
  | none => exact ⟨[], by simp⟩
  | some c =>
   simp only
   split
   ·exact ⟨[], by simp⟩
   ·split
    ·exact ⟨[c.name], rfl⟩
    ·obtain ⟨suf, h⟩ := Zb9 p n c.super (out ++ [c.name])
     exact ⟨c.name :: suf, by rw [h]; simp⟩
theorem SupJ.pre {p : Prog} {nm0 nm : Str} {out : List Str} {c : Cls} (h : SupJ p nm0 nm out) (hc : clsFind p nm = some c) (hi : inL out nm = false) : ∃ suf, supers p nm0 = out ++ nm :: suf := by
 have hn := (Z0r hc).1
 have := h.eq'
 rw [hc] at this
 simp only [hn, hi, Bool.false_eq_true, if_false] at this
 split at this
 ·exact ⟨[], this.symm⟩
 ·obtain ⟨suf, h2⟩ := Zb9 p (p.classes.length - out.length) c.super (out ++ [nm])
  rw [h2] at this
  exact ⟨suf, by rw [← this]; simp⟩
def AboveR (f t n u : Nat) (cells : List AV) (nm : Str) : AEnd → AHeap → Prop := fun e H => ∃ i1 i2, e = .ret (.fn (.func f) [.ptr i1 n 0 0, .ptr i2 1 0 0]) ∧ H = [(i2, .rows u 1 [[sA nm]]), (i1, .rows t n [cells])]
inductive Anc (p : Prog) (nm : Str) : Str → Prop
 | base {c : Cls} (h : clsFind p nm = some c) : Anc p nm nm
 | step {s u : Str} {c d : Cls} (h : Anc p nm s) (hc : clsFind p s = some c) (hu : u ∈ upC c) (hd : clsFind p u = some d) : Anc p nm u
structure AncJ (p : Prog) (nm : Str) (todo out : List Str) : Prop where
 nd : out.Nodup
 sub : ∀ x, x ∈ out → x ∈ p.classes.map Cls.name
 snd : ∀ x, x ∈ out → Anc p nm x
 tsnd : ∀ x, x ∈ todo → ∀ c, clsFind p x = some c → Anc p nm x
 cl : ∀ s, s ∈ out → ∀ c, clsFind p s = some c → ∀ u, u ∈ upC c → ∀ d, clsFind p u = some d → u ∈ out ∨ u ∈ todo
 st : ∀ c, clsFind p nm = some c → nm ∈ out ∨ nm ∈ todo
theorem AncJ.start (p : Prog) (nm : Str) : AncJ p nm [nm] [] :=
 ⟨List.nodup_nil, nofun, nofun, fun x hx c hc => by rw [List.mem_singleton.1 hx] at hc ⊢; exact .base hc, nofun, fun _ _ => .inr List.mem_cons_self⟩
theorem AncJ.fin {p : Prog} {nm : Str} {out : List Str} (h : AncJ p nm [] out) (s : Str) : s ∈ out ↔ Anc p nm s := by
 refine ⟨h.snd s, fun ha => ?_⟩
 induction ha with
 | base hc => exact (h.st _ hc).resolve_right nofun
 | step _ hc hu hd ih => exact (h.cl _ ih _ hc _ hu _ hd).resolve_right nofun
theorem AncJ.skip {p : Prog} {nm sx : Str} {t out : List Str} (h : AncJ p nm (t ++ [sx]) out) (hs : clsFind p sx = none ∨ sx ∈ out) : AncJ p nm t out := by
 refine ⟨h.nd, h.sub, h.snd, fun x hx => h.tsnd x (List.mem_append_left _ hx), ?_, ?_⟩
 ·intro s hs' c hc u hu d hd
  rcases h.cl s hs' c hc u hu d hd with h1 | h1
  ·exact .inl h1
  ·rcases List.mem_append.1 h1 with h2 | h2
   ·exact .inr h2
   ·rw [List.mem_singleton] at h2
    subst h2
    rcases hs with h3 | h3
    ·rw [h3] at hd; cases hd
    ·exact .inl h3
 ·intro c hc
  rcases h.st c hc with h1 | h1
  ·exact .inl h1
  ·rcases List.mem_append.1 h1 with h2 | h2
   ·exact .inr h2
   ·rw [List.mem_singleton] at h2
    subst h2
    rcases hs with h3 | h3
    ·rw [h3] at hc; cases hc
    ·exact .inl h3
theorem AncJ.sub1 {p : Prog} {nm sx : Str} {t out : List Str} {c : Cls} (h : AncJ p nm (t ++ [sx]) out) (hc : clsFind p sx = some c) (hn : sx ∉ out) : (out ++ [sx]).Nodup ∧ ∀ x, x ∈ out ++ [sx] → x ∈ p.classes.map Cls.name := by
 refine ⟨?_, ?_⟩
 ·rw [List.nodup_append]
  refine ⟨h.nd, by simp, ?_⟩
  intro a ha b hb
  rw [List.mem_singleton] at hb
  subst hb
  rintro rfl
  exact hn ha
 ·intro x hx
  rcases List.mem_append.1 hx with hx | hx
  ·exact h.sub x hx
  ·rw [List.mem_singleton] at hx
   subst hx
   obtain ⟨h1, h2⟩ := Z0r hc
   exact List.mem_map.2 ⟨c, h2, h1⟩
theorem AncJ.add {p : Prog} {nm sx : Str} {t out : List Str} {c : Cls} (h : AncJ p nm (t ++ [sx]) out) (hc : clsFind p sx = some c) (hn : sx ∉ out) : AncJ p nm (t ++ upC c) (out ++ [sx]) := by
 have ha : Anc p nm sx := h.tsnd sx (List.mem_append_right _ List.mem_cons_self) c hc
 refine ⟨(h.sub1 hc hn).1, (h.sub1 hc hn).2, ?_, ?_, ?_, ?_⟩
 ·intro x hx
  rcases List.mem_append.1 hx with hx | hx
  ·exact h.snd x hx
  ·rw [List.mem_singleton.1 hx]; exact ha
 ·intro x hx d hd
  rcases List.mem_append.1 hx with hx | hx
  ·exact h.tsnd x (List.mem_append_left _ hx) d hd
  ·exact .step ha hc hx hd
 ·intro s hs' c' hc' u hu d hd
  rcases List.mem_append.1 hs' with hs' | hs'
  ·rcases h.cl s hs' c' hc' u hu d hd with h1 | h1
   ·exact .inl (List.mem_append_left _ h1)
   ·rcases List.mem_append.1 h1 with h2 | h2
    ·exact .inr (List.mem_append_left _ h2)
    ·exact .inl (List.mem_append_right _ h2)
  ·rw [List.mem_singleton] at hs'
   subst hs'
   rw [hc] at hc'; cases hc'
   exact .inr (List.mem_append_right _ hu)
 ·intro c' hc'
  rcases h.st c' hc' with h1 | h1
  ·exact .inl (List.mem_append_left _ h1)
  ·rcases List.mem_append.1 h1 with h2 | h2
   ·exact .inr (List.mem_append_left _ h2)
   ·exact .inl (List.mem_append_right _ h2)
theorem AncJ.lt {p : Prog} {nm sx : Str} {t out : List Str} {c : Cls} (h : AncJ p nm (t ++ [sx]) out) (hc : clsFind p sx = some c) (hn : sx ∉ out) : out.length + 1 ≤ p.classes.length := by
 have h4 := Z1r (h.sub1 hc hn).1 (h.sub1 hc hn).2
 simpa using h4
theorem AncJ.len {p : Prog} {nm : Str} {t out : List Str} (h : AncJ p nm t out) : out.length ≤ p.classes.length := by
 have h4 := Z1r h.nd h.sub
 simpa using h4
def MapR (p : Prog) (nm : Str) : AEnd → AHeap → Prop := fun e H => ∃ q out, e = .ret (.map q) ∧ H = [(q, .mp (setM out))] ∧ ∀ s, s ∈ out ↔ Anc p nm s
noncomputable def subP (p : Prog) (a b : Str) : Bool := open Classical in decide (Anc p a b)
def fitsBy (sub : Bool) (f : Fact) (t : Ty) : Bool :=
 if t.kind = 2 then f.kind == 1 else if t.kind = 3 then f.kind == 2 || (f.kind == 3 && sub) else if t.kind = 4 then f.kind == 2 || f.kind == 4 else if t.kind = 5 then f.kind == 2 || (f.kind == 5 && beqS f.cls t.cls) else false
theorem Z1y (a : Str) : beqS a a = true := beqS_iff.2 rfl
def ancRun (p : Prog) : Nat → List Str → List Str → Option (List Str)
 | 0, _, _ => none
 | n + 1, todo, out => match todo.getLast? with
  | none => some out
  | some s => match clsFind p s with
   | none => ancRun p n todo.dropLast out
   | some c => if inL out s then ancRun p n todo.dropLast out else ancRun p n (todo.dropLast ++ upC c) (out ++ [s])
def nA : Str := ⟨#[65]⟩
def nB : Str := ⟨#[66]⟩
def nC : Str := ⟨#[67]⟩
def lvCA : Cls := ⟨nA, zS, false, false, [], [], []⟩
def lvCB : Cls := ⟨nB, nA, false, false, [], [], []⟩
def lvCC : Cls := ⟨nC, nA, false, false, [], [], []⟩
def lvP : Prog := ⟨[lvCA, lvCB, lvCC], [], ⟨zS, zS, zS⟩⟩
end Go.Sx
namespace Go.Sx
open Go
structure LtOK {α : Type} (lt : α → α → Bool) : Prop where
 irr : ∀ x, lt x x = false
 asy : ∀ x y, lt x y = true → lt y x = false
 tr : ∀ x y z, lt y x = false → lt z y = false → lt z x = false
section
variable {α : Type} [Inhabited α]
def swp (l : List α) (i j : Nat) : List α := (l.set i (l.getD j default)).set j (l.getD i default)
theorem Z6e (l : List α) (i j : Nat) : (swp l i j).length = l.length := by simp [swp]
theorem Z3p {l : List α} {i j : Nat} (hi : i < l.length) (hj : j < l.length) (k : Nat) : (swp l i j).getD k default = if k = j then l.getD i default else if k = i then l.getD j default else l.getD k default := by
 unfold swp
 simp only [List.getD_eq_getElem?_getD, List.getElem?_set, List.length_set]
 by_cases h1 : j = k
 ·subst h1; simp [hj]
 ·by_cases h2 : i = k
  ·subst h2; simp [h1, Ne.symm h1, hi]
  ·simp [h1, h2, Ne.symm h1, Ne.symm h2]
theorem Z7v {l : List α} {i j : Nat} (hi : i < l.length) (hj : j < l.length) : (swp l i j).getD i default = l.getD j default := by
 rw [Z3p hi hj]; by_cases h : i = j
 ·subst h; simp
 ·simp [h]
theorem Zc7 {l : List α} {i j : Nat} (hi : i < l.length) (hj : j < l.length) : (swp l i j).getD j default = l.getD i default := by rw [Z3p hi hj]; simp
theorem Z24 {l : List α} {i j k : Nat} (hi : i < l.length) (hj : j < l.length) (h1 : k ≠ i) (h2 : k ≠ j) : (swp l i j).getD k default = l.getD k default := by rw [Z3p hi hj]; simp [h1, h2]
theorem Zfp {l : List α} {i j : Nat} (hi : i < l.length) (hj : j < l.length) : (swp l i j).Perm l := by
 unfold swp
 rw [show l.getD i default = l[i] from by simp [List.getD, hi], show l.getD j default = l[j] from by simp [List.getD, hj]]
 exact List.set_set_perm hi hj
inductive Sw (a b : Nat) (l : List α) : List α → Prop
 | refl : Sw a b l l
 | step {m : List α} (i j : Nat) (h : Sw a b l m) (hi : a ≤ i ∧ i < b) (hj : a ≤ j ∧ j < b) (hb : b ≤ m.length) : Sw a b l (swp m i j)
theorem Sw.len {a b : Nat} {l m : List α} (h : Sw a b l m) : m.length = l.length := by
 induction h with
 | refl => rfl
 | step i j _ _ _ _ ih => rw [Z6e, ih]
theorem Sw.out {a b : Nat} {l m : List α} (h : Sw a b l m) {k : Nat} (hk : k < a ∨ b ≤ k) : m.getD k default = l.getD k default := by
 induction h with
 | refl => rfl
 | step i j _ hi hj hb ih => rw [Z24 (by omega) (by omega) (by omega) (by omega), ih]
theorem Sw.all {a b : Nat} {l m : List α} (h : Sw a b l m) {Q : α → Prop} (hq : ∀ k, a ≤ k → k < b → Q (l.getD k default)) : ∀ k, a ≤ k → k < b → Q (m.getD k default) := by
 induction h with
 | refl => exact hq
 | step i j _ hi hj hb ih =>
  intro k h1 h2
  rw [Z3p (by omega) (by omega)]
  split
  ·exact ih i hi.1 hi.2
  ·split
   ·exact ih j hj.1 hj.2
   ·exact ih k h1 h2
theorem Sw.perm {a b : Nat} {l m : List α} (h : Sw a b l m) : m.Perm l := by
 induction h with
 | refl => exact .refl _
 | step i j _ hi hj hb ih => exact (Zfp (by omega) (by omega)).trans ih
theorem Sw.trans {a b : Nat} {l m r : List α} (h : Sw a b l m) (k : Sw a b m r) : Sw a b l r := by
 induction k with
 | refl => exact h
 | step i j _ hi hj hb ih => exact .step i j ih hi hj hb
theorem Sw.mono {a b a' b' : Nat} {l m : List α} (h : Sw a b l m) (ha : a' ≤ a) (hb' : b ≤ b') (hl : b' ≤ l.length) : Sw a' b' l m := by
 induction h with
 | refl => exact .refl
 | step i j h hi hj hb ih => exact .step i j ih (by omega) (by omega) (by rw [h.len]; exact hl)
variable {lt : α → α → Bool}
def SAdj (lt : α → α → Bool) (a b : Nat) (l : List α) : Prop := ∀ k, a < k → k < b → lt (l.getD k default) (l.getD (k - 1) default) = false
def SOn (lt : α → α → Bool) (a b : Nat) (l : List α) : Prop := ∀ i j, a ≤ i → i ≤ j → j < b → lt (l.getD j default) (l.getD i default) = false
theorem SAdj.on (hO : LtOK lt) {a b : Nat} {l : List α} (h : SAdj lt a b l) : SOn lt a b l := by
 intro i j h1 h2 h3
 induction j with
 | zero =>
  have : i = 0 := by omega
  subst this; exact hO.irr _
 | succ j ih =>
  rcases Nat.lt_or_ge j i with h4 | h4
  ·have : i = j + 1 := by omega
   subst this; exact hO.irr _
  ·exact hO.tr _ _ _ (ih h4 (by omega)) (h (j + 1) (by omega) h3)
theorem SAdj.refl1 {a b : Nat} {l : List α} (h : b ≤ a + 1) : SAdj lt a b l := fun k h1 h2 => by omega
structure Ins (lt : α → α → Bool) (a j i : Nat) (l : List α) : Prop where
 one : ∀ k, a < k → k ≤ i → k ≠ j → lt (l.getD k default) (l.getD (k - 1) default) = false
 two : j < i → a < j → lt (l.getD (j + 1) default) (l.getD (j - 1) default) = false
theorem Ins.start {a i : Nat} {l : List α} (h : SAdj lt a i l) : Ins lt a i i l := ⟨fun k h1 h2 h3 => h k h1 (by omega), fun h => by omega⟩
theorem Ins.step (hO : LtOK lt) {a j i : Nat} {l : List α} (h : Ins lt a j i l) (hj : a < j) (hi : j ≤ i) (hl : i < l.length) (hlt : lt (l.getD j default) (l.getD (j - 1) default) = true) : Ins lt a (j - 1) i (swp l j (j - 1)) := by
 have hjl : j < l.length := by omega
 have hjl1 : j - 1 < l.length := by omega
 refine ⟨fun k h1 h2 h3 => ?_, fun h1 h2 => ?_⟩
 ·by_cases e1 : k = j
  ·subst e1; rw [Z7v hjl hjl1, Zc7 hjl hjl1]; exact hO.asy _ _ hlt
  ·by_cases e2 : k = j + 1
   ·subst e2
    rw [Z24 hjl hjl1 (by omega) (by omega), show j + 1 - 1 = j from by omega, Z7v hjl hjl1]
    exact h.two (by omega) hj
   ·rw [Z24 hjl hjl1 e1 h3, Z24 hjl hjl1 (by omega) (by omega)]; exact h.one k h1 h2 e1
 ·rw [show j - 1 + 1 = j from by omega, Z7v hjl hjl1, Z24 hjl hjl1 (by omega) (by omega)]
  exact h.one (j - 1) h2 (by omega) (by omega)
theorem Ins.done {a j i : Nat} {l : List α} (h : Ins lt a j i l) (he : j ≤ a ∨ lt (l.getD j default) (l.getD (j - 1) default) = false) : SAdj lt a (i + 1) l := by
 intro k h1 h2
 by_cases e : k = j
 ·subst e; rcases he with he | he; omega; exact he
 ·exact h.one k h1 (by omega) e
def hp (l : List α) (f x : Nat) : α := l.getD (f + x) default
def Heap (lt : α → α → Bool) (lo hi f : Nat) (l : List α) : Prop := ∀ x c, lo ≤ x → (c = 2 * x + 1 ∨ c = 2 * x + 2) → c < hi → lt (hp l f x) (hp l f c) = false
structure Sift (lt : α → α → Bool) (lo hi f root : Nat) (l : List α) : Prop where
 one : ∀ x c, lo ≤ x → x ≠ root → (c = 2 * x + 1 ∨ c = 2 * x + 2) → c < hi → lt (hp l f x) (hp l f c) = false
 two : ∀ x c, lo ≤ x → (root = 2 * x + 1 ∨ root = 2 * x + 2) → (c = 2 * root + 1 ∨ c = 2 * root + 2) → c < hi → lt (hp l f x) (hp l f c) = false
theorem Sift.start {lo hi f : Nat} {l : List α} (h : Heap lt (lo + 1) hi f l) : Sift lt lo hi f lo l :=
 ⟨fun x c h1 h2 h3 h4 => h x c (by omega) h3 h4, fun x c h1 h2 => by omega⟩
theorem Zaw {l : List α} {f i j k : Nat} (hi : f + i < l.length) (hj : f + j < l.length) : hp (swp l (f + i) (f + j)) f k = if k = j then hp l f i else if k = i then hp l f j else hp l f k := by
 unfold hp; rw [Z3p hi hj]; simp only [Nat.add_left_cancel_iff]
theorem Sift.step (hO : LtOK lt) {lo hi f root c0 : Nat} {l : List α} (h : Sift lt lo hi f root l) (hlo : lo ≤ root) (hc : c0 = 2 * root + 1 ∨ c0 = 2 * root + 2) (hch : c0 < hi) (hl : f + hi ≤ l.length)
  (hmax : ∀ c, (c = 2 * root + 1 ∨ c = 2 * root + 2) → c < hi → lt (hp l f c0) (hp l f c) = false) (hlt : lt (hp l f root) (hp l f c0) = true) : Sift lt lo hi f c0 (swp l (f + root) (f + c0)) := by
 have h1 : f + root < l.length := by omega
 have h2 : f + c0 < l.length := by omega
 refine ⟨fun x c hx hne hcx hcl => ?_, fun x c hx hcx hcc hcl => ?_⟩
 ·rw [Zaw h1 h2, Zaw h1 h2, if_neg hne]
  by_cases e : x = root
  ·subst e
   rw [if_pos rfl]
   by_cases e2 : c = c0
   ·subst e2; rw [if_pos rfl]; exact hO.asy _ _ hlt
   ·rw [if_neg e2, if_neg (by omega)]; exact hmax c hcx hcl
  ·rw [if_neg e, if_neg (by omega : c ≠ c0)]
   by_cases e2 : c = root
   ·subst e2; rw [if_pos rfl]; exact h.two x c0 hx hcx hc hch
   ·rw [if_neg e2]; exact h.one x c hx e hcx hcl
 ·have e : x = root := by omega
  subst e
  rw [Zaw h1 h2, Zaw h1 h2, if_neg (by omega), if_pos rfl, if_neg (by omega), if_neg (by omega)]
  exact h.one c0 c (by omega) (by omega) hcc hcl
theorem Sift.leaf {lo hi f root : Nat} {l : List α} (h : Sift lt lo hi f root l) (hc : hi ≤ 2 * root + 1) : Heap lt lo hi f l := fun x c h1 h2 h3 => by
 by_cases e : x = root
 ·subst e; omega
 ·exact h.one x c h1 e h2 h3
theorem Sift.stop (hO : LtOK lt) {lo hi f root c0 : Nat} {l : List α} (h : Sift lt lo hi f root l) (hmax : ∀ c, (c = 2 * root + 1 ∨ c = 2 * root + 2) → c < hi → lt (hp l f c0) (hp l f c) = false) (hs : lt (hp l f root) (hp l f c0) = false) : Heap lt lo hi f l := fun x c h1 h2 h3 => by
 by_cases e : x = root
 ·subst e; exact hO.tr _ _ _ (hmax c h2 h3) hs
 ·exact h.one x c h1 e h2 h3
theorem Heap.top (hO : LtOK lt) {hi f : Nat} {l : List α} (h : Heap lt 0 hi f l) : ∀ x, x < hi → lt (hp l f 0) (hp l f x) = false := by
 intro x
 induction x using Nat.strongRecOn with
 | _ x ih =>
  intro hx
  by_cases e : x = 0
  ·subst e; exact hO.irr _
  ·exact hO.tr _ _ _ (h ((x - 1) / 2) x (by omega) (by omega) hx) (ih ((x - 1) / 2) (by omega) (by omega))
theorem Heap.none {hi f : Nat} {l : List α} {lo : Nat} (h : hi ≤ 2 * lo + 1) : Heap lt lo hi f l := fun x c h1 h2 h3 => by omega
structure Pops (lt : α → α → Bool) (a b i : Nat) (l : List α) : Prop where
 heap : Heap lt 0 i a l
 srt : SOn lt (a + i) b l
 le : ∀ x y, a ≤ x → x < a + i → a + i ≤ y → y < b → lt (l.getD y default) (l.getD x default) = false
theorem Pops.start {a b : Nat} {l : List α} (hab : a ≤ b) (h : Heap lt 0 (b - a) a l) : Pops lt a b (b - a) l :=
 ⟨h, fun i j h1 h2 h3 => by omega, fun x y h1 h2 h3 h4 => by omega⟩
theorem Pops.swap (hO : LtOK lt) {a b i : Nat} {l : List α} (h : Pops lt a b (i + 1) l) (hb : a + i < b) (hl : b ≤ l.length) :
  Heap lt 1 i a (swp l a (a + i)) ∧ SOn lt (a + i) b (swp l a (a + i)) ∧ ∀ x y, a ≤ x → x < a + i → a + i ≤ y → y < b → lt ((swp l a (a + i)).getD y default) ((swp l a (a + i)).getD x default) = false := by
 have ha : a < l.length := by omega
 have hi : a + i < l.length := by omega
 have top := h.heap.top hO
 have htop : ∀ x, a ≤ x → x < a + (i + 1) → lt (l.getD a default) (l.getD x default) = false := fun x h1 h2 => by
  have := top (x - a) (by omega)
  unfold hp at this
  rwa [show a + (x - a) = x from by omega, Nat.add_zero] at this
 refine ⟨fun x c h1 h2 h3 => ?_, fun x y h1 h2 h3 => ?_, fun x y h1 h2 h3 h4 => ?_⟩
 ·have := h.heap x c (by omega) h2 (by omega)
  unfold hp at this ⊢
  rwa [Z24 ha hi (by omega) (by omega), Z24 ha hi (by omega) (by omega)]
 ·by_cases e : y = a + i
  ·have : x = a + i := by omega
   subst e; subst this; exact hO.irr _
  ·rw [Z24 ha hi (by omega : y ≠ a) e]
   by_cases e2 : x = a + i
   ·subst e2; rw [Zc7 ha hi]; exact h.le a y (by omega) (by omega) (by omega) h3
   ·rw [Z24 ha hi (by omega) e2]; exact h.srt x y (by omega) h2 h3
 ·have hx : ∃ z, a ≤ z ∧ z < a + (i + 1) ∧ (swp l a (a + i)).getD x default = l.getD z default := by
   by_cases e : x = a
   ·subst e; exact ⟨x + i, by omega, by omega, Z7v ha hi⟩
   ·exact ⟨x, h1, by omega, Z24 ha hi e (by omega)⟩
  obtain ⟨z, z1, z2, z3⟩ := hx
  rw [z3]
  by_cases e : y = a + i
  ·subst e; rw [Zc7 ha hi]; exact htop z z1 z2
  ·rw [Z24 ha hi (by omega) e]; exact h.le z y z1 z2 (by omega) h4
theorem Pops.sift {a b i : Nat} {l m : List α} (hs : SOn lt (a + i) b l) (hle : ∀ x y, a ≤ x → x < a + i → a + i ≤ y → y < b → lt (l.getD y default) (l.getD x default) = false) (h : Sw a (a + i) l m) (hh : Heap lt 0 i a m) : Pops lt a b i m := by
 refine ⟨hh, fun x y h1 h2 h3 => ?_, fun x y h1 h2 h3 h4 => ?_⟩
 ·rw [h.out (.inr h1), h.out (.inr (by omega : a + i ≤ y))]; exact hs x y h1 h2 h3
 ·rw [h.out (.inr h3)]
  exact h.all (Q := fun z => lt (l.getD y default) z = false) (fun k h5 h6 => hle k y h5 h6 h3 h4) x h1 h2
structure Part (lt : α → α → Bool) (a b i j : Nat) (l : List α) : Prop where
 lo : ∀ k, a < k → k < i → lt (l.getD k default) (l.getD a default) = true
 hi : ∀ k, j < k → k < b → lt (l.getD k default) (l.getD a default) = false
structure PartR (lt : α → α → Bool) (a b m : Nat) (l : List α) : Prop where
 lo : ∀ k, a ≤ k → k < m → lt (l.getD k default) (l.getD m default) = true
 hi : ∀ k, m < k → k < b → lt (l.getD k default) (l.getD m default) = false
theorem Part.swap {a b i j : Nat} {l : List α} (h : Part lt a b i j l) (hai : a < i) (hij : i ≤ j) (hj : j < b) (hl : b ≤ l.length) (h1 : lt (l.getD i default) (l.getD a default) = false) (h2 : lt (l.getD j default) (l.getD a default) = true) :
  Part lt a b (i + 1) (j - 1) (swp l i j) := by
 have x : i < l.length := by omega
 have y : j < l.length := by omega
 refine ⟨fun k k1 k2 => ?_, fun k k1 k2 => ?_⟩
 ·rw [Z24 x y (by omega : a ≠ i) (by omega)]
  by_cases e : k = i
  ·subst e; rw [Z7v x y]; exact h2
  ·rw [Z24 x y e (by omega)]; exact h.lo k k1 (by omega)
 ·rw [Z24 x y (by omega : a ≠ i) (by omega)]
  by_cases e : k = j
  ·subst e; rw [Zc7 x y]; exact h1
  ·rw [Z3p x y, if_neg e, if_neg (by omega)]; exact h.hi k (by omega) k2
theorem Part.fin {a b i j : Nat} {l : List α} (h : Part lt a b i j l) (hij : i = j + 1) (ha : a ≤ j) (hj : j < b) (hl : b ≤ l.length) (hai : a < i) : PartR lt a b j (swp l j a) := by
 have x : j < l.length := by omega
 have y : a < l.length := by omega
 refine ⟨fun k k1 k2 => ?_, fun k k1 k2 => ?_⟩
 ·rw [Z7v x y]
  by_cases e : k = a
  ·subst e; rw [Zc7 x y]; exact h.lo j (by omega) (by omega)
  ·rw [Z24 x y (by omega) e]; exact h.lo k (by omega) (by omega)
 ·rw [Z7v x y, Z24 x y (by omega) (by omega)]; exact h.hi k k1 k2
structure PartE (lt : α → α → Bool) (a b i j : Nat) (l : List α) : Prop where
 lo : ∀ k, a < k → k < i → lt (l.getD a default) (l.getD k default) = false
 hi : ∀ k, j < k → k < b → lt (l.getD a default) (l.getD k default) = true
theorem PartE.swap {a b i j : Nat} {l : List α} (h : PartE lt a b i j l) (hai : a < i) (hij : i ≤ j) (hj : j < b) (hl : b ≤ l.length) (h1 : lt (l.getD a default) (l.getD i default) = true) (h2 : lt (l.getD a default) (l.getD j default) = false) :
  PartE lt a b (i + 1) (j - 1) (swp l i j) := by
 have x : i < l.length := by omega
 have y : j < l.length := by omega
 refine ⟨fun k k1 k2 => ?_, fun k k1 k2 => ?_⟩
 ·rw [Z24 x y (by omega : a ≠ i) (by omega)]
  by_cases e : k = i
  ·subst e; rw [Z7v x y]; exact h2
  ·rw [Z24 x y e (by omega)]; exact h.lo k k1 (by omega)
 ·rw [Z24 x y (by omega : a ≠ i) (by omega)]
  by_cases e : k = j
  ·subst e; rw [Zc7 x y]; exact h1
  ·rw [Z3p x y, if_neg e, if_neg (by omega)]; exact h.hi k (by omega) k2
def Bd (lt : α → α → Bool) (a b : Nat) (l : List α) : Prop := a = 0 ∨ ∀ k, a ≤ k → k < b → lt (l.getD k default) (l.getD (a - 1) default) = false
theorem Bd.sw {a b : Nat} {l m : List α} (h : Bd lt a b l) (k : Sw a b l m) : Bd lt a b m := by
 rcases h with h | h
 ·exact .inl h
 ·by_cases e : a = 0
  ·exact .inl e
  ·refine .inr ?_
   rw [k.out (.inl (by omega : a - 1 < a))]
   exact k.all (Q := fun z => lt z (l.getD (a - 1) default) = false) h
structure Rest (lt : α → α → Bool) (a0 b0 : Nat) (l0 : List α) (a b : Nat) (l : List α) : Prop where
 ha : a0 ≤ a
 hb : b ≤ b0
 hab : a ≤ b
 sw : Sw a0 b0 l0 l
 bd : Bd lt a b l
 fin : ∀ m, Sw a b l m → SOn lt a b m → SOn lt a0 b0 m
theorem Rest.start {a b : Nat} {l : List α} (hab : a ≤ b) (h : Bd lt a b l) : Rest lt a b l a b l := ⟨Nat.le_refl _, Nat.le_refl _, hab, .refl, h, fun m _ h => h⟩
theorem Rest.move {a0 b0 a b : Nat} {l0 l m : List α} (h : Rest lt a0 b0 l0 a b l) (hl : b0 ≤ l0.length) (k : Sw a b l m) : Rest lt a0 b0 l0 a b m :=
 ⟨h.ha, h.hb, h.hab, h.sw.trans (k.mono h.ha h.hb (by rw [h.sw.len]; exact hl)), h.bd.sw k, fun r hr hs => h.fin r (k.trans hr) hs⟩
theorem Rest.equal (hO : LtOK lt) {a0 b0 a b i j : Nat} {l0 l : List α} (h : Rest lt a0 b0 l0 a b l) (hl : b0 ≤ l0.length) (ha : 0 < a) (hp : lt (l.getD (a - 1) default) (l.getD a default) = false) (h2 : PartE lt a b i j l) (hij : i = j + 1) (hai : a < i) (hib : i ≤ b) : Rest lt a0 b0 l0 i b l := by
 have hbd : ∀ k, a ≤ k → k < b → lt (l.getD k default) (l.getD (a - 1) default) = false := by
  rcases h.bd with h3 | h3
  ·omega
  ·exact h3
 have hll : b ≤ l.length := by rw [h.sw.len]; have := h.hb; omega
 have lo : ∀ k, a ≤ k → k < i → lt (l.getD a default) (l.getD k default) = false := fun k k1 k2 => by
  by_cases e : k = a
  ·subst e; exact hO.irr _
  ·exact h2.lo k (by omega) k2
 refine ⟨by have := h.ha; omega, h.hb, hib, h.sw, .inr fun k k1 k2 => ?_, fun m hm hs => ?_⟩
 ·exact hO.tr _ _ _ (lo (i - 1) (by omega) (by omega)) (hO.asy _ _ (h2.hi k (by omega) k2))
 ·refine h.fin m (hm.mono (by omega) (Nat.le_refl _) hll) ?_
  intro x y h1 h3 h4
  by_cases e : i ≤ x
  ·exact hs x y e h3 h4
  ·rw [hm.out (.inl (by omega : x < i))]
   by_cases e2 : i ≤ y
   ·have := hm.all (Q := fun z => lt (l.getD a default) z = true) (fun k k1 k2 => h2.hi k (by omega) k2) y e2 h4
    exact hO.tr _ _ _ (lo x h1 (by omega)) (hO.asy _ _ this)
   ·rw [hm.out (.inl (by omega : y < i))]
    exact hO.tr _ _ _ (lo x h1 (by omega)) (hO.tr _ _ _ hp (hbd y (by omega) h4))
theorem PartR.swL {a b m : Nat} {l r : List α} (h : PartR lt a b m l) (k : Sw a m l r) : PartR lt a b m r := by
 refine ⟨?_, fun x h1 h2 => ?_⟩
 ·rw [k.out (.inr (Nat.le_refl m))]
  exact k.all (Q := fun z => lt z (l.getD m default) = true) h.lo
 ·rw [k.out (.inr (Nat.le_refl m)), k.out (.inr (by omega : m ≤ x))]; exact h.hi x h1 h2
theorem PartR.swR {a b m : Nat} {l r : List α} (h : PartR lt a b m l) (k : Sw (m + 1) b l r) : PartR lt a b m r := by
 refine ⟨fun x h1 h2 => ?_, fun x h1 h2 => ?_⟩
 ·rw [k.out (.inl (by omega : x < m + 1)), k.out (.inl (by omega : m < m + 1))]; exact h.lo x h1 h2
 ·rw [k.out (.inl (by omega : m < m + 1))]
  exact k.all (Q := fun z => lt z (l.getD m default) = false) (fun k k1 k2 => h.hi k (by omega) k2) x (by omega) h2
theorem PartR.glue (hO : LtOK lt) {a b m : Nat} {l : List α} (h : PartR lt a b m l) (h1 : SOn lt a m l) (h2 : SOn lt (m + 1) b l) : SOn lt a b l := by
 intro x y k1 k2 k3
 rcases Nat.lt_trichotomy y m with e | e | e
 ·exact h1 x y k1 k2 e
 ·subst e
  by_cases e2 : x = y
  ·subst e2; exact hO.irr _
  ·exact hO.asy _ _ (h.lo x k1 (by omega))
 ·have hy := h.hi y e k3
  rcases Nat.lt_trichotomy x m with e2 | e2 | e2
  ·exact hO.tr _ _ _ (hO.asy _ _ (h.lo x k1 e2)) hy
  ·subst e2; exact hy
  ·exact h2 x y e2 k2 k3
theorem Rest.lower (hO : LtOK lt) {a0 b0 a b m : Nat} {l0 l r : List α} (h : Rest lt a0 b0 l0 a b l) (hl : b0 ≤ l0.length) (hm : a ≤ m ∧ m < b) (hp : PartR lt a b m l) (k : Sw a m l r) (hs : SOn lt a m r) : Rest lt a0 b0 l0 (m + 1) b r := by
 have hll : b ≤ l.length := by rw [h.sw.len]; have := h.hb; omega
 have h2 := h.move hl (k.mono (Nat.le_refl _) (by omega) hll)
 have hp2 := hp.swL k
 refine ⟨by have := h.ha; omega, h.hb, by omega, h2.sw, .inr fun x x1 x2 => hp2.hi x (by omega) x2, fun q hq hsq => ?_⟩
 have hrl : b ≤ r.length := by rw [k.len]; exact hll
 refine h2.fin q (hq.mono (by omega) (Nat.le_refl _) hrl) ?_
 refine (hp2.swR hq).glue hO ?_ hsq
 intro x y x1 x2 x3
 rw [hq.out (.inl (by omega : x < m + 1)), hq.out (.inl (by omega : y < m + 1))]; exact hs x y x1 x2 x3
theorem Rest.upper (hO : LtOK lt) {a0 b0 a b m : Nat} {l0 l r : List α} (h : Rest lt a0 b0 l0 a b l) (hl : b0 ≤ l0.length) (hm : a ≤ m ∧ m < b) (hp : PartR lt a b m l) (k : Sw (m + 1) b l r) (hs : SOn lt (m + 1) b r) : Rest lt a0 b0 l0 a m r := by
 have hll : b ≤ l.length := by rw [h.sw.len]; have := h.hb; omega
 have h2 := h.move hl (k.mono (by omega) (Nat.le_refl _) hll)
 have hp2 := hp.swR k
 have hrl : b ≤ r.length := by rw [k.len]; exact hll
 refine ⟨h.ha, by have := h.hb; omega, hm.1, h2.sw, ?_, fun q hq hsq => ?_⟩
 ·rcases h2.bd with h3 | h3
  ·exact .inl h3
  ·exact .inr fun x x1 x2 => h3 x x1 (by omega)
 refine h2.fin q (hq.mono (Nat.le_refl _) (by omega) hrl) ?_
 refine (hp2.swL hq).glue hO hsq ?_
 intro x y x1 x2 x3
 rw [hq.out (.inr (by omega : m ≤ x)), hq.out (.inr (by omega : m ≤ y))]; exact hs x y x1 x2 x3
theorem SAdj.swp_ge {a u i j : Nat} {l : List α} (h : SAdj lt a u l) (hi : u ≤ i) (hj : u ≤ j) (hil : i < l.length) (hjl : j < l.length) : SAdj lt a u (swp l i j) := fun k h1 h2 => by
 rw [Z24 hil hjl (by omega) (by omega), Z24 hil hjl (by omega) (by omega)]; exact h k h1 h2
theorem SAdj.le {a u v : Nat} {l : List α} (h : SAdj lt a u l) (hv : v ≤ u) : SAdj lt a v l := fun k h1 h2 => h k h1 (by omega)
theorem SAdj.succ {a u : Nat} {l : List α} (h : SAdj lt a u l) (hv : lt (l.getD u default) (l.getD (u - 1) default) = false) : SAdj lt a (u + 1) l := fun k h1 h2 => by
 rcases Nat.lt_succ_iff_lt_or_eq.1 h2 with h3 | h3
 ·exact h k h1 h3
 ·subst h3; exact hv
theorem Bd.gt {a b j : Nat} {l : List α} (h : Bd lt a b l) (h1 : a ≤ j) (h2 : j < b) (h0 : 1 ≤ j) (hlt : lt (l.getD j default) (l.getD (j - 1) default) = true) : a < j := by
 rcases Nat.lt_or_ge a j with h3 | h3
 ·exact h3
 ·have e : j = a := by omega
  subst e
  rcases h with h | h
  ·omega
  ·rw [h j (Nat.le_refl _) h2] at hlt; cases hlt
theorem Bd.le {a b c : Nat} {l : List α} (h : Bd lt a b l) (hc : c ≤ b) : Bd lt a c l := by
 rcases h with h | h
 ·exact .inl h
 ·exact .inr fun k h1 h2 => h k h1 (by omega)
theorem PartR.bd {a b m : Nat} {l : List α} (h : PartR lt a b m l) : Bd lt (m + 1) b l := .inr fun k h1 h2 => h.hi k (by omega) h2
end
end Go.Sx
namespace Go.Sx
open Go
structure LtT {α : Type} (lt : α → α → Bool) : Prop where
 ok : LtOK lt
 tot : ∀ x y, lt x y = false → lt y x = false → x = y
section
variable {α : Type} [Inhabited α] [DecidableEq α] {lt : α → α → Bool}
def hasG (l : List α) (x : α) : Bool := l.any fun y => decide (y = x)
def ddO (o : List α) (s : α) : List α := if hasG o s then o else o ++ [s]
def ddG (l : List α) : List α := l.foldl ddO []
theorem Zby {l : List α} {i : Nat} (h : i < l.length) : l.getD i default = l[i] := by simp [List.getD, h]
def insG (lt : α → α → Bool) : Nat → List α → List α
 | 0, l => l
 | k + 1, l => if lt (l.getD (k + 1) default) (l.getD k default) then insG lt k (swp l (k + 1) k) else l
def outG (lt : α → α → Bool) : Nat → Nat → List α → List α
 | 0, _, l => l
 | f + 1, i, l => outG lt f (i + 1) (insG lt i l)
def risG (lt : α → α → Bool) (l : List α) : List α := outG lt ((ddG l).length - 1) 1 (ddG l)
variable (hO : LtT lt)
include hO
omit hO
def riseG (lt : α → α → Bool) (l : List α) : Bool := (List.range l.length).all fun i => Nat.beq i 0 || lt (l.getD (i - 1) default) (l.getD i default)
include hO
end
end Go.Sx
namespace Go.Sx
open Go
def ltS (a b : Str) : Bool := Op.bytesLess a.toList b.toList
def ddS (o : List Str) (s : Str) : List Str := if inL o s then o else o ++ [s]
def dd (l : List Str) : List Str := l.foldl ddS []
theorem Zcs {l : List Str} {i : Nat} (h : i < l.length) : dd (l.take (i + 1)) = ddS (dd (l.take i)) l[i] := by
 rw [List.take_succ_eq_append_getElem h, dd, List.foldl_append]; rfl
theorem Zim (l : List Str) : (dd l).length ≤ l.length := by
 have key : ∀ (l o : List Str), (l.foldl ddS o).length ≤ o.length + l.length := by
  intro l
  induction l with
  | nil => intro o; simp
  | cons x l ih =>
   intro o
   have h := ih (ddS o x)
   have h2 : (ddS o x).length ≤ o.length + 1 := by unfold ddS; split <;> simp
   simp only [List.foldl_cons, List.length_cons]; omega
 simpa [dd] using key l []
theorem Zin (l : List Str) (s : Str) : s ∈ dd l ↔ s ∈ l := by
 have key : ∀ (l o : List Str), s ∈ l.foldl ddS o ↔ s ∈ o ∨ s ∈ l := by
  intro l
  induction l with
  | nil => intro o; simp
  | cons x l ih =>
   intro o
   rw [List.foldl_cons, ih]
   unfold ddS
   split
   ·rename_i h
    have h := inL_mem.1 h
    constructor
    ·rintro (h1 | h1); exact .inl h1; exact .inr (List.mem_cons_of_mem _ h1)
    ·rintro (h1 | h1); exact .inl h1; rcases List.mem_cons.1 h1 with rfl | h1; exact .inl h; exact .inr h1
   ·simp [or_assoc]
 simpa [dd] using key l []
theorem Zeq (l : List Str) : (dd l).Nodup := by
 have key : ∀ (l o : List Str), o.Nodup → (l.foldl ddS o).Nodup := by
  intro l
  induction l with
  | nil => intro o h; exact h
  | cons x l ih =>
   intro o h
   refine ih _ ?_
   unfold ddS
   split
   ·exact h
   ·rename_i h1
    rw [List.nodup_append]
    refine ⟨h, by simp, fun a ha b hb => ?_⟩
    rw [List.mem_singleton] at hb; subst hb
    rintro rfl; exact h1 (inL_mem.2 ha)
 exact key l [] List.nodup_nil
def swapS (l : List Str) (i j : Nat) : List Str := (l.set i (l.getD j default)).set j (l.getD i default)
def insK : Nat → List Str → List Str
 | 0, l => l
 | k + 1, l => if ltS (l.getD (k + 1) default) (l.getD k default) then insK k (swapS l (k + 1) k) else l
def outF : Nat → Nat → List Str → List Str
 | 0, _, l => l
 | f + 1, i, l => outF f (i + 1) (insK i l)
def risF (l : List Str) : List Str := outF ((dd l).length - 1) 1 (dd l)
theorem Z6d (l : List Str) (i j : Nat) : (swapS l i j).length = l.length := by simp [swapS]
theorem Z7n : ∀ (k : Nat) (l : List Str), (insK k l).length = l.length
 | 0, _ => rfl
 | k + 1, l => by unfold insK; split; rw [Z7n, Z6d]; rfl
theorem Z1c {l : List Str} {i : Nat} (h : i < l.length) : l.getD i default = l[i] := by simp [List.getD, h]
theorem Zc6 {l : List Str} {i j : Nat} (hi : i < l.length) (hj : j < l.length) : (swapS l i j).Perm l := by
 unfold swapS
 rw [Z1c hi, Z1c hj]
 exact List.set_set_perm hi hj
theorem Z8r : ∀ (k : Nat) (l : List Str), k < l.length → (insK k l).Perm l
 | 0, _, _ => .refl _
 | k + 1, l, h => by
  unfold insK
  split
  ·exact (Z8r k _ (by rw [Z6d]; omega)).trans (Zc6 h (by omega))
  ·exact .refl _
theorem Z8y : ∀ (f i : Nat) (l : List Str), i + f ≤ l.length → (outF f i l).Perm l
 | 0, _, _, _ => .refl _
 | f + 1, i, l, h => by
  unfold outF
  exact (Z8y f (i + 1) _ (by rw [Z7n]; omega)).trans (Z8r i l (by omega))
theorem Z48 (l : List Str) : (risF l).Perm (dd l) := by
 unfold risF
 cases h : (dd l).length with
 | zero => exact .refl _
 | succ n => exact Z8y _ _ _ (by omega)
theorem Zb6 (l : List Str) (s : Str) : s ∈ risF l ↔ s ∈ l := ((Z48 l).mem_iff).trans (Zin l s)
def hasC (p : Prog) (s : Str) : Bool := (clsFind p s).isSome
def addS (p : Prog) (o : List Str) (u : Str) : List Str := if hasC p u && !inL o u then o ++ [u] else o
def addU (p : Prog) (l o : List Str) : List Str := l.foldl (addS p) o
theorem Za9 (p : Prog) : ∀ (l o : List Str), ∃ r, addU p l o = o ++ r
 | [], o => ⟨[], by simp [addU]⟩
 | x :: l, o => by
  obtain ⟨r, h⟩ := Za9 p l (addS p o x)
  have h2 : ∃ r2, addS p o x = o ++ r2 := by unfold addS; split; exact ⟨[x], rfl⟩; exact ⟨[], by simp⟩
  obtain ⟨r2, h2⟩ := h2
  exact ⟨r2 ++ r, by rw [show addU p (x :: l) o = addU p l (addS p o x) from rfl, h, h2]; simp⟩
theorem Z32 (p : Prog) (s : Str) : ∀ (l o : List Str), s ∈ addU p l o ↔ s ∈ o ∨ (s ∈ l ∧ hasC p s = true)
 | [], o => by simp [addU]
 | x :: l, o => by
  rw [show addU p (x :: l) o = addU p l (addS p o x) from rfl, Z32 p s l]
  unfold addS
  cases hx : hasC p x with
  | false =>
   simp only [Bool.false_and, Bool.false_eq_true, if_false, List.mem_cons]
   constructor
   ·rintro (h | ⟨h, h2⟩); exact .inl h; exact .inr ⟨.inr h, h2⟩
   ·rintro (h | ⟨rfl | h, h2⟩); exact .inl h; rw [hx] at h2; cases h2; exact .inr ⟨h, h2⟩
  | true =>
   cases hi : inL o x with
   | true =>
    have hi := inL_mem.1 hi
    simp only [Bool.not_true, Bool.and_false, Bool.false_eq_true, if_false, List.mem_cons]
    constructor
    ·rintro (h | ⟨h, h2⟩); exact .inl h; exact .inr ⟨.inr h, h2⟩
    ·rintro (h | ⟨rfl | h, h2⟩); exact .inl h; exact .inl hi; exact .inr ⟨h, h2⟩
   | false =>
    simp only [Bool.not_false, Bool.and_true, if_true, List.mem_append, List.mem_cons, List.not_mem_nil, or_false]
    constructor
    ·rintro ((h | rfl) | ⟨h, h2⟩); exact .inl h; exact .inr ⟨.inl rfl, hx⟩; exact .inr ⟨.inr h, h2⟩
    ·rintro (h | ⟨rfl | h, h2⟩); exact .inl (.inl h); exact .inl (.inr rfl); exact .inr ⟨h, h2⟩
theorem Z6n (p : Prog) : ∀ (l o : List Str), o.Nodup → (addU p l o).Nodup
 | [], o, h => h
 | x :: l, o, h => by
  refine Z6n p l _ ?_
  unfold addS
  split
  ·rename_i h1
   rw [List.nodup_append]
   refine ⟨h, by simp, fun a ha b hb => ?_⟩
   rw [List.mem_singleton] at hb; subst hb
   rintro rfl
   rw [inL_mem.2 ha] at h1; simp at h1
  ·exact h
theorem Z46 {p : Prog} {s : Str} (h : hasC p s = true) : ∃ c, clsFind p s = some c := Option.isSome_iff_exists.1 h
theorem Z7m {p : Prog} {s : Str} (h : hasC p s = true) : s ∈ p.classes.map Cls.name := by
 obtain ⟨c, h⟩ := Z46 h
 obtain ⟨h1, h2⟩ := Z0r h
 exact List.mem_map.2 ⟨c, h2, h1⟩
structure AncB (p : Prog) (nm : Str) (out : List Str) (i : Nat) : Prop where
 nd : out.Nodup
 has : ∀ x, x ∈ out → hasC p x = true
 snd : ∀ x, x ∈ out → Anc p nm x
 st : hasC p nm = true → nm ∈ out
 cl : ∀ j, j < i → ∀ s, out[j]? = some s → ∀ c, clsFind p s = some c → ∀ u, u ∈ upC c → hasC p u = true → u ∈ out
 le : i ≤ out.length
theorem AncB.len {p : Prog} {nm : Str} {out : List Str} {i : Nat} (h : AncB p nm out i) : out.length ≤ p.classes.length := by
 have := Z1r h.nd (fun x hx => Z7m (h.has x hx))
 simpa using this
theorem AncB.step {p : Prog} {nm : Str} {out : List Str} {i : Nat} (h : AncB p nm out i) (hi : i < out.length) {c : Cls} (hc : clsFind p out[i] = some c) : AncB p nm (addU p (upC c) out) (i + 1) := by
 obtain ⟨r, hr⟩ := Za9 p (upC c) out
 have ha := h.snd _ (List.getElem_mem hi)
 refine ⟨Z6n p _ _ h.nd, ?_, ?_, fun h2 => (Z32 ..).2 (.inl (h.st h2)), ?_, ?_⟩
 ·intro x hx
  rcases (Z32 ..).1 hx with h1 | h1
  ·exact h.has x h1
  ·exact h1.2
 ·intro x hx
  rcases (Z32 ..).1 hx with h1 | h1
  ·exact h.snd x h1
  ·obtain ⟨d, hd⟩ := Z46 h1.2
   exact .step ha hc h1.1 hd
 ·intro j hj s hs d hd u hu hh
  have hjl : j < out.length := by omega
  have hs' : out[j]? = some s := by rw [hr, List.getElem?_append_left hjl] at hs; exact hs
  rcases Nat.lt_succ_iff_lt_or_eq.1 hj with h1 | h1
  ·exact (Z32 ..).2 (.inl (h.cl j h1 s hs' d hd u hu hh))
  ·subst h1
   rw [List.getElem?_eq_getElem hjl] at hs'; cases hs'
   rw [hc] at hd; cases hd
   exact (Z32 ..).2 (.inr ⟨hu, hh⟩)
 ·rw [hr, List.length_append]; omega
theorem AncB.fin {p : Prog} {nm : Str} {out : List Str} {i : Nat} (h : AncB p nm out i) (hi : ¬ i < out.length) (s : Str) : s ∈ out ↔ Anc p nm s := by
 refine ⟨h.snd s, fun ha => ?_⟩
 induction ha with
 | base hc => exact h.st (by simp [hasC, hc])
 | step _ hc hu hd ih =>
  obtain ⟨j, hj, e⟩ := List.getElem_of_mem ih
  exact h.cl j (by omega) _ (by rw [List.getElem?_eq_getElem hj, e]) _ hc _ hu (by simp [hasC, hd])
noncomputable def chk1 (p : Prog) (c : Cls) : Int :=
 if !beqS c.super zS && !hasC p c.super then 7 else if c.ifaces.any fun s => !hasC p s then 7 else if !beqS c.super zS && ifaceP p c.super then 9 else if c.ifaces.any fun s => !ifaceP p s then 9 else 0
noncomputable def chk2 (p : Prog) (c : Cls) : Bool := (!beqS c.super zS && subP p c.super c.name) || c.ifaces.any fun s => subP p s c.name
noncomputable def checkP (p : Prog) : Int × Str := match p.classes.find? fun c => chk1 p c != 0 with
 | some c => (chk1 p c, c.name)
 | none => match p.classes.find? fun c => chk2 p c with
  | some c => (8, c.name)
  | none => (0, zS)
structure SoundP (p : Prog) : Prop where
 one : ∀ c, c ∈ p.classes → chk1 p c = 0
 two : ∀ c, c ∈ p.classes → chk2 p c = false
noncomputable def f1 (p : Prog) (c : Cls) : Bool := chk1 p c != 0
def nNo : Str := ⟨#[78, 111]⟩
def nearK (k : Int) : Int := (k.tmod 7 + 7).tmod 7
def nearF (p : Prog) (f : Fact) (k : Int) : Fact :=
 ⟨nearK f.kind, if nearK f.kind = 3 ∨ nearK f.kind = 5 then (if 0 < p.classes.length ∧ k < 250 then (p.classes.getD (k.tmod p.classes.length).toNat default).name else nNo) else zS⟩
end Go.Sx
namespace Go.Sx
open Go
theorem Zg0 : ∀ l : List UInt8, Op.bytesLess l l = false
 | [] => rfl
 | x :: l => by simp [Op.bytesLess, Zg0 l]
theorem Zfz : ∀ l r : List UInt8, Op.bytesLess l r = true → Op.bytesLess r l = false
 | [], [], h => rfl
 | [], _ :: _, h => rfl
 | _ :: _, [], h => by simp [Op.bytesLess] at h
 | x :: l, y :: r, h => by
  simp only [Op.bytesLess] at h ⊢
  by_cases h1 : x < y
  ·have h2 : ¬ y < x := fun h => by simp [UInt8.lt_iff_toNat_lt] at h h1; omega
   have h3 : ¬ y = x := fun e => by subst e; simp at h1
   simp [h2, h3]
  ·by_cases h2 : x = y
   ·subst h2; simp at h; simp [Zfz l r h]
   ·simp [h1, h2] at h
theorem Zi6 : ∀ x y z : List UInt8, Op.bytesLess y x = false → Op.bytesLess z y = false → Op.bytesLess z x = false
 | [], _, [], _, _ => rfl
 | [], _, _ :: _, _, _ => rfl
 | _ :: _, [], _, h, _ => by simp [Op.bytesLess] at h
 | _ :: _, _ :: _, [], _, h => by simp [Op.bytesLess] at h
 | a :: x, b :: y, c :: z, h, k => by
  simp only [Op.bytesLess] at h k ⊢
  have ih := Zi6 x y z
  simp only [UInt8.lt_iff_toNat_lt, Bool.or_eq_false_iff, Bool.and_eq_false_iff, decide_eq_false_iff_not, beq_eq_false_iff_ne, ne_eq] at h k ⊢
  refine ⟨by omega, ?_⟩
  by_cases e : c = a
  ·subst e
   have e2 : b = c := UInt8.toNat_inj.1 (by omega)
   subst e2
   exact .inr (ih (h.2.resolve_left (fun h => h rfl)) (k.2.resolve_left (fun h => h rfl)))
  ·exact .inl e
theorem ltS_ok : LtOK ltS := ⟨fun x => Zg0 _, fun x y h => Zfz _ _ h, fun x y z h k => Zi6 _ _ _ h k⟩
end Go.Sx
namespace Go.Sx
open Go
theorem Zad : ∀ x y : List UInt8, (Op.bytesLess x y || x == y) = !Op.bytesLess y x
 | [], [] => rfl
 | [], _ :: _ => by simp [Op.bytesLess]
 | _ :: _, [] => by simp [Op.bytesLess]
 | a :: x, b :: y => by
  have ih := Zad x y
  by_cases h1 : a < b
  ·have h2 : ¬ b < a := fun h => by simp [UInt8.lt_iff_toNat_lt] at h h1; omega
   have h3 : ¬ b = a := fun e => by subst e; simp at h1
   simp [Op.bytesLess, h1, h2, h3]
  ·by_cases h2 : b < a
   ·have h3 : ¬ a = b := fun e => by subst e; simp at h2
    simp [Op.bytesLess, h1, h2, h3]
   ·have h3 : a = b := UInt8.toNat_inj.1 (by simp [UInt8.lt_iff_toNat_lt] at h1 h2; omega)
    subst h3
    simp [Op.bytesLess] at ih ⊢
    exact ih
theorem Z9t (x y : Str) : (Op.bytesLess x.toList y.toList || x.toList == y.toList) = !ltS y x := Zad _ _
theorem Z8s {x y : Str} (h : ltS x y = true) : x ≠ y := fun e => by subst e; rw [ltS_ok.irr] at h; cases h
theorem Z5y {x y : Str} (h : ltS x y = false) (k : ltS y x = false) : x = y := by
 have h2 := Z9t x y
 rw [k] at h2
 have h3 : Op.bytesLess x.toList y.toList = false := h
 rw [h3] at h2
 have h4 : beqS x y = true := by unfold beqS; simpa using h2
 exact beqS_iff.1 h4
theorem Z5z {x y z : Str} (h : ltS x y = true) (k : ltS y z = true) : ltS x z = true := by
 cases hx : ltS x z with
 | true => rfl
 | false =>
  exact absurd (ltS_ok.tr _ _ _ hx (ltS_ok.asy _ _ h)) (by rw [k]; exact Bool.noConfusion)
def longS (s : Str) : Bool := decide (s.size > 64)
def allN (g : Nat → Bool) (n : Nat) : Bool := (List.range n).all fun i => Nat.beq i 0 || g i
theorem allN_iff {g : Nat → Bool} {n : Nat} : allN g n = true ↔ ∀ k, k < n → 0 < k → g k = true := by
 unfold allN
 rw [List.all_eq_true]
 constructor
 ·intro h k hk h0
  have := h k (List.mem_range.2 hk)
  cases k with
  | zero => omega
  | succ k => simpa using this
 ·intro h k hk
  cases k with
  | zero => rfl
  | succ k => simp [h (k + 1) (List.mem_range.1 hk) (by omega)]
theorem Zbe {g : Nat → Bool} {n i : Nat} (hi : i < n) (h0 : 0 < i) (h : g i = false) : allN g n = false := by
 cases ha : allN g n with
 | false => rfl
 | true => have := allN_iff.1 ha i hi h0; rw [h] at this; cases this
def gS (l : List Str) (k : Nat) : Bool := ltS (l.getD (k - 1) default) (l.getD k default)
def rightL (l : List Str) : Bool := decide (l.length ≤ 1024) && !l.any longS && allN (gS l) l.length
theorem Z57 {l : List Str} (h : allN (gS l) l.length = true) : ∀ j i, i < j → j < l.length → ltS (l.getD i default) (l.getD j default) = true := by
 intro j
 induction j with
 | zero => intro i h1; omega
 | succ j ih =>
  intro i h1 h2
  have hj := allN_iff.1 h (j + 1) h2 (by omega)
  unfold gS at hj
  rw [Nat.add_sub_cancel] at hj
  rcases Nat.lt_succ_iff_lt_or_eq.1 h1 with h3 | h3
  ·exact Z5z (ih i h3 (by omega)) hj
  ·subst h3; exact hj
def findL (l : List Str) (s : Str) : Int := if rightL l then idxFrom (fun x => beqS x s) l 0 else -1
theorem Zgf {l : List Str} {s : Str} {i : Nat} (hi : i < l.length) (h : l.getD i default = s) (hb : ∀ k, k < i → l.getD k default ≠ s) : idxFrom (fun x => beqS x s) l 0 = (i : Int) := by
 rcases Z27 (fun x => beqS x s) l 0 with ⟨h1, h2⟩ | ⟨j, hj, h1, h2, h3⟩
 ·rw [List.find?_eq_none] at h2
  have := h2 _ (List.getElem_mem hi)
  rw [← Z1c hi, h, Z1y] at this
  exact absurd rfl this
 ·rw [h1]
  have hjs : l.getD j default = s := by rw [Z1c hj]; exact beqS_iff.1 h3
  rcases Nat.lt_trichotomy j i with e | e | e
  ·exact absurd hjs (hb j e)
  ·subst e; simp
  ·exfalso
   -- the first one that is it
   have key : ∀ (l : List Str) (k : Nat), i < l.length → l.getD i default = s → idxFrom (fun x => beqS x s) l k ≤ (k + i : Nat) := by
    have : ∀ (i : Nat) (l : List Str) (k : Nat), i < l.length → l.getD i default = s → idxFrom (fun x => beqS x s) l k ≤ (k + i : Nat) := by
     intro i
     induction i with
     | zero =>
      intro l k hl hs
      cases l with
      | nil => simp at hl
      | cons x l => simp [List.getD] at hs; subst hs; simp [idxFrom, Z1y]
     | succ i ih =>
      intro l k hl hs
      cases l with
      | nil => simp at hl
      | cons x l =>
       simp only [idxFrom]
       split
       ·omega
       ·have := ih l (k + 1) (by simpa using hl) (by simpa [List.getD] using hs)
        omega
    exact this i
   have := key l 0 hi h
   omega
theorem Zf7 {l : List Str} {s : Str} (hb : ∀ k, k < l.length → l.getD k default ≠ s) : idxFrom (fun x => beqS x s) l 0 = -1 := by
 rcases Z27 (fun x => beqS x s) l 0 with ⟨h1, h2⟩ | ⟨j, hj, h1, h2, h3⟩
 ·exact h1
 ·exact absurd (by rw [Z1c hj]; exact beqS_iff.1 h3) (hb j hj)
theorem Zhm {α : Type} (f : α → Bool) (l : List α) : decide (idxFrom f l 0 ≥ 0) = l.any f := by
 rcases Z27 f l 0 with ⟨h1, h2⟩ | ⟨j, hj, h1, h2, h3⟩
 ·rw [h1]
  rw [List.find?_eq_none] at h2
  have : l.any f = false := by rw [List.any_eq_false]; exact h2
  rw [this]; rfl
 ·rw [h1]
  have : l.any f = true := List.any_eq_true.2 ⟨_, List.getElem_mem hj, h3⟩
  rw [this]; simp
def sameT : List Str → List Str → Bool
 | [], [] => true
 | x :: l, y :: r => beqS x y && sameT l r
 | _, _ => false
theorem Zax : ∀ (k i : Nat) (l : List Str), Ins ltS 0 k i l → k ≤ i → i < l.length → SAdj ltS 0 (i + 1) (insK k l)
 | 0, i, l, h, _, _ => h.done (.inl (Nat.le_refl _))
 | k + 1, i, l, h, hk, hl => by
  unfold insK
  cases hlt : ltS (l.getD (k + 1) default) (l.getD k default) with
  | true =>
   rw [if_pos rfl]
   exact Zax k i _ (h.step ltS_ok (by omega) hk hl hlt) (by omega) (by rw [Z6d]; exact hl)
  | false => exact h.done (.inr hlt)
theorem Zb4 : ∀ (f i : Nat) (l : List Str), SAdj ltS 0 i l → i + f ≤ l.length → SAdj ltS 0 (i + f) (outF f i l)
 | 0, i, l, h, _ => h
 | f + 1, i, l, h, hl => by
  unfold outF
  rw [show i + (f + 1) = i + 1 + f from by omega]
  exact Zb4 f (i + 1) _ (Zax i i l (Ins.start h) (Nat.le_refl _) (by omega)) (by rw [Z7n]; omega)
theorem Zb7 (l : List Str) : SOn ltS 0 (risF l).length (risF l) := by
 have hl : (risF l).length = (dd l).length := (Z48 l).length_eq
 rw [hl]
 unfold risF
 cases h : (dd l).length with
 | zero => intro i j h1 h2 h3; omega
 | succ n =>
  have := Zb4 n 1 (dd l) (SAdj.refl1 (by omega)) (by omega)
  rw [show n + 1 - 1 = n from by omega, show n + 1 = 1 + n from by omega]
  exact this.on ltS_ok
theorem SOn.pw {m : List Str} (h : SOn ltS 0 m.length m) : m.Pairwise fun x y => ltS y x = false := by
 rw [List.pairwise_iff_getElem]
 intro i j hi hj hij
 have := h i j (by omega) (by omega) hj
 rwa [Z1c hj, Z1c hi] at this
theorem SOn.uniq {m r : List Str} (hp : m.Perm r) (hm : SOn ltS 0 m.length m) (hr : SOn ltS 0 r.length r) : m = r :=
 List.Perm.eq_of_pairwise (fun a b _ _ h k => Z5y k h) hm.pw hr.pw hp
def makeP (l : List Str) : List Str × Int := if l.any longS || decide (1024 < (dd l).length) then ([], 3) else (risF l, 0)
theorem Zei {a b : Str} (h : beqS a b = false) : a ≠ b := fun e => by rw [e, Z1y] at h; cases h
theorem Zit {l : List Str} {s : Str} {m : Nat} (h : allN (gS l) l.length = true) (hm : m < l.length) (hs : ltS (l.getD m default) s = true) : ∀ k, k < m + 1 → ltS (l.getD k default) s = true := fun k hk => by
 rcases Nat.lt_succ_iff_lt_or_eq.1 hk with h1 | h1
 ·exact Z5z (Z57 h m k h1 hm) hs
 ·rw [h1]; exact hs
theorem Zis {l : List Str} {s : Str} {m : Nat} (h : allN (gS l) l.length = true) (hm : m < l.length) (hs : ltS s (l.getD m default) = true) : ∀ k, m ≤ k → k < l.length → ltS s (l.getD k default) = true := fun k hk hl => by
 rcases Nat.lt_or_ge m k with h1 | h1
 ·exact Z5z hs (Z57 h k m h1 hl)
 ·have : k = m := by omega
  rw [this]; exact hs
theorem Za2 {l : List Str} (h1 : l.any longS = false) (h2 : (dd l).length ≤ 1024) : rightL (risF l) = true := by
 have hp := Z48 l
 have hnd : (risF l).Nodup := hp.nodup_iff.2 (Zeq l)
 have hlen : (risF l).length ≤ 1024 := by rw [hp.length_eq]; exact h2
 have hlong : (risF l).any longS = false := by
  rw [List.any_eq_false] at h1 ⊢
  intro x hx
  exact h1 x ((Zb6 l x).1 hx)
 unfold rightL
 rw [decide_eq_true hlen, hlong, allN_iff.2]
 ·rfl
 ·intro k hk h0
  unfold gS
  cases hlt : ltS ((risF l).getD (k - 1) default) ((risF l).getD k default) with
  | true => rfl
  | false =>
   exfalso
   have hs := Zb7 l (k - 1) k (by omega) (by omega) hk
   have e := Z5y hs hlt
   rw [Z1c hk, Z1c (by omega : k - 1 < (risF l).length)] at e
   exact List.pairwise_iff_getElem.1 hnd (k - 1) k (by omega) hk (by omega) e.symm
theorem Zff {l : List Str} (h : (makeP l).2 = 0) : (makeP l).1 = risF l ∧ rightL (risF l) = true := by
 unfold makeP at h ⊢
 cases h1 : l.any longS || decide (1024 < (dd l).length) with
 | true => rw [h1] at h; cases h
 | false =>
  rw [Bool.or_eq_false_iff] at h1
  exact ⟨rfl, Za2 h1.1 (by have := h1.2; simp at this; omega)⟩
theorem Zf4 {p : List Str} (hr : rightL p = true) {i : Nat} (hi : i < p.length) : findL p (p.getD i default) = (i : Int) := by
 have hal : allN (gS p) p.length = true := by have := hr; unfold rightL at this; exact Z6k this
 unfold findL
 rw [hr]
 exact Zgf hi rfl (fun k hk e => Z8s (Z57 hal i k hk hi) e)
theorem Zbx {G : Prop} {p : List Str} {s : Str} (hr : rightL p = true) (h : s ∈ p) (k : ∀ k, k < p.length → findL p s = (k : Int) → p.getD k default = s → G) : G := by
 obtain ⟨i, hi, e⟩ := List.getElem_of_mem h
 have e2 : p.getD i default = s := by rw [Z1c hi]; exact e
 exact k i hi (e2 ▸ Zf4 hr hi) e2
end Go.Sx
namespace Go.Sx
open Go
theorem Anc.trans {p : Prog} {a b c : Str} (h : Anc p a b) (k : Anc p b c) : Anc p a c := by
 induction k with
 | base _ => exact h
 | step _ hc hu hd ih => exact .step ih hc hu hd
theorem Anc.known {p : Prog} {a b : Str} (h : Anc p a b) : hasC p b = true := by
 cases h with
 | base hc => simp [hasC, hc]
 | step _ _ _ hd => simp [hasC, hd]
theorem subP_iff {p : Prog} {a b : Str} : subP p a b = true ↔ Anc p a b := by unfold subP; simp
theorem Ze2 {p : Prog} {a b : Str} (h : subP p a b = false) : ¬ Anc p a b := fun k => by rw [subP_iff.2 k] at h; cases h
theorem beqS_no {a b : Str} : beqS a b = false ↔ a ≠ b := by
 cases h : beqS a b with
 | true => have := beqS_iff.1 h; simp [this]
 | false => simp; intro e; subst e; rw [Z1y] at h; cases h
structure UpOK (p : Prog) (c : Cls) : Prop where
 sup : c.super ≠ zS → hasC p c.super = true ∧ ifaceP p c.super = false ∧ ¬ Anc p c.super c.name
 ifs : ∀ s, s ∈ c.ifaces → hasC p s = true ∧ ifaceP p s = true ∧ ¬ Anc p s c.name
theorem SoundP.ok {p : Prog} (h : SoundP p) {c : Cls} (hc : c ∈ p.classes) : UpOK p c := by
 have h1 := h.one c hc
 have h2 := h.two c hc
 unfold chk1 at h1
 unfold chk2 at h2
 have h3 : (!beqS c.super zS && !hasC p c.super) = false ∧ (c.ifaces.any fun s => !hasC p s) = false ∧ (!beqS c.super zS && ifaceP p c.super) = false ∧ (c.ifaces.any fun s => !ifaceP p s) = false := by
  revert h1
  generalize (!beqS c.super zS && !hasC p c.super) = a
  generalize (c.ifaces.any fun s => !hasC p s) = b
  generalize (!beqS c.super zS && ifaceP p c.super) = d
  generalize (c.ifaces.any fun s => !ifaceP p s) = e
  cases a <;> cases b <;> cases d <;> cases e <;> simp
 obtain ⟨a1, a2, a3, a4⟩ := h3
 rw [Bool.or_eq_false_iff] at h2
 obtain ⟨a5, a6⟩ := h2
 rw [List.any_eq_false] at a2 a4 a6
 refine ⟨fun hn => ?_, fun s hs => ⟨by simpa using a2 s hs, by simpa using a4 s hs, Ze2 (by simpa using a6 s hs)⟩⟩
 rw [beqS_no.2 hn] at a1 a3 a5
 exact ⟨by simpa using a1, by simpa using a3, Ze2 (by simpa using a5)⟩
theorem Zgm {p : Prog} (hs : SoundP p) {s : Str} {c : Cls} (hc : clsFind p s = some c) (hn : c.super ≠ zS) : Anc p s c.super := by
 obtain ⟨d, hd⟩ := Z46 ((hs.ok (Z0r hc).2).sup hn).1
 exact .step (.base hc) hc (by unfold upC; rw [beqS_no.2 hn]; exact List.mem_cons_self) hd
theorem Zkx {p : Prog} (hs : SoundP p) {s : Str} {c : Cls} (hc : clsFind p s = some c) (hn : c.super ≠ zS) : ¬ Anc p c.super s := by
 have := ((hs.ok (Z0r hc).2).sup hn).2.2
 rwa [(Z0r hc).1] at this
theorem Z87 {α : Type} {q r : α → Bool} : ∀ {l : List α} {a : α}, (∀ z, q z = true → r z = true) → a ∈ l → r a = true → q a = false → l.countP q < l.countP r
 | [], _, _, h, _, _ => nomatch h
 | x :: l, a, hm, h, hr, hq => by
  rw [List.countP_cons, List.countP_cons]
  rcases List.mem_cons.1 h with rfl | h
  ·have := List.countP_mono_left (l := l) (p := q) (q := r) (fun z _ => hm z)
   rw [hr, hq]; simp; omega
  ·have ih := Z87 hm h hr hq
   have : (if q x = true then 1 else 0) ≤ (if r x = true then 1 else 0 : Nat) := by
    cases hqx : q x with
    | false => simp
    | true => rw [hm x hqx]; simp
   omega
noncomputable def mu (p : Prog) (s : Str) : Nat := (p.classes.map Cls.name).countP (subP p s)
theorem Zhp {p : Prog} (hs : SoundP p) {s : Str} {c : Cls} (hc : clsFind p s = some c) (hn : c.super ≠ zS) : mu p c.super < mu p s := by
 refine Z87 (a := s) (fun z hz => subP_iff.2 ((Zgm hs hc hn).trans (subP_iff.1 hz))) (Z7m (by simp [hasC, hc])) (subP_iff.2 (.base hc)) ?_
 cases h : subP p c.super s with
 | false => rfl
 | true => exact absurd (subP_iff.1 h) (Zkx hs hc hn)
theorem Zdg {p : Prog} {s : Str} (h : mu p s = 0) : clsFind p s = none := by
 cases hc : clsFind p s with
 | none => rfl
 | some c =>
  have hm : s ∈ p.classes.map Cls.name := Z7m (by simp [hasC, hc])
  have := List.countP_pos_iff.2 ⟨s, hm, subP_iff.2 (.base hc)⟩
  unfold mu at h; omega
theorem Zju (p : Prog) (s : Str) : mu p s ≤ p.classes.length := by
 have := List.countP_le_length (p := subP p s) (l := p.classes.map Cls.name)
 simpa [mu] using this
def chain (p : Prog) : Nat → Str → List Str
 | 0, _ => []
 | n + 1, s => match clsFind p s with
  | none => []
  | some c => s :: (if beqS c.super zS then [] else chain p n c.super)
theorem Z5e {p : Prog} (hs : SoundP p) : ∀ {n : Nat} {s z : Str}, z ∈ chain p n s → Anc p s z
 | 0, _, _, h => nomatch h
 | n + 1, s, z, h => by
  unfold chain at h
  cases hc : clsFind p s with
  | none => rw [hc] at h; cases h
  | some c =>
   rw [hc] at h
   rcases List.mem_cons.1 h with rfl | h
   ·exact .base hc
   ·cases hb : beqS c.super zS with
    | true => rw [hb] at h; cases h
    | false => rw [hb] at h; exact (Zgm hs hc (beqS_no.1 hb)).trans (Z5e hs h)
theorem Z3d {p : Prog} (hs : SoundP p) : ∀ (n : Nat) (s : Str) (out : List Str), (∀ z, z ∈ out → z ∉ chain p n s) → supF p n s out = out ++ chain p n s
 | 0, _, out, _ => by simp [supF, chain]
 | n + 1, s, out, h => by
  unfold supF chain
  unfold chain at h
  cases hc : clsFind p s with
  | none => simp
  | some c =>
   rw [hc] at h
   simp only at h ⊢
   rw [(Z0r hc).1]
   have hin : inL out s = false := inL_false.2 fun hx => h s hx List.mem_cons_self
   rw [hin]
   cases hb : beqS c.super zS with
   | true => simp
   | false =>
    rw [hb] at h
    simp only [Bool.false_eq_true, if_false] at h ⊢
    rw [Z3d hs n c.super (out ++ [s])]
    ·simp
    ·intro z hz hk
     rcases List.mem_append.1 hz with hz | hz
     ·exact h z hz (List.mem_cons_of_mem _ hk)
     ·rw [List.mem_singleton] at hz; subst hz
      exact Zkx hs hc (beqS_no.1 hb) (Z5e hs hk)
theorem Z4q {p : Prog} (hs : SoundP p) : ∀ (n m : Nat) (s : Str), mu p s ≤ n → mu p s ≤ m → chain p n s = chain p m s
 | 0, 0, _, _, _ => rfl
 | 0, m + 1, s, h, _ => by unfold chain; rw [Zdg (by omega)]
 | n + 1, 0, s, _, h => by unfold chain; rw [Zdg (by omega)]
 | n + 1, m + 1, s, h1, h2 => by
  unfold chain
  cases hc : clsFind p s with
  | none => rfl
  | some c =>
   simp only
   cases hb : beqS c.super zS with
   | true => rfl
   | false =>
    have := Zhp hs hc (beqS_no.1 hb)
    simp only [Bool.false_eq_true, if_false]
    rw [Z4q hs n m c.super (by omega) (by omega)]
theorem Z6c {p : Prog} {s : Str} (h : clsFind p s = none) : supers p s = [] := by unfold supers supF; rw [h]
theorem Z6a {p : Prog} (hs : SoundP p) {s : Str} {c : Cls} (hc : clsFind p s = some c) : supers p s = s :: (if beqS c.super zS then [] else supers p c.super) := by
 unfold supers
 rw [Z3d hs _ _ _ (fun _ h => absurd h List.not_mem_nil), Z3d hs _ _ _ (fun _ h => absurd h List.not_mem_nil), List.nil_append, List.nil_append]
 conv => lhs; unfold chain
 rw [hc]
 simp only
 cases hb : beqS c.super zS with
 | true => rfl
 | false =>
  have h1 := Zhp hs hc (beqS_no.1 hb)
  have h2 := Zju p s
  simp only [Bool.false_eq_true, if_false]
  rw [Z4q hs p.classes.length (p.classes.length + 1) c.super (by omega) (by omega)]
theorem Z3e {p : Prog} (hs : SoundP p) : ∀ (n : Nat) (x y : Str), mu p x ≤ n → y ∈ supers p x → ∃ pre, supers p x = pre ++ supers p y
 | 0, x, y, h, hy => by rw [Z6c (Zdg (by omega))] at hy; cases hy
 | n + 1, x, y, h, hy => by
  cases hc : clsFind p x with
  | none => rw [Z6c hc] at hy; cases hy
  | some c =>
   have e := Z6a hs hc
   rw [e] at hy
   rcases List.mem_cons.1 hy with rfl | hy
   ·exact ⟨[], rfl⟩
   ·cases hb : beqS c.super zS with
    | true => rw [hb] at hy; cases hy
    | false =>
     rw [hb] at hy e
     simp only [Bool.false_eq_true, if_false] at hy e
     have := Zhp hs hc (beqS_no.1 hb)
     obtain ⟨pre, h2⟩ := Z3e hs n c.super y (by omega) hy
     exact ⟨x :: pre, by rw [e, h2]; rfl⟩
theorem Z95 {p : Prog} (hs : SoundP p) {x y z : Str} (h : y ∈ supers p x) (k : z ∈ supers p y) : z ∈ supers p x := by
 obtain ⟨pre, e⟩ := Z3e hs _ x y (Nat.le_refl _) h
 rw [e]; exact List.mem_append_right _ k
theorem Z74 {p : Prog} (hs : SoundP p) {x y : Str} (h : y ∈ supers p x) : Anc p x y := by
 unfold supers at h
 rw [Z3d hs _ _ _ (fun _ h => absurd h List.not_mem_nil), List.nil_append] at h
 exact Z5e hs h
theorem Z6b {p : Prog} (hs : SoundP p) {x : Str} (h : hasC p x = true) : ∃ r, supers p x = x :: r := by
 obtain ⟨c, hc⟩ := Z46 h
 exact ⟨_, Z6a hs hc⟩
theorem Za6 {p : Prog} (hs : SoundP p) {x y : Str} (h : y ∈ supers p x) (k : x ∈ supers p y) : x = y := by
 obtain ⟨a, e1⟩ := Z3e hs _ x y (Nat.le_refl _) h
 obtain ⟨b, e2⟩ := Z3e hs _ y x (Nat.le_refl _) k
 have h1 := congrArg List.length e1
 have h2 := congrArg List.length e2
 simp only [List.length_append] at h1 h2
 have ha : a = [] := List.eq_nil_of_length_eq_zero (by omega)
 rw [ha, List.nil_append] at e1
 obtain ⟨r, hx⟩ := Z6b hs (Z74 hs k).known
 obtain ⟨r', hy⟩ := Z6b hs (Z74 hs h).known
 rw [hx, hy] at e1
 exact (List.cons.inj e1).1
def upS (p : Prog) (x z : Str) : Prop := z = x ∨ (ifaceP p x = false ∧ z ∈ supers p x)
theorem Ze8 {p : Prog} (hs : SoundP p) {x y z : Str} (h : upS p x y) (k : upS p y z) : upS p x z := by
 rcases h with rfl | ⟨h1, h2⟩
 ·exact k
 ·rcases k with rfl | ⟨k1, k2⟩
  ·exact .inr ⟨h1, h2⟩
  ·exact .inr ⟨h1, Z95 hs h2 k2⟩
theorem Zfu {p : Prog} (hs : SoundP p) {x y : Str} (h : upS p x y) (k : upS p y x) : x = y := by
 rcases h with rfl | ⟨_, h⟩
 ·rfl
 ·rcases k with rfl | ⟨_, k⟩
  ·rfl
  ·exact Za6 hs h k
theorem Zd7 {a b : Fact} (h1 : a.kind = b.kind) (h2 : a.cls = b.cls) : a = b := by cases a; cases b; cases h1; cases h2; rfl
def NearOK (f : Fact) : Prop := 0 ≤ f.kind ∧ f.kind ≤ 6 ∧ (f.kind = 3 ∨ f.kind = 5 ∨ f.cls = zS)
def rK (f : Fact) : Prop := 2 ≤ f.kind ∧ f.kind ≤ 6
def LeF (p : Prog) (a b : Fact) : Prop := a = b ∨ b = ⟨0, zS⟩ ∨ (rK a ∧ rK b ∧ (a.kind = 2 ∨ b.kind = 6 ∨ (a.kind = 3 ∧ b.kind = 3 ∧ upS p a.cls b.cls)))
theorem LeF.refl (p : Prog) (a : Fact) : LeF p a a := .inl rfl
theorem rK0 : ¬ rK ⟨0, zS⟩ := fun h => by have := h.1; simp at this
theorem LeF.trans {p : Prog} (hs : SoundP p) {a b c : Fact} (h : LeF p a b) (k : LeF p b c) : LeF p a c := by
 rcases h with rfl | rfl | ⟨h1, h2, h3⟩
 ·exact k
 ·rcases k with rfl | rfl | ⟨k1, k2, k3⟩
  ·exact .inr (.inl rfl)
  ·exact .inr (.inl rfl)
  ·exact absurd k1 rK0
 ·rcases k with rfl | rfl | ⟨k1, k2, k3⟩
  ·exact .inr (.inr ⟨h1, h2, h3⟩)
  ·exact .inr (.inl rfl)
  ·refine .inr (.inr ⟨h1, k2, ?_⟩)
   rcases h3 with h3 | h3 | ⟨h3, h4, h5⟩
   ·exact .inl h3
   ·rcases k3 with k3 | k3 | ⟨k3, _⟩
    ·omega
    ·exact .inr (.inl k3)
    ·omega
   ·rcases k3 with k3 | k3 | ⟨k3, k4, k5⟩
    ·omega
    ·exact .inr (.inl k3)
    ·exact .inr (.inr ⟨h3, k4, Ze8 hs h5 k5⟩)
theorem LeF.anti {p : Prog} (hs : SoundP p) {a b : Fact} (ha : NearOK a) (hb : NearOK b) (h : LeF p a b) (k : LeF p b a) : a = b := by
 rcases h with rfl | rfl | ⟨h1, h2, h3⟩
 ·rfl
 ·rcases k with k | k | ⟨k1, _⟩
  ·exact k.symm
  ·exact k
  ·exact absurd k1 rK0
 ·rcases k with k | rfl | ⟨k1, k2, k3⟩
  ·exact k.symm
  ·exact absurd h1 rK0
  ·obtain ⟨_, _, ha⟩ := ha
   obtain ⟨_, _, hb⟩ := hb
   have zz : a.kind = b.kind → a.kind ≠ 3 → a.kind ≠ 5 → a = b := fun e n3 n5 => by
    refine Zd7 e ?_
    rcases ha with ha | ha | ha
    ·exact absurd ha n3
    ·exact absurd ha n5
    ·rcases hb with hb | hb | hb
     ·exact absurd (e.trans hb) n3
     ·exact absurd (e.trans hb) n5
     ·rw [ha, hb]
   rcases h3 with h3 | h3 | ⟨h3, h4, h5⟩
   ·rcases k3 with k3 | k3 | ⟨k3, k4, k5⟩
    ·exact zz (by omega) (by omega) (by omega)
    ·omega
    ·omega
   ·rcases k3 with k3 | k3 | ⟨k3, k4, k5⟩
    ·omega
    ·exact zz (by omega) (by omega) (by omega)
    ·omega
   ·rcases k3 with k3 | k3 | ⟨k3, k4, k5⟩
    ·omega
    ·omega
    ·exact Zd7 (by omega) (Zfu hs h5 k5)
structure Lub (p : Prog) (a b j : Fact) : Prop where
 ok : NearOK j
 l : LeF p a j
 r : LeF p b j
 u : ∀ c, NearOK c → LeF p a c → LeF p b c → LeF p j c
section
variable {p : Prog} (hs : SoundP p) {a b c : Fact} (ha : NearOK a) (hb : NearOK b) (hc : NearOK c)
include hs ha hb
include hc
end
section
variable {p : Prog} (hs : SoundP p) {a b c : Fact} (ha : NearOK a) (hb : NearOK b) (hc : NearOK c)
include hs ha hb
include hc
end
end Go.Sx
namespace Go.Sx
open Go
def rotF (l : List Str) (k i : Nat) : List Str := (List.range i).map fun j => l.getD ((j + k) % l.length) default
end Go.Sx
namespace Go.Sx
open Go
def SeqGR {α : Type} (Fin : List α → Prop) (J Jx : List α → AHeap → Prop) : AEnd → AHeap → Prop :=
 fun e H' => (∃ v, e = .ret v) ∧ ((∃ l H'', Fin l ∧ H'.Perm H'' ∧ J l H'') ∨ (∃ pre H'', H'.Perm H'' ∧ Jx pre H''))
structure SeqG {α : Type} (P : Program) (gf : Nat) (caps : List AV) (Hit : AHeap) (enc : α → List AV) (Adm Fin : List α → Prop) : Prop where
 ok : Callable P gf
 run : ∀ (id : Nat) (J Jx : List α → AHeap → Prop),
  (∀ pre x H, Adm (pre ++ [x]) → J pre H → YCalls P id (enc x) H (fun e H' => (e = .ret (.v (.bool true)) ∧ J (pre ++ [x]) H') ∨ (e = .ret (.v (.bool false)) ∧ Jx (pre ++ [x]) H'))) →
  ∀ H, J [] H → ACalls P gf (.yld id :: caps) (Hit ++ H) (SeqGR Fin J Jx)
end Go.Sx
namespace Go.Sx
open Go
open Go.ChangeMaps (setBlock)
def AWpO (Z : List Nat) (C0 : Ctx) (H0 : AHeap) (w0 : World) (P : Program) (ro : Option Nat) (c : Code) (Q : Exit → St → Prop) (s : St) : Prop :=
 ∀ C a w, Ext Z C0 H0 w0 C s.H w → SR C s a w → c.wpIn (Wd ro) 0 P (Post Z C0 H0 w0 Q) a w
def AOpsO (Z : List Nat) (C0 : Ctx) (H0 : AHeap) (w0 : World) (P : Program) (ro : Option Nat) (ops : Array Oper) (l : List Oper) (Q : Exit → St → Prop) (s : St) : Prop :=
 ∀ k, ops.toList.drop k = l → ∀ C a w, Ext Z C0 H0 w0 C s.H w → SR C s a w → wpOpsIn (Wd ro) 0 P ops (Post Z C0 H0 w0 Q) (List.range' k l.length) a w
section
variable {Z : List Nat} {C0 : Ctx} {H0 : AHeap} {w0 : World} {P : Program} {ro : Option Nat} {Q : Exit → St → Prop} {s : St}
def StepO (Z : List Nat) (C0 : Ctx) (H0 : AHeap) (w0 : World) (P : Program) (ro : Option Nat) (o : Oper) (K : St → Prop) (KP : List PanicEntry → St → Prop) (s : St) : Prop :=
 ∀ C a w, Ext Z C0 H0 w0 C s.H w → SR C s a w →
  o.uponIn (Wd ro) 0 P a (Sat Z C0 H0 w0 K) (fun e a' w' => match e with | .panic ch => Sat Z C0 H0 w0 (KP ch) a' w' | _ => False) ((o.semAt ro a.eval).run P w)
end
def keyS (e : MapEntry) : Str := match e.key with | .string s => s | _ => default
def bornsA (x : List MapEntry) : Array Nat := (x.map (·.born)).toArray
theorem bornsA_has {x : List MapEntry} {b : Nat} : (bornsA x).contains b = true ↔ b ∈ x.map (·.born) := by simp [bornsA]
structure SetE (out : List Str) (ents : Array MapEntry) (clock : Nat) : Prop where
 key : ents.toList.map (·.key) = out.map Value.string
 born : ∀ e ∈ ents.toList, e.born < clock
 nd : (ents.toList.map (·.born)).Nodup
theorem SetE.keyS {out : List Str} {ents : Array MapEntry} {clock : Nat} (h : SetE out ents clock) {e : MapEntry} (he : e ∈ ents.toList) : e.key = .string (Sx.keyS e) ∧ Sx.keyS e ∈ out := by
 have h1 : e.key ∈ out.map Value.string := h.key ▸ List.mem_map.2 ⟨e, he, rfl⟩
 obtain ⟨s, hs, hk⟩ := List.mem_map.1 h1
 unfold Sx.keyS
 rw [← hk]
 exact ⟨rfl, hs⟩
theorem SetE.all {out : List Str} {ents : Array MapEntry} {clock : Nat} (h : SetE out ents clock) {s : Str} (hs : s ∈ out) : ∃ e ∈ ents.toList, Sx.keyS e = s := by
 have h1 : Value.string s ∈ ents.toList.map (·.key) := h.key ▸ List.mem_map.2 ⟨s, hs, rfl⟩
 obtain ⟨e, he, hk⟩ := List.mem_map.1 h1
 refine ⟨e, he, ?_⟩
 unfold Sx.keyS
 rw [hk]
theorem SetE.keys {out : List Str} {ents : Array MapEntry} {clock : Nat} (h : SetE out ents clock) : ents.toList.map Sx.keyS = out := by
 have h1 : ents.toList.map Sx.keyS = (ents.toList.map (·.key)).map (fun v => match v with | .string s => s | _ => default) := by rw [List.map_map]; rfl
 rw [h1, h.key, List.map_map]
 exact (List.map_congr_left fun s _ => rfl).trans (List.map_id _)
structure Got (out : List Str) (ents : Array MapEntry) (x : List MapEntry) : Prop where
 sub : ∀ e ∈ x, e ∈ ents.toList
 nd : (x.map (·.born)).Nodup
theorem Got.start (out : List Str) (ents : Array MapEntry) : Got out ents [] := ⟨nofun, List.nodup_nil⟩
theorem Got.step {out : List Str} {ents : Array MapEntry} {x : List MapEntry} {e : MapEntry} (h : Got out ents x) (he : e ∈ (leftOf ents (bornsA x)).toList) : Got out ents (x ++ [e]) := by
 obtain ⟨h1, h2⟩ := mem_left he
 refine ⟨fun z hz => ?_, ?_⟩
 ·rcases List.mem_append.1 hz with hz | hz
  ·exact h.sub z hz
  ·rw [List.mem_singleton.1 hz]; exact h1
 ·rw [List.map_append, List.nodup_append]
  refine ⟨h.nd, by simp, ?_⟩
  rintro a ha b hb rfl
  rw [List.map_singleton, List.mem_singleton] at hb
  subst hb
  rw [bornsA_has.2 ha] at h2; cases h2
theorem Got.keys {out : List Str} {ents : Array MapEntry} {clock : Nat} (hs : SetE out ents clock) (ho : out.Nodup) {x : List MapEntry} (h : Got out ents x) : (x.map keyS).Nodup ∧ ∀ s, s ∈ x.map keyS → s ∈ out := by
 refine ⟨?_, fun s hsx => ?_⟩
 ·have hk : ∀ a b : MapEntry, a ∈ ents.toList → b ∈ ents.toList → keyS a = keyS b → a.born = b.born := by
   intro a b ha hb hab
   obtain ⟨i, hi, rfl⟩ := List.mem_iff_getElem.1 ha
   obtain ⟨j, hj, rfl⟩ := List.mem_iff_getElem.1 hb
   have e1 := hs.keys
   have hnd : (ents.toList.map keyS).Nodup := by rw [e1]; exact ho
   have hi' : i < (ents.toList.map keyS).length := by simpa using hi
   have hj' : j < (ents.toList.map keyS).length := by simpa using hj
   have : i = j := (List.getElem_inj (h₀ := hi') (h₁ := hj') hnd).1 (by simpa using hab)
   subst this; rfl
  have hx := h.nd
  unfold List.Nodup at hx ⊢
  rw [List.pairwise_map] at hx ⊢
  refine List.Pairwise.imp_of_mem ?_ hx
  intro a b ha hb hne hab
  exact hne (hk a b (h.sub a ha) (h.sub b hb) hab)
 ·obtain ⟨e, he, rfl⟩ := List.mem_map.1 hsx
  exact (hs.keyS (h.sub e he)).2
theorem Got.fin {out : List Str} {ents : Array MapEntry} {clock : Nat} (hs : SetE out ents clock) (ho : out.Nodup) {x : List MapEntry} (h : Got out ents x) (hz : (leftOf ents (bornsA x)).size = 0) : (x.map keyS).Perm out := by
 obtain ⟨h1, h2⟩ := h.keys hs ho
 refine (List.perm_ext_iff_of_nodup h1 ho).2 fun s => ⟨h2 s, fun hso => ?_⟩
 obtain ⟨e, he, rfl⟩ := hs.all hso
 have h3 := bornsA_has.1 (all_seen _ _ hz e he)
 obtain ⟨e', he', hb⟩ := List.mem_map.1 h3
 rw [← born_inj hs.nd (h.sub e' he') he hb]
 exact List.mem_map.2 ⟨e', he', rfl⟩
def AdmS (out : List Str) (l : List Str) : Prop := l.Nodup ∧ ∀ s, s ∈ l → s ∈ out
def FinS (out : List Str) (l : List Str) : Prop := l.Perm out
theorem AdmS.len {out l : List Str} (h : AdmS out l) : l.length ≤ out.length := Z1r h.1 h.2
def MapN (p : Prog) (nm : Str) : AEnd → AHeap → Prop := fun e H => ∃ q out, e = .ret (.map q) ∧ H = [(q, .mp (setM out))] ∧ out.Nodup ∧ out.length ≤ p.classes.length ∧ ∀ s, s ∈ out ↔ Anc p nm s
end Go.Sx
namespace Go.Sx
open Go
noncomputable def ancL (p : Prog) (nm : Str) : List Str := risF ((p.classes.map Cls.name).filter (subP p nm))
noncomputable def subsL (p : Prog) (nm : Str) : List Str := risF ((p.classes.map Cls.name).filter fun s => subP p s nm)
noncomputable def subN (p : Prog) (nm : Str) (n : Nat) : List Str := ((p.classes.take n).map Cls.name).filter fun s => subP p s nm
def cptS (l : List Str) (n : Nat) : Bool := !beqS (l.getD n default) (l.getD (n - 1) default)
def cptN (l : List Str) (n : Nat) : List Str := ((List.range n).filter fun k => Nat.beq k 0 || cptS l k).map fun k => l.getD k default
theorem Z3y (l : List Str) (n : Nat) : cptN l (n + 1) = cptN l n ++ (if Nat.beq n 0 || cptS l n then [l.getD n default] else []) := by
 unfold cptN
 rw [List.range_succ, List.filter_append, List.map_append]
 congr 1
 simp only [List.filter_cons, List.filter_nil]
 split <;> rfl
theorem Z88 {l : List Str} : ∀ {n : Nat}, n ≤ l.length → (∀ k, 0 < k → k < n → cptS l k = true) → cptN l n = l.take n
 | 0, _, _ => rfl
 | n + 1, hn, h => by
  rw [Z3y, Z88 (by omega) (fun k h0 hk => h k h0 (by omega)), Z1t (show n < l.length by omega)]
  congr 1
  rw [if_pos]
  ·rw [Z1c (show n < l.length by omega)]
  ·cases n with
   | zero => rfl
   | succ n => rw [h (n + 1) (by omega) (by omega), Bool.or_true]
structure CptJ (l : List Str) (k : Nat) (m : List Str) (k2 j : Nat) : Prop where
 h1 : 1 ≤ j
 h2 : j ≤ l.length - k
 h3 : k ≤ k2
 h4 : k2 + 1 ≤ k + j
 hl : m.length = l.length
 ht : m.take k2 = cptN l (k + j)
 ho : ∀ i, k2 ≤ i → m.getD i default = l.getD i default
theorem CptJ.start {l : List Str} {k : Nat} (h0 : 1 ≤ k) (h1 : k < l.length) (h : ∀ i, 0 < i → i < k → cptS l i = true) (he : beqS (l.getD k default) (l.getD (k - 1) default) = true) : CptJ l k l k 1 := by
 refine ⟨Nat.le_refl _, by omega, Nat.le_refl _, Nat.le_refl _, rfl, ?_, fun _ _ => rfl⟩
 rw [Z3y, if_neg, List.append_nil, Z88 (by omega) h]
 unfold cptS
 rw [he]
 simp
 omega
theorem CptJ.keep {l m : List Str} {k k2 j : Nat} (h : CptJ l k m k2 j) (hj : j < l.length - k) (he : beqS (m.getD (k + j) default) (m.getD (k + (j - 1)) default) = true) : CptJ l k m k2 (j + 1) := by
 have g1 := h.h1
 have g4 := h.h4
 refine ⟨by omega, by omega, h.h3, by omega, h.hl, ?_, h.ho⟩
 rw [h.ho _ (by omega), h.ho _ (by omega)] at he
 rw [show k + (j + 1) = (k + j) + 1 by omega, Z3y, if_neg, List.append_nil]
 ·exact h.ht
 ·unfold cptS
  rw [show k + j - 1 = k + (j - 1) by omega, he]
  simp
  omega
theorem CptJ.put {l m : List Str} {k k2 j : Nat} (h : CptJ l k m k2 j) (hj : j < l.length - k) (he : (!beqS (m.getD (k + j) default) (m.getD (k + (j - 1)) default)) = true) : CptJ l k (m.set k2 (m.getD (k + j) default)) (k2 + 1) (j + 1) := by
 have g1 := h.h1
 have g4 := h.h4
 have gl := h.hl
 have hx := h.ho (k + j) (by omega)
 have h0 := h.ho (k + (j - 1)) (by omega)
 refine ⟨by omega, by omega, by have := h.h3; omega, by omega, by rw [List.length_set]; exact gl, ?_, ?_⟩
 ·rw [hx, h0] at he
  rw [show k + (j + 1) = (k + j) + 1 by omega, Z3y, if_pos, ← h.ht]
  ·rw [Z1t (by rw [List.length_set]; omega), List.take_set_of_le (Nat.le_refl _), List.getElem_set_self, hx]
  ·unfold cptS
   rw [show k + j - 1 = k + (j - 1) by omega, he, Bool.or_true]
 ·intro i hi
  rw [← h.ho i (by omega)]
  simp only [List.getD, List.getElem?_set]
  rw [if_neg (by omega)]
theorem CptJ.fin {l m : List Str} {k k2 j : Nat} (h : CptJ l k m k2 j) (hk : k < l.length) (hj : ¬ j < l.length - k) : m.take k2 = cptN l l.length ∧ k2 < l.length := by
 have g2 := h.h2
 have g4 := h.h4
 refine ⟨?_, by omega⟩
 rw [h.ht]
 congr 1
 omega
def nno : Str := ⟨#[110, 111]⟩
def nameP (p : Prog) (k : Int) : Str := if p.classes.length = 0 ∨ k = 255 then nno else (p.classes.getD (k.tmod p.classes.length).toNat default).name
end Go.Sx
namespace Go.Sx
open Go
def okU (p : Prog) (i : Nat) : Bool := !((p.classes.getD i default).iface && !beqS (p.classes.getD i default).super zS) && !(beqS (p.classes.getD i default).name zS || classAt p (p.classes.getD i default).name != (i : Int))
def unlikeB (p : Prog) : Bool := (List.range p.classes.length).all (okU p)
structure UnlikeP (p : Prog) : Prop where
 top : ∀ c, c ∈ p.classes → c.iface = true → c.super = zS
 nm : ∀ c, c ∈ p.classes → c.name ≠ zS
section
variable {p : Prog} {a b c : Str}
end
def nI : Str := ⟨#[73]⟩
def lhA : Cls := ⟨nA, zS, false, false, [], [], []⟩
def lhB : Cls := ⟨nB, nA, false, false, [nI], [], []⟩
def lhC : Cls := ⟨nC, nA, false, false, [], [], []⟩
def lhI : Cls := ⟨nI, zS, true, true, [], [], []⟩
def lhP : Prog := ⟨[lhA, lhB, lhC, lhI], [], ⟨zS, zS, zS⟩⟩
def lhA2 : Cls := ⟨nA, nB, false, false, [], [], []⟩
def lhB2 : Cls := ⟨nB, nA, false, false, [], [], []⟩
def lhQ : Prog := ⟨[lhA2, lhB2], [], ⟨zS, zS, zS⟩⟩
def subC (p : Prog) (n : Nat) (a b : Str) : Bool := match ancRun p n [a] [] with | some out => inL out b | none => false
def chk2C (p : Prog) (n : Nat) (c : Cls) : Bool := (upC c).any fun s => subC p n s c.name
end Go.Sx
namespace Go.Sx
open Go
def zCl : Cls := ⟨zS, zS, false, false, [], [], []⟩
def zMt : Meth := ⟨zS, zS, false, false, 0, []⟩
def zMR : MRef := ⟨zS, zS, zS⟩
def zFl : Fld := ⟨zS, ⟨0, zS⟩, false⟩
structure FRef where
 cls : Str
 name : Str
 deriving DecidableEq
def FRef.cells (f : FRef) : List AV := [sA f.cls, sA f.name]
def FRef.av (f : FRef) : AV := .agg f.cells
def Meth.av (m : Meth) : AV := .agg m.cells
def MRef.av (m : MRef) : AV := .agg m.cells
def Fld.av (f : Fld) : AV := .agg f.cells
def Instr.av (i : Instr) : AV := .agg i.cells
def zFR : FRef := ⟨zS, zS⟩
def nInit : Str := ⟨#[60, 99, 108, 105, 110, 105, 116, 62]⟩
def nVd : Str := ⟨#[40, 41, 86]⟩
def knownC (p : Prog) (nm : Str) : Cls := (clsFind p nm).getD zCl
def fldAt (c : Cls) (nm : Str) : Int := idxFrom (fun f : Fld => beqS f.name nm) c.fields 0
def mthAt (c : Cls) (nm d : Str) : Int := idxFrom (fun m : Meth => beqS m.name nm && beqS m.desc d) c.methods 0
def fldC (c : Cls) (nm : Str) : Option Fld := c.fields.find? fun f => beqS f.name nm
def mthC (c : Cls) (nm d : Str) : Option Meth := c.methods.find? fun m => beqS m.name nm && beqS m.desc d
def getP (p : Prog) (m : MRef) : Option Meth := mthC (knownC p m.cls) m.name m.desc
def fldP (p : Prog) (f : FRef) : Option Fld := fldC (knownC p f.cls) f.name
def fieldW (p : Prog) (f : FRef) : Option FRef := ((supers p f.cls).find? fun s => (fldP p ⟨s, f.name⟩).isSome).map fun s => ⟨s, f.name⟩
def firstP (p : Prog) (l : List Str) (m : MRef) : Option MRef := (l.find? fun s => (getP p ⟨s, m.name, m.desc⟩).isSome).map fun s => ⟨s, m.name, m.desc⟩
def declP (p : Prog) (l : List Str) (m : MRef) (may : Meth → Bool) : Option MRef := match firstP p l m with
 | none => none
 | some r => match getP p r with
  | some x => if may x then some r else none
  | none => none
def mayS (x : Meth) : Bool := x.static
def mayD (x : Meth) : Bool := (!x.static && !x.abs) && !beqS x.name nInit
def mayV (x : Meth) : Bool := !x.static && !beqS x.name nInit
def initP (p : Prog) (c : Str) : Option MRef := match getP p ⟨c, nInit, nVd⟩ with
 | some x => if x.static then some ⟨c, nInit, nVd⟩ else none
 | none => none
def askedP (p : Prog) (x y z : Int) : MRef :=
 if p.classes.length = 0 then ⟨nA, ⟨#[109]⟩, nVd⟩ else
 let c := p.classes.getD (y.tmod p.classes.length).toNat default
 let k := c.methods.getD (z.tmod c.methods.length).toNat default
 ⟨(p.classes.getD (x.tmod p.classes.length).toNat default).name, if c.methods.length = 0 then zS else k.name, if c.methods.length = 0 then zS else k.desc⟩
def fieldQ (p : Prog) (x y z : Int) : FRef :=
 let c := p.classes.getD (y.tmod p.classes.length).toNat default
 ⟨(askedP p x y z).cls, if p.classes.length = 0 then ⟨#[102]⟩ else if c.fields.length = 0 then ⟨#[102]⟩ else (c.fields.getD (z.tmod c.fields.length).toNat default).name⟩
end Go.Sx
namespace Go.Sx
open Go
def nm1 : Str := ⟨#[109]⟩
def ns1 : Str := ⟨#[115]⟩
def nf1 : Str := ⟨#[102]⟩
def lfI : Instr := ⟨23, 0, 0, 0, 0, zS, zS, zS, []⟩
def lfM : Meth := ⟨nm1, nVd, false, false, 1, [lfI]⟩
def lfS : Meth := ⟨ns1, nVd, true, false, 0, [lfI]⟩
def lfF : Fld := ⟨nf1, ⟨2, zS⟩, false⟩
def lfA : Cls := ⟨nA, zS, false, false, [], [lfF], [lfM, lfS]⟩
def lfB : Cls := ⟨nB, nA, false, false, [], [], []⟩
def lfP : Prog := ⟨[lfA, lfB], [], ⟨zS, zS, zS⟩⟩
end Go.Sx
namespace Go.Sx
open Go
def cmpT (a b : Str) : Int := if ltS a b then -1 else if ltS b a then 1 else 0
def cmpI (a b : Int) : Int := if a < b then -1 else if b < a then 1 else 0
def orI (a b : Int) : Int := if a = 0 then b else a
structure PreC {α : Type} (f : α → α → Int) : Prop where
 rg : ∀ x y, f x y = -1 ∨ f x y = 0 ∨ f x y = 1
 anti : ∀ x y, f x y = - f y x
 tr : ∀ x y z, f x y ≤ 0 → f y z ≤ 0 → f x z ≤ 0
namespace PreC
variable {α β : Type} {f g : α → α → Int}
theorem str1 (h : PreC f) {x y z : α} (h1 : f x y < 0) (h2 : f y z ≤ 0) : f x z < 0 := by
 have h3 := h.tr x y z (by omega) h2
 have h4 := h.anti x z
 have h5 := h.anti x y
 by_cases e : f x z = 0
 ·have := h.tr y z x h2 (by omega); omega
 ·omega
theorem str2 (h : PreC f) {x y z : α} (h1 : f x y ≤ 0) (h2 : f y z < 0) : f x z < 0 := by
 have h3 := h.tr x y z h1 (by omega)
 have h4 := h.anti x z
 have h5 := h.anti y z
 by_cases e : f x z = 0
 ·have := h.tr z x y (by omega) h1; omega
 ·omega
theorem or (h : PreC f) (k : PreC g) : PreC fun x y => orI (f x y) (g x y) where
 rg x y := by
  unfold orI
  split
  ·exact k.rg x y
  ·exact h.rg x y
 anti x y := by
  have h1 := h.anti x y
  have h2 := k.anti x y
  unfold orI
  by_cases e : f x y = 0
  ·rw [if_pos e, if_pos (by omega)]; exact h2
  ·rw [if_neg e, if_neg (by omega)]; exact h1
 tr x y z h1 h2 := by
  have key : ∀ x y, orI (f x y) (g x y) ≤ 0 ↔ f x y < 0 ∨ (f x y = 0 ∧ g x y ≤ 0) := fun x y => by
   unfold orI; split <;> omega
  rw [key] at h1 h2 ⊢
  rcases h1 with h1 | ⟨h1, h3⟩ <;> rcases h2 with h2 | ⟨h2, h4⟩
  ·exact .inl (h.str1 h1 (by omega))
  ·exact .inl (h.str1 h1 (by omega))
  ·exact .inl (h.str2 (by omega) h2)
  ·have h5 := h.tr x y z (by omega) (by omega)
   have h6 := h.anti x y; have h7 := h.anti y z; have h8 := h.anti x z
   have h9 := h.tr z y x (by omega) (by omega)
   exact .inr ⟨by omega, k.tr x y z h3 h4⟩
theorem on (h : PreC f) (p : β → α) : PreC fun x y => f (p x) (p y) := ⟨fun _ _ => h.rg _ _, fun _ _ => h.anti _ _, fun _ _ _ => h.tr _ _ _⟩
end PreC
def ltC {α : Type} (f : α → α → Int) (x y : α) : Bool := decide (f x y < 0)
structure Site where
 m : MRef
 pc : Int
 cls : Str
 deriving DecidableEq
structure Place where
 kind : Int
 m : MRef
 reg : Int
 field : FRef
 site : Site
 deriving DecidableEq
instance : Inhabited MRef := ⟨zMR⟩
instance : Inhabited FRef := ⟨⟨zS, zS⟩⟩
instance : Inhabited Site := ⟨⟨zMR, 0, zS⟩⟩
instance : Inhabited Place := ⟨⟨0, zMR, 0, ⟨zS, zS⟩, ⟨zMR, 0, zS⟩⟩⟩
def Site.cells (s : Site) : List AV := [sA s.m.cls, sA s.m.name, sA s.m.desc, iA s.pc, sA s.cls]
def Site.av (s : Site) : AV := .agg s.cells
def Place.cells (p : Place) : List AV := [iA p.kind, sA p.m.cls, sA p.m.name, sA p.m.desc, iA p.reg, sA p.field.cls, sA p.field.name, sA p.site.m.cls, sA p.site.m.name, sA p.site.m.desc, iA p.site.pc, sA p.site.cls]
def Place.av (p : Place) : AV := .agg p.cells
def sitesA (l : List Site) : AV := .lst (l.map Site.cells)
structure Site.ok (s : Site) : Prop where
 m : s.m.ok
 pc : i64 s.pc
 cls : small s.cls.size
structure FRef.ok (f : FRef) : Prop where
 cls : small f.cls.size
 name : small f.name.size
structure Place.ok (p : Place) : Prop where
 kind : i64 p.kind
 m : p.m.ok
 reg : i64 p.reg
 field : p.field.ok
 site : p.site.ok
def cmpR (a b : MRef) : Int := orI (cmpT a.cls b.cls) (orI (cmpT a.name b.name) (cmpT a.desc b.desc))
def cmpS (a b : Site) : Int := orI (cmpR a.m b.m) (orI (cmpI a.pc b.pc) (cmpT a.cls b.cls))
def cmpP (a b : Place) : Int := orI (cmpI a.kind b.kind) (orI (cmpR a.m b.m) (orI (cmpI a.reg b.reg) (orI (cmpT a.field.cls b.field.cls) (orI (cmpT a.field.name b.field.name) (cmpS a.site b.site)))))
abbrev sLt : Site → Site → Bool := ltC cmpS
def orL : List Int → Int
 | [] => 0
 | x :: r => orI x (orL r)
section
variable {P : Program} {T : List (Nat × AV)} {o : Oper}
end
section
variable {P : Program} {t s i tr tf ts : TypeId}
end
end Go.Sx
namespace Go.Sx
open Go
structure GSt where
 i : Nat
 t : Nat
 b : Nat
 k : Nat
def allStar (p : ByteArray) (i : Nat) : Bool := (List.range (p.size - i)).all fun d => decide (byteAt p ((i + d : Nat) : Int) = 42)
def globF (p s : ByteArray) : Nat → GSt → Bool
 | 0, _ => false
 | f + 1, x =>
  if x.k < s.size then
   if x.i < p.size ∧ byteAt p x.i = 42 then globF p s f ⟨x.i + 1, x.i + 1, x.k, x.k⟩
   else if x.i < p.size ∧ (byteAt p x.i = 63 ∨ byteAt p x.i = byteAt s x.k) then globF p s f ⟨x.i + 1, x.t, x.b, x.k + 1⟩
   else if 0 < x.t then globF p s f ⟨x.t, x.t, x.b + 1, x.b + 1⟩
   else false
  else allStar p x.i
structure GSt.ok (p s : ByteArray) (x : GSt) : Prop where
 i : x.i ≤ p.size
 t : x.t ≤ x.i
 b : x.b ≤ x.k
 k : x.k ≤ s.size
def gmu (p s : ByteArray) (x : GSt) : Nat := (p.size - x.t) * ((s.size + 1) * (p.size + s.size + 1)) + ((s.size - x.b) * (p.size + s.size + 1) + ((p.size - x.i) + (s.size - x.k)))
section
variable {p s : ByteArray} {x : GSt}
theorem Zav (h : x.ok p s) (hk : x.k < s.size) (hi : x.i < p.size) : gmu p s ⟨x.i + 1, x.i + 1, x.k, x.k⟩ < gmu p s x := by
 unfold gmu
 simp only
 have h1 := h.t
 generalize hN : p.size + s.size + 1 = N
 have hA : p.size - (x.i + 1) + 1 ≤ p.size - x.t := by omega
 have hB : (s.size - x.k) * N ≤ s.size * N := Nat.mul_le_mul_right _ (by omega)
 have hM := Nat.mul_le_mul_right ((s.size + 1) * N) hA
 rw [Nat.add_mul, Nat.one_mul] at hM
 have hE : (s.size + 1) * N = s.size * N + N := by rw [Nat.add_mul, Nat.one_mul]
 omega
theorem Zau (h : x.ok p s) (hk : x.k < s.size) (hi : x.i < p.size) : gmu p s ⟨x.i + 1, x.t, x.b, x.k + 1⟩ < gmu p s x := by
 unfold gmu
 simp only
 omega
theorem Zat (h : x.ok p s) (hk : x.k < s.size) : gmu p s ⟨x.t, x.t, x.b + 1, x.b + 1⟩ < gmu p s x := by
 unfold gmu
 simp only
 have h1 := h.t; have h2 := h.i; have h3 := h.b
 generalize hN : p.size + s.size + 1 = N
 have hA : s.size - (x.b + 1) + 1 ≤ s.size - x.b := by omega
 have hM := Nat.mul_le_mul_right N hA
 rw [Nat.add_mul, Nat.one_mul] at hM
 omega
theorem Z9y (h : x.ok p s) (hi : x.i < p.size) : GSt.ok p s ⟨x.i + 1, x.i + 1, x.k, x.k⟩ := ⟨hi, Nat.le_refl _, Nat.le_refl _, h.k⟩
theorem Z9x (h : x.ok p s) (hk : x.k < s.size) (hi : x.i < p.size) : GSt.ok p s ⟨x.i + 1, x.t, x.b, x.k + 1⟩ := ⟨hi, Nat.le_succ_of_le h.t, Nat.le_succ_of_le h.b, hk⟩
theorem Z9w (h : x.ok p s) (hk : x.k < s.size) : GSt.ok p s ⟨x.t, x.t, x.b + 1, x.b + 1⟩ := ⟨by have := h.t; have := h.i; simp only; omega, Nat.le_refl _, Nat.le_refl _, by have := h.b; simp only; omega⟩
theorem Z2d : ∀ (n m : Nat) (x : GSt), x.ok p s → gmu p s x < n → gmu p s x < m → globF p s n x = globF p s m x
 | 0, m, x, _, h, _ => by omega
 | n + 1, 0, x, _, _, h => by omega
 | n + 1, m + 1, x, hx, h1, h2 => by
  unfold globF
  by_cases hk : x.k < s.size
  ·rw [if_pos hk, if_pos hk]
   by_cases h3 : x.i < p.size ∧ byteAt p x.i = 42
   ·rw [if_pos h3, if_pos h3]
    have := Zav hx hk h3.1
    exact Z2d n m _ (Z9y hx h3.1) (by omega) (by omega)
   ·rw [if_neg h3, if_neg h3]
    by_cases h4 : x.i < p.size ∧ (byteAt p x.i = 63 ∨ byteAt p x.i = byteAt s x.k)
    ·rw [if_pos h4, if_pos h4]
     have := Zau hx hk h4.1
     exact Z2d n m _ (Z9x hx hk h4.1) (by omega) (by omega)
    ·rw [if_neg h4, if_neg h4]
     by_cases h5 : 0 < x.t
     ·rw [if_pos h5, if_pos h5]
      have := Zat hx hk
      exact Z2d n m _ (Z9w hx hk) (by omega) (by omega)
     ·rw [if_neg h5, if_neg h5]
  ·rw [if_neg hk, if_neg hk]
end
def globM (p s : ByteArray) : Bool := globF p s (gmu p s ⟨0, 0, 0, 0⟩ + 1) ⟨0, 0, 0, 0⟩
structure GJ (p s : ByteArray) (x : GSt) : Prop where
 ok : x.ok p s
 e : globF p s (gmu p s x + 1) x = globM p s
section
variable {p s : ByteArray} {x : GSt}
theorem GJ.start (p s : ByteArray) : GJ p s ⟨0, 0, 0, 0⟩ := ⟨⟨Nat.zero_le _, Nat.le_refl _, Nat.le_refl _, Nat.zero_le _⟩, rfl⟩
theorem GJ.star (h : GJ p s x) (hk : x.k < s.size) (hi : x.i < p.size) (hb : byteAt p x.i = 42) : GJ p s ⟨x.i + 1, x.i + 1, x.k, x.k⟩ := by
 refine ⟨Z9y h.ok hi, ?_⟩
 have hm := Zav h.ok hk hi
 rw [← h.e, Z2d _ (gmu p s x) _ (Z9y h.ok hi) (by omega) hm]
 conv => rhs; unfold globF
 rw [if_pos hk, if_pos ⟨hi, hb⟩]
theorem GJ.byte (h : GJ p s x) (hk : x.k < s.size) (hi : x.i < p.size) (h0 : byteAt p x.i ≠ 42) (hb : byteAt p x.i = 63 ∨ byteAt p x.i = byteAt s x.k) : GJ p s ⟨x.i + 1, x.t, x.b, x.k + 1⟩ := by
 refine ⟨Z9x h.ok hk hi, ?_⟩
 have hm := Zau h.ok hk hi
 rw [← h.e, Z2d _ (gmu p s x) _ (Z9x h.ok hk hi) (by omega) hm]
 conv => rhs; unfold globF
 rw [if_pos hk, if_neg (fun h => h0 h.2), if_pos ⟨hi, hb⟩]
theorem GJ.back (h : GJ p s x) (hk : x.k < s.size) (h0 : ¬ (x.i < p.size ∧ byteAt p x.i = 42)) (hb : ¬ (x.i < p.size ∧ (byteAt p x.i = 63 ∨ byteAt p x.i = byteAt s x.k))) (ht : 0 < x.t) : GJ p s ⟨x.t, x.t, x.b + 1, x.b + 1⟩ := by
 refine ⟨Z9w h.ok hk, ?_⟩
 have hm := Zat h.ok hk
 rw [← h.e, Z2d _ (gmu p s x) _ (Z9w h.ok hk) (by omega) hm]
 conv => rhs; unfold globF
 rw [if_pos hk, if_neg h0, if_neg hb, if_pos ht]
theorem GJ.no (h : GJ p s x) (hk : x.k < s.size) (h0 : ¬ (x.i < p.size ∧ byteAt p x.i = 42)) (hb : ¬ (x.i < p.size ∧ (byteAt p x.i = 63 ∨ byteAt p x.i = byteAt s x.k))) (ht : ¬ 0 < x.t) : globM p s = false := by
 rw [← h.e]
 unfold globF
 rw [if_pos hk, if_neg h0, if_neg hb, if_neg ht]
theorem GJ.fin (h : GJ p s x) (hk : ¬ x.k < s.size) : globM p s = allStar p x.i := by
 rw [← h.e]
 unfold globF
 rw [if_neg hk]
end
def plainG (p : ByteArray) : Prop := ∀ i, i < p.size → byteAt p (i : Nat) ≠ 42 ∧ byteAt p (i : Nat) ≠ 63
theorem Z4d {p : ByteArray} {i : Nat} (h : i < p.size) : byteAt p (i : Nat) = (p[i].toNat : Int) := by
 unfold byteAt
 rw [Int.toNat_natCast, getElem?_pos p i h]
end Go.Sx
namespace Go.Sx
open Go
section
variable {α : Type} [Inhabited α] [DecidableEq α] {lt : α → α → Bool}
def eqG (x y : α) : Bool := decide (x = y)
def cptSG (l : List α) (n : Nat) : Bool := !eqG (l.getD n default) (l.getD (n - 1) default)
def cptNG (l : List α) (n : Nat) : List α := ((List.range n).filter fun k => Nat.beq k 0 || cptSG l k).map fun k => l.getD k default
theorem Z34 (l : List α) (n : Nat) : cptNG l (n + 1) = cptNG l n ++ (if Nat.beq n 0 || cptSG l n then [l.getD n default] else []) := by
 unfold cptNG
 rw [List.range_succ, List.filter_append, List.map_append]
 congr 1
 simp only [List.filter_cons, List.filter_nil]
 split <;> rfl
theorem Z6s {l : List α} : ∀ {n : Nat}, n ≤ l.length → (∀ k, 0 < k → k < n → cptSG l k = true) → cptNG l n = l.take n
 | 0, _, _ => rfl
 | n + 1, hn, h => by
  rw [Z34, Z6s (by omega) (fun k h0 hk => h k h0 (by omega)), Z1t (show n < l.length by omega)]
  congr 1
  rw [if_pos]
  ·rw [Zby (show n < l.length by omega)]
  ·cases n with
   | zero => rfl
   | succ n => rw [h (n + 1) (by omega) (by omega), Bool.or_true]
structure CptJG (l : List α) (k : Nat) (m : List α) (k2 j : Nat) : Prop where
 h1 : 1 ≤ j
 h2 : j ≤ l.length - k
 h3 : k ≤ k2
 h4 : k2 + 1 ≤ k + j
 hl : m.length = l.length
 ht : m.take k2 = cptNG l (k + j)
 ho : ∀ i, k2 ≤ i → m.getD i default = l.getD i default
theorem CptJG.start {l : List α} {k : Nat} (h0 : 1 ≤ k) (h1 : k < l.length) (h : ∀ i, 0 < i → i < k → cptSG l i = true) (he : eqG (l.getD k default) (l.getD (k - 1) default) = true) : CptJG l k l k 1 := by
 refine ⟨Nat.le_refl _, by omega, Nat.le_refl _, Nat.le_refl _, rfl, ?_, fun _ _ => rfl⟩
 rw [Z34, if_neg, List.append_nil, Z6s (by omega) h]
 unfold cptSG
 rw [he]
 simp
 omega
theorem CptJG.keep {l m : List α} {k k2 j : Nat} (h : CptJG l k m k2 j) (hj : j < l.length - k) (he : eqG (m.getD (k + j) default) (m.getD (k + (j - 1)) default) = true) : CptJG l k m k2 (j + 1) := by
 have g1 := h.h1
 have g4 := h.h4
 refine ⟨by omega, by omega, h.h3, by omega, h.hl, ?_, h.ho⟩
 rw [h.ho _ (by omega), h.ho _ (by omega)] at he
 rw [show k + (j + 1) = (k + j) + 1 by omega, Z34, if_neg, List.append_nil]
 ·exact h.ht
 ·unfold cptSG
  rw [show k + j - 1 = k + (j - 1) by omega, he]
  simp
  omega
theorem CptJG.put {l m : List α} {k k2 j : Nat} (h : CptJG l k m k2 j) (hj : j < l.length - k) (he : (!eqG (m.getD (k + j) default) (m.getD (k + (j - 1)) default)) = true) : CptJG l k (m.set k2 (m.getD (k + j) default)) (k2 + 1) (j + 1) := by
 have g1 := h.h1
 have g4 := h.h4
 have gl := h.hl
 have hx := h.ho (k + j) (by omega)
 have h0 := h.ho (k + (j - 1)) (by omega)
 refine ⟨by omega, by omega, by have := h.h3; omega, by omega, by rw [List.length_set]; exact gl, ?_, ?_⟩
 ·rw [hx, h0] at he
  rw [show k + (j + 1) = (k + j) + 1 by omega, Z34, if_pos, ← h.ht]
  ·rw [Z1t (by rw [List.length_set]; omega), List.take_set_of_le (Nat.le_refl _), List.getElem_set_self, hx]
  ·unfold cptSG
   rw [show k + j - 1 = k + (j - 1) by omega, he, Bool.or_true]
 ·intro i hi
  rw [← h.ho i (by omega)]
  simp only [List.getD, List.getElem?_set]
  rw [if_neg (by omega)]
theorem CptJG.fin {l m : List α} {k k2 j : Nat} (h : CptJG l k m k2 j) (hk : k < l.length) (hj : ¬ j < l.length - k) : m.take k2 = cptNG l l.length ∧ k2 < l.length := by
 have g2 := h.h2
 have g4 := h.h4
 refine ⟨?_, by omega⟩
 rw [h.ht]
 congr 1
 omega
def mrgF (lt : α → α → Bool) : Nat → List α → List α → List α
 | 0, a, b => a ++ b
 | _ + 1, [], b => b
 | _ + 1, a, [] => a
 | f + 1, x :: a, y :: b => if lt x y then x :: mrgF lt f a (y :: b) else if lt y x then y :: mrgF lt f (x :: a) b else x :: mrgF lt f a b
def mrgG (lt : α → α → Bool) (a b : List α) : List α := mrgF lt (a.length + b.length) a b
theorem Z2z (f : Nat) (b : List α) : mrgF lt f [] b = b := by cases f <;> rfl
theorem Z63 (f : Nat) (a : List α) : mrgF lt f a [] = a := by cases f <;> cases a <;> simp [mrgF]
structure MrgJ (lt : α → α → Bool) (a b : List α) (o : List α) (i j : Nat) : Prop where
 h1 : i ≤ a.length
 h2 : j ≤ b.length
 h3 : o.length ≤ i + j
 e : o ++ mrgF lt (a.length - i + (b.length - j)) (a.drop i) (b.drop j) = mrgG lt a b
theorem MrgJ.start (a b : List α) : MrgJ lt a b [] 0 0 := ⟨Nat.zero_le _, Nat.zero_le _, Nat.zero_le _, rfl⟩
theorem Z38 {l : List α} {i : Nat} (h : i < l.length) : l.drop i = l.getD i default :: l.drop (i + 1) := by rw [Zby h]; exact List.drop_eq_getElem_cons h
theorem Zfh (hO : LtT lt) {f g : Nat} : ∀ {a b : List α}, a.length + b.length ≤ f → a.length + b.length ≤ g → mrgF lt f a b = mrgF lt g a b := by
 induction f generalizing g with
 | zero =>
  intro a b h1 h2
  have e1 : a = [] := by cases a with | nil => rfl | cons => simp at h1
  have e2 : b = [] := by cases b with | nil => rfl | cons => simp at h1
  subst e1; subst e2; rw [Z2z, Z2z]
 | succ f ih =>
  intro a b h1 h2
  cases a with
  | nil => rw [Z2z, Z2z]
  | cons x a =>
   cases b with
   | nil => rw [Z63, Z63]
   | cons y b =>
    cases g with
    | zero => simp at h2
    | succ g =>
     simp only [List.length_cons] at h1 h2
     unfold mrgF
     rw [ih (g := g) (a := a) (b := y :: b) (by simp only [List.length_cons]; omega) (by simp only [List.length_cons]; omega), ih (g := g) (a := x :: a) (b := b) (by simp only [List.length_cons]; omega) (by simp only [List.length_cons]; omega), ih (g := g) (a := a) (b := b) (by omega) (by omega)]
theorem Z9u (f : Nat) (x y : α) (a b : List α) : mrgF lt (f + 1) (x :: a) (y :: b) = if lt x y then x :: mrgF lt f a (y :: b) else if lt y x then y :: mrgF lt f (x :: a) b else x :: mrgF lt f a b := by rw [mrgF]
theorem MrgJ.lo (hO : LtT lt) {a b o : List α} {i j : Nat} (h : MrgJ lt a b o i j) (hi : i < a.length) (hj : j < b.length) (hlt : lt (a.getD i default) (b.getD j default) = true) : MrgJ lt a b (o ++ [a.getD i default]) (i + 1) j := by
 refine ⟨hi, h.h2, by have := h.h3; simp; omega, ?_⟩
 rw [← h.e, Z38 hi, Z38 hj, show a.length - i + (b.length - j) = (a.length - (i + 1) + (b.length - j)) + 1 by omega]
 rw [Z9u, if_pos hlt, List.append_assoc]
 rfl
theorem MrgJ.hi (hO : LtT lt) {a b o : List α} {i j : Nat} (h : MrgJ lt a b o i j) (hi : i < a.length) (hj : j < b.length) (hlt : lt (a.getD i default) (b.getD j default) = false) (hgt : lt (b.getD j default) (a.getD i default) = true) : MrgJ lt a b (o ++ [b.getD j default]) i (j + 1) := by
 refine ⟨h.h1, hj, by have := h.h3; simp; omega, ?_⟩
 rw [← h.e, Z38 hi, Z38 hj, show a.length - i + (b.length - j) = (a.length - i + (b.length - (j + 1))) + 1 by omega]
 rw [Z9u, if_neg (by rw [hlt]; simp), if_pos hgt, List.append_assoc]
 rfl
theorem MrgJ.eq (hO : LtT lt) {a b o : List α} {i j : Nat} (h : MrgJ lt a b o i j) (hi : i < a.length) (hj : j < b.length) (he : a.getD i default = b.getD j default) : MrgJ lt a b (o ++ [a.getD i default]) (i + 1) (j + 1) := by
 refine ⟨hi, hj, by have := h.h3; simp; omega, ?_⟩
 rw [← h.e, Z38 hi, Z38 hj, show a.length - i + (b.length - j) = (a.length - (i + 1) + (b.length - (j + 1)) + 1) + 1 by omega]
 rw [Z9u, ← he, if_neg (by rw [hO.ok.irr]; simp), if_neg (by rw [hO.ok.irr]; simp), List.append_assoc]
 rw [Zfh hO (f := a.length - (i + 1) + (b.length - (j + 1))) (g := a.length - (i + 1) + (b.length - (j + 1)) + 1) (by simp only [List.length_drop]; omega) (by simp only [List.length_drop]; omega)]
 rfl
theorem MrgJ.fin {a b o : List α} {i j : Nat} (h : MrgJ lt a b o i j) (he : ¬ (i < a.length ∧ j < b.length)) : o ++ a.drop i ++ b.drop j = mrgG lt a b := by
 rw [← h.e, List.append_assoc]
 congr 1
 by_cases hi : i < a.length
 ·rw [List.drop_of_length_le (l := b) (by omega), Z63, List.append_nil]
 ·rw [List.drop_of_length_le (l := a) (by omega), Z2z, List.nil_append]
structure DelJ (f : α → Bool) (l m : List α) (i j : Nat) : Prop where
 h1 : i < j
 h2 : j ≤ l.length
 hl : m.length = l.length
 ht : m.take i = (l.take j).filter fun x => !f x
 ho : ∀ k, j ≤ k → m.getD k default = l.getD k default
theorem DelJ.start {f : α → Bool} {l : List α} {i : Nat} (hi : i < l.length) (h1 : ∀ k, k < i → f (l.getD k default) = false) (h2 : f (l.getD i default) = true) : DelJ f l l i (i + 1) := by
 refine ⟨by omega, hi, rfl, ?_, fun _ _ => rfl⟩
 rw [Z1t hi, List.filter_append, List.filter_cons, ← Zby hi, h2]
 simp only [Bool.not_true, Bool.false_eq_true, if_false, List.filter_nil, List.append_nil]
 rw [List.filter_eq_self.2]
 intro x hx
 obtain ⟨k, hk, e⟩ := List.mem_iff_getElem.1 hx
 rw [List.length_take] at hk
 rw [List.getElem_take] at e
 rw [← e, ← Zby (by omega), h1 k (by omega)]; rfl
theorem DelJ.drop {f : α → Bool} {l m : List α} {i j : Nat} (h : DelJ f l m i j) (hj : j < l.length) (hf : f (m.getD j default) = true) : DelJ f l m i (j + 1) := by
 rw [h.ho j (Nat.le_refl _)] at hf
 refine ⟨by have := h.h1; omega, hj, h.hl, ?_, fun k hk => h.ho k (by omega)⟩
 rw [Z1t hj, List.filter_append, List.filter_cons, ← Zby hj, hf]
 simpa using h.ht
theorem DelJ.put {f : α → Bool} {l m : List α} {i j : Nat} (h : DelJ f l m i j) (hj : j < l.length) (hf : f (m.getD j default) = false) : DelJ f l (m.set i (m.getD j default)) (i + 1) (j + 1) := by
 have h1 := h.h1
 have hl := h.hl
 have e := h.ho j (Nat.le_refl _)
 refine ⟨by omega, hj, by rw [List.length_set]; exact hl, ?_, fun k hk => ?_⟩
 ·rw [Z1t hj, List.filter_append, List.filter_cons, ← Zby hj, ← e, hf, ← h.ht]
  rw [Z1t (by rw [List.length_set]; omega), List.take_set_of_le (Nat.le_refl _), List.getElem_set_self]
  rfl
 ·rw [← h.ho k (by omega)]
  simp only [List.getD, List.getElem?_set]
  rw [if_neg (by omega)]
theorem DelJ.fin {f : α → Bool} {l m : List α} {i j : Nat} (h : DelJ f l m i j) (hj : ¬ j < l.length) : m.take i = l.filter fun x => !f x := by
 rw [h.ht, List.take_of_length_le (by omega)]
end
end Go.Sx
namespace Go.Sx
open Go
structure Rule where
 names : Bool
 member : Bool
 cls : Str
 name : Str
 desc : Str
 deriving DecidableEq
structure Roots where
 classes : List Str
 fields : List FRef
 methods : List MRef
 classNames : List Str
 fieldNames : List Str
 methodNames : List Str
 lookups : List Str
 deriving DecidableEq
instance : Inhabited Rule := ⟨⟨false, false, zS, zS, zS⟩⟩
def Rule.cells (r : Rule) : List AV := [bA r.names, bA r.member, sA r.cls, sA r.name, sA r.desc]
def Rule.av (r : Rule) : AV := .agg r.cells
def Roots.cells (r : Roots) : List AV := [row1 sA r.classes, .lst (r.fields.map FRef.cells), .lst (r.methods.map MRef.cells), row1 sA r.classNames, row1 sA r.fieldNames, row1 sA r.methodNames, row1 sA r.lookups]
def Roots.av (r : Roots) : AV := .agg r.cells
def FRef.av' (f : FRef) : AV := .agg f.cells
structure Rule.ok (r : Rule) : Prop where
 cls : small r.cls.size
 name : small r.name.size
 desc : small r.desc.size
def seenG (p : Str) (i : Nat) : Bool := decide (32 < byteAt p (i : Nat)) && decide (byteAt p (i : Nat) ≤ 126)
def globR (p : Str) : Bool := ((List.range p.size).all (seenG p)) && (!beqS p zS && decide (p.size ≤ 64))
def ruleR (r : Rule) : Bool := globR r.cls && (if r.member then globR r.name && globR r.desc else beqS r.name zS && beqS r.desc zS)
def clsR (r : Rule) (c : Str) : Bool := (!r.member && ruleR r) && globM r.cls c
def nInit' : Str := ⟨#[60, 99, 108, 105, 110, 105, 116, 62]⟩
def memR (r : Rule) (c n d : Str) : Bool := ((r.member && ruleR r) && !beqS n nInit') && ((globM r.cls c && globM r.name n) && globM r.desc d)
def anyR (l : List Rule) (f : Rule → Bool) : Bool := l.any f
def nmsR (l : List Rule) (f : Rule → Bool) : Bool := l.any fun r => f r && r.names
structure Ga where
 cl : List Str
 fd : List FRef
 md : List MRef
 cn : List Str
 fn : List Str
 mn : List Str
 lk : List Str
def Ga.nil : Ga := ⟨[], [], [], [], [], [], []⟩
def Ga.app (a b : Ga) : Ga := ⟨a.cl ++ b.cl, a.fd ++ b.fd, a.md ++ b.md, a.cn ++ b.cn, a.fn ++ b.fn, a.mn ++ b.mn, a.lk ++ b.lk⟩
def Ga.sum (l : List Ga) : Ga := l.foldr Ga.app .nil
def okB {α : Type} (b : Bool) (x : α) : List α := if b then [x] else []
section
variable (txt : Ty → Str) (p : Prog) (l : List Rule)
def fHold (ref : FRef) (r : Rule) : Bool := (fldP p ref).isSome && memR r ref.cls ((fldP p ref).getD zFl).name (txt ((fldP p ref).getD zFl).type)
def mHold (ref : MRef) (r : Rule) : Bool := (getP p ref).isSome && memR r ref.cls ref.name ref.desc
def nAsk : Str := ⟨#[40, 41, 73]⟩
def nDot : Str := ⟨#[46]⟩
def gaF (ref : FRef) : Ga := ⟨okB (anyR l (fHold txt p ref)) ref.cls, okB (anyR l (fHold txt p ref)) ref, [], [], okB (nmsR l (fHold txt p ref)) ((fldP p ref).getD zFl).name, [], []⟩
def gaM (ref : MRef) : Ga := ⟨okB (anyR l (mHold p ref)) ref.cls, [], okB (anyR l (mHold p ref)) ref, [], [], okB (nmsR l (mHold p ref)) (ref.name ++ ref.desc), okB (anyR l (mHold p ref) && (((getP p ref).getD zMt).static && beqS ref.desc nAsk)) ((ref.cls ++ nDot) ++ ref.name)⟩
def gaK (c : Cls) : Ga := ⟨okB (anyR l (clsR · c.name)) c.name, [], [], okB (nmsR l (clsR · c.name)) c.name, [], [], []⟩
def gaFs (c : Cls) : List Ga := c.fields.map fun f => gaF txt p l ⟨c.name, f.name⟩
def gaMs (c : Cls) : List Ga := c.methods.map fun m => gaM p l ⟨c.name, m.name, m.desc⟩
def gaC (c : Cls) : Ga := ((gaK l c).app (Ga.sum (gaFs txt p l c))).app (Ga.sum (gaMs p l c))
def gaP : Ga := Ga.sum (p.classes.map (gaC txt p l))
end
abbrev tLt : Str → Str → Bool := ltC cmpT
def cmpF (a b : FRef) : Int := orI (cmpT a.cls b.cls) (cmpT a.name b.name)
abbrev fLt : FRef → FRef → Bool := ltC cmpF
abbrev mLt : MRef → MRef → Bool := ltC cmpR
def rootsG (g : Ga) : Roots := ⟨risG tLt g.cl, risG fLt g.fd, risG mLt g.md, risG tLt g.cn, risG tLt g.fn, risG tLt g.mn, risG tLt (g.lk ++ g.cl)⟩
structure Ga.le (a b : Ga) : Prop where
 cl : ∀ x, x ∈ a.cl → x ∈ b.cl
 fd : ∀ x, x ∈ a.fd → x ∈ b.fd
 md : ∀ x, x ∈ a.md → x ∈ b.md
 cn : ∀ x, x ∈ a.cn → x ∈ b.cn
 fn : ∀ x, x ∈ a.fn → x ∈ b.fn
 mn : ∀ x, x ∈ a.mn → x ∈ b.mn
 lk : ∀ x, x ∈ a.lk → x ∈ b.lk
def withinR (a b : Roots) : Bool := (a.fields.all (hasG b.fields) && a.methods.all (hasG b.methods)) && ((((a.classes.all (hasG b.classes) && a.classNames.all (hasG b.classNames)) && a.fieldNames.all (hasG b.fieldNames)) && a.methodNames.all (hasG b.methodNames)) && a.lookups.all (hasG b.lookups))
end Go.Sx
namespace Go.Sx
open Go
def letW (c : Int) : Bool := ((c == 95) || (c == 36)) || ((decide (c ≥ 65) && decide (c ≤ 90)) || ((decide (c ≥ 97) && decide (c ≤ 122)) || (decide (c ≥ 48) && decide (c ≤ 57))))
def allW (s : Str) (m : Int) : Bool := ((List.range s.size).all fun i => letW (byteAt s (i : Nat)) || (byteAt s (i : Nat) == m)) && (!beqS s zS && decide (s.size ≤ 32))
def clsW (s : Str) : Bool := ((List.range s.size).all fun i => letW (byteAt s (i : Nat)) || (byteAt s (i : Nat) == 47)) && (!beqS s zS && decide (s.size ≤ 32))
def nameW (s : Str) : Bool := beqS s nInit' || allW s 95
theorem Zi2 {n i : Nat} {f : Nat → Bool} (hi : i < n) (h : f i = false) : (List.range n).all f = false := List.all_eq_false.2 ⟨i, List.mem_range.2 hi, by rw [h]; simp⟩
theorem Zgp {n : Nat} {f : Nat → Bool} (h : ∀ k, k < n → f k = true) : (List.range n).all f = true := List.all_eq_true.2 fun x hx => h x (List.mem_range.1 hx)
theorem Zgo {n i : Nat} {f : Nat → Bool} (h : (List.range n).all f = true) (hi : i < n) : f i = true := List.all_eq_true.1 h i (List.mem_range.2 hi)
def rightT (t : Ty) : Bool := if t.kind = 3 ∨ t.kind = 5 then clsW t.cls else (beqS t.cls zS && decide (t.kind ≥ 1)) && decide (t.kind ≤ 5)
def elemT (t : Ty) : Ty := if t.kind = 4 then ⟨2, zS⟩ else if t.kind = 5 then ⟨3, t.cls⟩ else ⟨0, zS⟩
def text0 (t : Ty) : Str := if t.kind = 1 then ⟨#[86]⟩ else if t.kind = 2 then ⟨#[73]⟩ else ((⟨#[76]⟩ : Str) ++ t.cls) ++ (⟨#[59]⟩ : Str)
def textT (t : Ty) : Str := if rightT t then (if t.kind = 4 ∨ t.kind = 5 then (⟨#[91]⟩ : Str) ++ text0 (elemT t) else text0 t) else zS
theorem Za4 {t : Ty} (h : rightT t = true) (h1 : ¬ t.kind = 1) (h2 : ¬ t.kind = 2) (h3 : ¬ t.kind = 3) : t.kind = 4 ∨ t.kind = 5 := by
 unfold rightT at h
 by_cases h5 : t.kind = 5
 ·exact .inr h5
 ·rw [if_neg (by omega)] at h
  simp only [Bool.and_eq_true, decide_eq_true_eq] at h
  omega
theorem Zc2 {t : Ty} (h : rightT t = true) (h1 : t.kind = 4 ∨ t.kind = 5) : rightT (elemT t) = true := by
 unfold elemT
 rcases h1 with h1 | h1
 ·rw [if_pos h1]; decide +kernel
 ·rw [if_neg (by omega), if_pos h1]
  unfold rightT at h ⊢
  rw [if_pos (.inr h1)] at h
  rw [if_pos (.inl rfl)]; exact h
theorem Zgc {t : Ty} (h1 : t.kind = 4 ∨ t.kind = 5) : ¬ ((elemT t).kind = 4 ∨ (elemT t).kind = 5) := by
 unfold elemT
 rcases h1 with h1 | h1
 ·rw [if_pos h1]; simp
 ·rw [if_neg (by omega), if_pos h1]; simp
theorem Zhi {t : Ty} (h : small t.cls.size) : small (elemT t).cls.size := by
 unfold elemT
 split
 ·unfold small; decide
 ·split
  ·exact h
  ·unfold small; decide
theorem Z9n (t : Ty) : (elemT t).cls.size ≤ t.cls.size := by
 unfold elemT
 split
 ·exact Nat.zero_le _
 ·split
  ·exact Nat.le_refl _
  ·exact Nat.zero_le _
theorem Zbb (t : Ty) : (text0 t).size ≤ t.cls.size + 2 := by
 have h1 : ByteArray.size ⟨#[76]⟩ = 1 := rfl
 have h2 : ByteArray.size ⟨#[59]⟩ = 1 := rfl
 have h3 : ByteArray.size ⟨#[86]⟩ = 1 := rfl
 have h4 : ByteArray.size ⟨#[73]⟩ = 1 := rfl
 unfold text0
 split
 ·omega
 ·split
  ·omega
  ·rw [ByteArray.size_append, ByteArray.size_append]; omega
theorem Zbc (t : Ty) : (textT t).size ≤ t.cls.size + 3 := by
 have h1 : ByteArray.size ⟨#[91]⟩ = 1 := rfl
 have h2 := Zbb t
 have h3 := Zbb (elemT t)
 have h4 := Z9n t
 unfold textT
 split
 ·split
  ·rw [ByteArray.size_append]; omega
  ·omega
 ·exact Nat.zero_le _
def zTy : Ty := ⟨0, zS⟩
def semF (s : Str) : Nat → Nat → Nat
 | 0, t => t
 | n + 1, t => if byteAt s (t : Nat) = 59 then t else semF s n (t + 1)
def semi (s : Str) (t : Nat) : Nat := semF s (s.size - t) t
def arrA (s : Str) (k : Nat) : Bool := decide ((k : Int) < (s.size : Int)) && (byteAt s (k : Nat) == 91)
def nxA (s : Str) (k : Nat) : Nat := if arrA s k then k + 1 else k
def nextR (s : Str) (k : Nat) : Ty × Nat × Bool :=
 if s.size ≤ nxA s k then (zTy, 0, false)
 else if byteAt s (nxA s k : Nat) = 86 then (⟨1, zS⟩, nxA s k + 1, !arrA s k)
 else if byteAt s (nxA s k : Nat) = 73 then (⟨if arrA s k then 4 else 2, zS⟩, nxA s k + 1, true)
 else if byteAt s (nxA s k : Nat) = 76 then
  (if s.size ≤ semi s (nxA s k) ∨ clsW (s.extract (nxA s k + 1) (semi s (nxA s k))) = false then (zTy, 0, false)
  else (⟨if arrA s k then 5 else 3, s.extract (nxA s k + 1) (semi s (nxA s k))⟩, semi s (nxA s k) + 1, true))
 else (zTy, 0, false)
section
variable {s : Str} {k a1 : Nat} {arr : Bool} (ha : a1 = nxA s k) (hb : arr = arrA s k)
end
def parseR (s : Str) : Ty × Int := if (nextR s 0).2.2 = false ∨ ¬ (nextR s 0).2.1 = s.size then (zTy, 1) else ((nextR s 0).1, 0)
def parF (s : Str) : Nat → Nat → List Ty → Option (List Ty × Nat)
 | 0, _, _ => none
 | n + 1, k, o => if k < s.size ∧ ¬ byteAt s (k : Nat) = 41 then (if (nextR s k).2.2 = false ∨ (nextR s k).1.kind = 1 then none else parF s n (nextR s k).2.1 (o ++ [(nextR s k).1])) else some (o, k)
def par (s : Str) (k : Nat) (o : List Ty) : Option (List Ty × Nat) := parF s (s.size - k + 1) k o
def splitE (e : Int) : List Ty × Ty × Int := ([], zTy, e)
def splitR (s : Str) : List Ty × Ty × Int :=
 if 64 < s.size then splitE 3
 else if s.size = 0 ∨ ¬ byteAt s 0 = 40 then splitE 1
 else match par s 1 [] with
  | none => splitE 1
  | some (o, k) => if s.size ≤ k then splitE 1 else if ¬ (parseR (s.extract (k + 1) s.size)).2 = 0 then splitE (parseR (s.extract (k + 1) s.size)).2 else if 8 < o.length then splitE 3 else (o, (parseR (s.extract (k + 1) s.size)).1, 0)
def shapeS (o : Int) : Str :=
 if o = 2 then ⟨#[97, 107]⟩ else if o = 3 ∨ o = 26 then ⟨#[97]⟩ else if o = 4 ∨ o = 10 ∨ o = 12 ∨ o = 28 ∨ o = 29 then ⟨#[97, 98]⟩ else if o = 5 then ⟨#[97, 98, 99, 114]⟩ else if o = 6 then ⟨#[116]⟩
 else if o = 7 ∨ o = 8 then ⟨#[98, 116]⟩ else if o = 9 then ⟨#[97, 67]⟩ else if o = 11 ∨ o = 24 ∨ o = 25 then ⟨#[97, 98, 67]⟩ else if o = 13 ∨ o = 14 then ⟨#[97, 98, 99]⟩ else if o = 15 then ⟨#[97, 98, 70]⟩
 else if o = 16 then ⟨#[98, 99, 70]⟩ else if o = 17 then ⟨#[97, 70]⟩ else if o = 18 then ⟨#[99, 70]⟩ else if o = 19 ∨ o = 20 ∨ o = 21 then ⟨#[97, 77, 118]⟩ else if o = 22 ∨ o = 27 ∨ o = 31 then ⟨#[98]⟩
 else if o = 30 then ⟨#[107]⟩ else if o = 32 then ⟨#[67]⟩ else ⟨#[]⟩
def hasL (s : Str) (c : Int) : Bool := (List.range s.size).any fun i => byteAt s (i : Nat) == c
def isCallO (o : Int) : Bool := ((o == 19) || (o == 20)) || (o == 21)
def hCls (s : Str) : Bool := (hasL s 67 || hasL s 70) || hasL s 77
def hNam (s : Str) : Bool := hasL s 70 || hasL s 77
def hNum (s : Str) : Bool := (hasL s 107 || hasL s 116) || hasL s 114
def emptyI (x : Instr) (s : Str) : Bool := (((((((hasL s 97 || x.a == 0) && (hasL s 98 || x.b == 0)) && (hasL s 99 || x.c == 0)) && (hNum s || x.k == 0)) && (hCls s || beqS x.cls zS)) && (hNam s || beqS x.name zS)) && (hasL s 77 || beqS x.desc zS)) && (hasL s 118 || ((x.args.length : Int) == 0))
def namedI (x : Instr) (s : Str) : Bool := if hCls s && !clsW x.cls then false else if hNam s && !nameW x.name then false else !hasL s 77 || (splitR x.desc).2.2 == 0
def wthI (n m : Int) : Bool := decide (n ≥ 0) && decide (n < m)
def argsN (x : Instr) : Int := if ¬ x.op = 19 then ((splitR x.desc).1.length : Int) + 1 else ((splitR x.desc).1.length : Int)
def voidI (x : Instr) : Bool := isCallO x.op && ((splitR x.desc).2.1.kind == 1)
def fitsI (x : Instr) (regs code : Int) : Int :=
 if ((decide (x.op < 1) || decide (x.op > 32)) || !emptyI x (shapeS x.op)) || !namedI x (shapeS x.op) then 1
 else if isCallO x.op && !((x.args.length : Int) == argsN x) then 9
 else if (((hasL (shapeS x.op) 97 && !wthI x.a regs) || (hasL (shapeS x.op) 98 && !wthI x.b regs)) || (hasL (shapeS x.op) 99 && !wthI x.c regs)) || (voidI x && !(x.a == 0)) then 12
 else if x.args.any (fun a => !wthI a regs) then 12
 else if (hasL (shapeS x.op) 116 && (decide (x.k < 0) || decide (x.k ≥ code))) || (hasL (shapeS x.op) 114 && (decide (x.k < 0) || decide (x.k > 9))) then 12 else 0
def nVoid : Str := ⟨#[40, 41, 86]⟩
def methR (m : Meth) : Bool :=
 if ((!((splitR m.desc).2.2 == 0) || !nameW m.name) || decide (m.regs < 0)) || decide (m.regs > 32) then false
 else if m.abs then (((!m.static && !beqS m.name nInit') && ((m.code.length : Int) == 0)) && (m.regs == 0))
 else if (decide ((m.code.length : Int) < 1) || decide ((m.code.length : Int) > 256)) || decide (m.regs < (if m.static then ((splitR m.desc).1.length : Int) else ((splitR m.desc).1.length : Int) + 1)) then false
 else if m.code.any (fun x => !(fitsI x m.regs m.code.length == 0)) then false
 else !beqS m.name nInit' || (m.static && beqS m.desc nVoid)
def fldR (f : Fld) : Bool := ((nameW f.name && !beqS f.name nInit') && rightT f.type) && !(f.type.kind == 1)
def cmR (c : Cls) (m : Meth) : Bool := (methR m && !(c.iface && !m.abs)) && !(m.abs && !c.abs)
def clsR8 (c : Cls) : Bool :=
 if !clsW c.name || (!beqS c.super zS && (!clsW c.super || beqS c.super c.name)) then false
 else if c.iface && ((!c.abs || !beqS c.super zS) || decide ((c.fields.length : Int) > 0)) then false
 else if c.ifaces.any (fun s => !clsW s) then false
 else if c.fields.any (fun f => !fldR f) then false
 else !c.methods.any (fun m => !cmR c m)
def entryR (m : MRef) : Bool := ((beqS m.cls zS && beqS m.name zS) && beqS m.desc zS) || (((clsW m.cls && nameW m.name) && !beqS m.name nInit') && (beqS m.desc nAsk || beqS m.desc nVoid))
def longC (c : Cls) : Bool := (decide ((c.ifaces.length : Int) > 8) || decide ((c.fields.length : Int) > 32)) || decide ((c.methods.length : Int) > 32)
def longR (p : Prog) : Bool :=
 if decide ((p.classes.length : Int) > 64) || decide ((p.names.length : Int) > 64) then true
 else if p.classes.any longC then true
 else p.names.any fun s => decide ((s.size : Int) > 64)
def belowM (a b : Meth) : Bool := ltS a.name b.name || (beqS a.name b.name && ltS a.desc b.desc)
def allB (g : Nat → Bool) (n : Nat) : Bool := (List.range n).all fun i => Nat.beq i 0 || g i
def gI (c : Cls) (k : Nat) : Bool := ltS (c.ifaces.getD (k - 1) default) (c.ifaces.getD k default)
def gF (c : Cls) (k : Nat) : Bool := ltS (c.fields.getD (k - 1) default).name (c.fields.getD k default).name
def gM (c : Cls) (k : Nat) : Bool := belowM (c.methods.getD (k - 1) default) (c.methods.getD k default)
def orderedC (c : Cls) : Bool := allB (gI c) c.ifaces.length && allB (gF c) c.fields.length && allB (gM c) c.methods.length
def gC (p : Prog) (k : Nat) : Bool := ltS (p.classes.getD (k - 1) default).name (p.classes.getD k default).name
def inOrdK (p : Prog) (i : Nat) : Bool := orderedC (p.classes.getD i default) && (Nat.beq i 0 || gC p i)
def inOrdR (p : Prog) : Bool := (List.range p.classes.length).all (inOrdK p)
def rightR (p : Prog) : Int := if longR p then 3 else if p.classes.any (fun c => !clsR8 c) then 1 else if !entryR p.entry then 1 else if !inOrdR p then 5 else 0
def nxtA (r : Ty × Nat × Bool) : AV := .tup [.agg r.1.cells, iA r.2.1, bA r.2.2]
def prsA (r : Ty × Int) : AV := .tup [.agg r.1.cells, iA r.2]
def splA (r : List Ty × Ty × Int) : AV := .tup [.lst (r.1.map Ty.cells), .agg r.2.1.cells, iA r.2.2]
end Go.Sx
namespace Go.Sx
open Go
section
variable {P : Program} {ro : Option Nat} {Q : Exit → St → Prop} {s : St} {ops : Array Oper} {o : Oper} {rest : List Oper} {H0 : AHeap} {K : St → Prop} {k : Nat} {M : List (Nat × (Nat × AObj))} {S : List (AHeap × AHeap)} {ws rs : List Nat} {p : Operand} {x : AV}
theorem qS {x y : Code} (h : AWp P ro x (thenQ (AWp P ro y Q) Q) s) : AWp P ro (.seq x y) Q s := Z5 h
theorem qR {id : Nat} {l : List Oper} (h : AOps P ro l.toArray l Q s) : AWp P ro (.region id l.toArray false) Q s := Z2 h
theorem qB {id : Nat} {c : Code} (h : AWp P ro c (blockQ id Q) s) : AWp P ro (.block id c) Q s := Zm h
theorem qK (h : Q .normal s) : AWp P ro .skip Q s := Zh h
theorem qX {i : Nat} (h : Q (.exit i) s) : AWp P ro (.exit i) Q s := Zy h
end
end Go.Sx
namespace Go.Sx
open Go
def pcmp (b : BinOp) (nil : Bool) : Option Bool := match b with | .eql => some nil | .neq => some (!nil) | _ => none
section
variable {P : Program} {T : List (Nat × AV)} {o : Oper}
theorem Zdy {t e : TypeId} (h : P.underlying t = some (.pointer e)) (d : Nat) (x : Option Addr) (w : World) : (Op.equalIn (d + 1) t (.pointer x) (.pointer none)).run P w = .ok x.isNone w := by
 cases x with
 | none => simp [Op.equalIn, Go.run_underlying h, Result.andThen, Sem.run_bind]
 | some a => simp [Op.equalIn, Go.run_underlying h, Result.andThen, Sem.run_bind]
theorem Z8c {b : BinOp} {t t' e : TypeId} {p q : Operand} {z : Bool} [h : UD P t (.pointer e)] (ho : o.op = .binOp b t p q t') (hp : ev T p = some (.v (.pointer none))) (hq : ev T q = some (.v (.pointer none)))
  (hb : pcmp b true = some z) : Eff P o T [] (.v (.bool z)) [] :=
 Z04 (by intro c; rw [ho]; nofun) fun C H a w hw hn hv => by
  have h2 := hv p (by rw [ho]; simp [Op.operands]) _ hp
  have h3 := VR.val (hv q (by rw [ho]; simp [Op.operands]) _ hq)
  obtain ⟨y, hy, hyn⟩ : ∃ y : Option Addr, a.eval p = .pointer y ∧ y.isNone = true := ⟨none, VR.val h2, rfl⟩
  refine ⟨.bool z, ?_, .v _⟩
  have hr := fun d => Zdy h.ud d y w
  cases b <;> simp only [pcmp, Option.some.injEq, reduceCtorEq] at hb <;> subst hb
  ·simp [execOp, ho, hy, h3, eqGuard, binOp, Op.equal, Op.maxDepth, hr 9999, hyn, Result.andThen, Sem.run_bind]
  ·simp [execOp, ho, hy, h3, eqGuard, binOp, Op.equal, Op.maxDepth, hr 9999, hyn, Result.andThen, Sem.run_bind]
theorem Z8d {b : BinOp} {t t' e : TypeId} {p q : Operand} {id sz i c : Nat} {z : Bool} [h : UD P t (.pointer e)] (ho : o.op = .binOp b t p q t') (hp : ev T p = some (.ptr id sz i c)) (hq : ev T q = some (.v (.pointer none)))
  (hb : pcmp b false = some z) : Eff P o T [] (.v (.bool z)) [] :=
 Z04 (by intro c; rw [ho]; nofun) fun C H a w hw hn hv => by
  have h2 := hv p (by rw [ho]; simp [Op.operands]) _ hp
  have h3 := VR.val (hv q (by rw [ho]; simp [Op.operands]) _ hq)
  obtain ⟨y, hy, hyn⟩ : ∃ y : Option Addr, a.eval p = .pointer y ∧ y.isNone = false := by
   generalize a.eval p = u at h2
   cases h2 with
   | ptr _ _ _ _ b' N hid _ => exact ⟨_, rfl, rfl⟩
  refine ⟨.bool z, ?_, .v _⟩
  have hr := fun d => Zdy h.ud d y w
  cases b <;> simp only [pcmp, Option.some.injEq, reduceCtorEq] at hb <;> subst hb
  ·simp [execOp, ho, hy, h3, eqGuard, binOp, Op.equal, Op.maxDepth, hr 9999, hyn, Result.andThen, Sem.run_bind]
  ·simp [execOp, ho, hy, h3, eqGuard, binOp, Op.equal, Op.maxDepth, hr 9999, hyn, Result.andThen, Sem.run_bind]
end
end Go.Sx
namespace Go.Sx
open Go
abbrev xA (n : Int) : AV := .v (.int .u64 n)
theorem Z2r {n : Int} (h : 0 ≤ n ∧ n < 18446744073709551616) : IntKind.u64.wrap n = n := by
 unfold IntKind.wrap
 simp [IntKind.bits, IntKind.signed]
 omega
theorem Z30 {n : Int} (h : 0 ≤ n ∧ n < 256) : IntKind.u8.wrap n = n := by
 unfold IntKind.wrap
 simp [IntKind.bits, IntKind.signed]
 omega
def LenJ (x y n : Nat) : Prop := y * 2 ^ n ≤ x ∧ (0 < x → 0 < y)
theorem LenJ.start (x : Nat) : LenJ x x 0 := ⟨by simp, id⟩
theorem LenJ.shr {x y n : Nat} (h : LenJ x y n) (s : Nat) (hy : 2 ^ s ≤ y) : LenJ x (y / 2 ^ s) (n + s) := by
 refine ⟨?_, fun _ => Nat.div_pos hy (Nat.two_pow_pos s)⟩
 have h1 : y / 2 ^ s * 2 ^ s ≤ y := Nat.div_mul_le_self y (2 ^ s)
 calc y / 2 ^ s * 2 ^ (n + s) = (y / 2 ^ s * 2 ^ s) * 2 ^ n := by rw [Nat.pow_add]; simp only [Nat.mul_assoc, Nat.mul_comm, Nat.mul_left_comm]
  _ ≤ y * 2 ^ n := Nat.mul_le_mul_right _ h1
  _ ≤ x := h.1
theorem LenJ.fin {x y n t : Nat} (h : LenJ x y n) (ht : 0 < y → 2 ^ t ≤ 2 * y) (hx : 0 < x) : 2 ^ (n + t) ≤ 2 * x := by
 have h1 := ht (h.2 hx)
 calc 2 ^ (n + t) = 2 ^ t * 2 ^ n := by rw [Nat.pow_add, Nat.mul_comm]
  _ ≤ (2 * y) * 2 ^ n := Nat.mul_le_mul_right _ h1
  _ = 2 * (y * 2 ^ n) := by rw [Nat.mul_assoc]
  _ ≤ 2 * x := Nat.mul_le_mul_left _ h.1
theorem Zhv (x k : Nat) (hk : k ≤ 64) : ((x : Int)).fdiv (2 ^ (min ((k : Int)).toNat 64)) = ((x / 2 ^ k : Nat) : Int) := by
 have e : min ((k : Int)).toNat 64 = k := by omega
 rw [e, Int.ofNat_fdiv]; simp
theorem Zi3 {v : Int} {m : Nat} (h0 : 0 < m) (hm : m ≤ 4611686018427387904) : 0 ≤ IntKind.i64.wrap (bitsI .and .u64 v (IntKind.u64.wrap ((m : Int) - 1))) ∧ IntKind.i64.wrap (bitsI .and .u64 v (IntKind.u64.wrap ((m : Int) - 1))) < m := by
 rw [Z2r (n := (m : Int) - 1) (by omega)]
 have e : (BitVec.ofInt IntKind.u64.bits ((m : Int) - 1)).toNat = m - 1 := by
  rw [BitVec.toNat_ofInt]
  simp [IntKind.bits]
  omega
 have hle : (BitVec.ofInt IntKind.u64.bits v &&& BitVec.ofInt IntKind.u64.bits ((m : Int) - 1)).toNat ≤ m - 1 := by
  rw [BitVec.toNat_and, e]; exact Nat.and_le_right
 unfold bitsI
 simp only
 generalize (BitVec.ofInt IntKind.u64.bits v &&& BitVec.ofInt IntKind.u64.bits ((m : Int) - 1)).toNat = d at hle ⊢
 rw [Z2r (by omega), Z0u (by omega)]
 omega
theorem Zhs {x k : Nat} (h0 : 0 < x) (hx : x ≤ 140737488355328) (hk : k ≤ 64 ∧ (0 < x → 2 ^ k ≤ 2 * x)) : IntKind.u64.wrap (1 * 2 ^ (min ((k : Int)).toNat IntKind.u64.bits)) = ((2 ^ k : Nat) : Int) := by
 have h := hk.2 h0
 have e : min ((k : Int)).toNat IntKind.u64.bits = k := by simp [IntKind.bits]; omega
 rw [e, Int.one_mul, show ((2 : Int) ^ k) = ((2 ^ k : Nat) : Int) from by simp]
 have h2 : (0 : Int) ≤ ((2 ^ k : Nat) : Int) := Int.natCast_nonneg _
 have h3 : ((2 ^ k : Nat) : Int) ≤ ((2 * x : Nat) : Int) := Int.ofNat_le.2 h
 generalize ((2 ^ k : Nat) : Int) = z at *
 exact Z2r (by omega)
def len8 : ByteArray := ⟨#[0, 1, 2, 2, 3, 3, 3, 3, 4, 4, 4, 4, 4, 4, 4, 4, 5, 5, 5, 5, 5, 5, 5, 5, 5, 5, 5, 5, 5, 5, 5, 5, 6, 6, 6, 6, 6, 6, 6, 6, 6, 6, 6, 6, 6, 6, 6, 6, 6, 6, 6, 6, 6, 6, 6, 6, 6, 6, 6, 6, 6, 6, 6, 6, 7, 7, 7, 7, 7, 7, 7, 7, 7, 7, 7, 7, 7, 7, 7, 7, 7, 7, 7, 7, 7, 7, 7, 7, 7, 7, 7, 7, 7, 7, 7, 7, 7, 7, 7, 7, 7, 7, 7, 7, 7, 7, 7, 7, 7, 7, 7, 7, 7, 7, 7, 7, 7, 7, 7, 7, 7, 7, 7, 7, 7, 7, 7, 7, 8, 8, 8, 8, 8, 8, 8, 8, 8, 8, 8, 8, 8, 8, 8, 8, 8, 8, 8, 8, 8, 8, 8, 8, 8, 8, 8, 8, 8, 8, 8, 8, 8, 8, 8, 8, 8, 8, 8, 8, 8, 8, 8, 8, 8, 8, 8, 8, 8, 8, 8, 8, 8, 8, 8, 8, 8, 8, 8, 8, 8, 8, 8, 8, 8, 8, 8, 8, 8, 8, 8, 8, 8, 8, 8, 8, 8, 8, 8, 8, 8, 8, 8, 8, 8, 8, 8, 8, 8, 8, 8, 8, 8, 8, 8, 8, 8, 8, 8, 8, 8, 8, 8, 8, 8, 8, 8, 8, 8, 8, 8, 8, 8, 8, 8, 8, 8, 8, 8, 8, 8, 8, 8, 8, 8, 8, 8, 8]⟩
theorem Z0c : ∀ y : Fin 256, 0 ≤ byteAt len8 (y.val : Int) ∧ byteAt len8 (y.val : Int) ≤ 8 ∧ (0 < y.val → 2 ^ (byteAt len8 (y.val : Int)).toNat ≤ 2 * y.val) := by decide +kernel
theorem Z1s {u : ByteArray} (h : u = len8) (k : Int) : uA (byteAt u k) = uA (byteAt len8 k) := by rw [h]
theorem Z1d {u : ByteArray} {k : Int} (h : u = len8) (hk : k < 256) : k < u.size := by rw [h, show len8.size = 256 from by decide +kernel]; exact hk
variable {P : Program} {ro : Option Nat} {Q : Exit → St → Prop} {s : St}
theorem Z0a {c : Code} {k : IntKind} {b : Nat} (t : Nat) (ht : lk s.T t = some (.v (.int k (b : Int)))) (h : ∀ d : Nat, d = b → AWp P ro c Q { s with T := (t, .v (.int k (d : Int))) :: s.T }) : AWp P ro c Q s := Z1e (Z5b ht) (h b rfl)
end Go.Sx
namespace Go.Sx
open Go
variable {P : Program} {ro : Option Nat} {Q : Exit → St → Prop} {s : St} {ops : Array Oper} {o : Oper} {rest : List Oper} {T : List (Nat × AV)}
theorem Z6u {t t' : TypeId} {p q : Operand} {k : IntKind} {x y : Int} (ho : o.op = .binOp .andNot t p q t') (hp : ev T p = some (.v (.int k x))) (hq : ev T q = some (.v (.int k y))) : Eff P o T [] (.v (.int k (bitsI .andNot k x y))) [] :=
 Z04 (by intro c; rw [ho]; nofun) fun C H a w hw hn hv => by
  have h2 := VR.val (hv p (by rw [ho]; simp [Op.operands]) _ hp)
  have h3 := VR.val (hv q (by rw [ho]; simp [Op.operands]) _ hq)
  refine ⟨_, ?_, .v _⟩
  simp [execOp, ho, h2, h3, eqGuard, binOp, Op.intBits, bitsI, Sem.run_bind, Result.andThen]
theorem Z3h (id n : Nat) {t e bytes : Nat} {p q : Operand} {z : Value} [hu : UD P t (.slice e)] [ha : AP P e 1 bytes] [hz : ZC P e [z]] (ho : o.op = .makeSlice t p q)
  (hp : ev T p = some (.v (.int .i64 n))) (hq : ev T q = some (.v (.int .i64 n))) (h1 : bytes * n ≤ 140737488355328) (hm : n ≤ maxLen) (h2 : one (.v z) = true) :
  Eff P o T [] (.own id 1 0 n) [(id, .rows e 1 (List.replicate n [.v z]))] :=
 Z4j (N := n) (by intro c; rw [ho]; nofun) fun C H a w hw _ hv hid => by
  have e1 := VR.val (hv p (by rw [ho]; simp [Op.operands]) _ hp)
  have e2 := VR.val (hv q (by rw [ho]; simp [Op.operands]) _ hq)
  obtain ⟨i, zv, hi, hzv, hsz, hby, hzs, hpos⟩ := AP.open ha.ap
  have hz2 : zv.cells = #[z] := by
   have := hz.zc
   unfold Program.zc at this
   rw [hi] at this
   simp only [hzv, Option.map_some, Option.some.injEq] at this
   apply Array.ext'
   rw [this]
  have hm' : n ≤ 9223372036854775807 := hm
  have hw2 : IntKind.i64.wrap (n : Int) = n := Z0u (by omega)
  have hb1 : ¬ (281474976710656 < (bytes : Int) * n) := by
   have : ((bytes * n : Nat) : Int) ≤ 140737488355328 := Int.ofNat_le.2 h1
   rw [Int.natCast_mul] at this; omega
  let z0 : Array Value := if n = 0 then #[] else zv.cells
  refine ⟨.slice (some ⟨w.heap.size, 0, none⟩) n n, .cells ((Array.range n).map (z0[· % z0.size]!)) e, ?_, ?_, ?_⟩
  ·have e3 : (asInt (.int .i64 (n : Int))).run P w = .ok (n : Int) w := by simp [asInt, asIntOf, Sem.run_bind, Result.andThen]
   have h00 : ¬ ((n : Int) < 0) := by omega
   have hc1 : ¬ ((bytes : Int) * n > 2 ^ 48) := hb1
   have hc0 : (decide ((n : Int) < 0) || decide ((bytes : Int) * n > 2 ^ 48)) = false := by rw [decide_eq_false h00, decide_eq_false hc1]; rfl
   have hn0 : ((n : Int)).toNat = n := by omega
   have hrun : (Instr.makeSlice t (.int .i64 n) (.int .i64 n)).run P w = .ok (.slice (some ⟨w.heap.size, 0, none⟩) n n) (w.alloc (.cells ((Array.range n).map (z0[· % z0.size]!)) e)) := by
    unfold Instr.makeSlice
    simp only [Sem.run_bind, Go.run_underlying hu.ud, Result.andThen, e3, typeInfo, hi, hby, hw2, hc0, h00, Int.lt_irrefl, decide_false, Bool.or_false, Bool.false_or, Bool.false_eq_true, if_false, run_askRoom, hn0, sizeOf, hsz, Nat.mul_one, Sem.run_pure]
    by_cases h0 : n = 0
    ·have hz0 : z0 = #[] := if_pos h0
     rw [hz0]
     simp [h0, hi, hby, hsz, newRow, run_newObj_alloc, Sem.run_bind, Result.andThen]
    ·have hz0 : z0 = zv.cells := if_neg h0
     rw [hz0]
     simp [h0, hi, hby, hsz, hb1, hzv, zeroValue, typeInfo, newRow, run_newObj_alloc, Sem.run_bind, Result.andThen, -getElem!_pos]
   have e4 : execOp a.eval o = (do pure (.value (← Instr.makeSlice t (a.eval p) (a.eval q)))) := by simp only [execOp, ho]
   rw [e4, e1, e2, Sem.run_bind, hrun]
   rfl
  ·have := VR.own (C := C.bind id w.heap.size n) id 1 0 n w.heap.size n n (Ctx.bind_m ..) List.mem_cons_self (by simp) (Nat.le_refl _) hm
   simpa using this
  ·refine ⟨by intro l hl; rw [List.eq_of_mem_replicate hl]; rfl, .inr ⟨w.heap.size, n, _, Ctx.bind_m .., heap_alloc_new w _, by simp, by simp, ?_⟩⟩
   intro i' l j c hl hc
   have hlt := Z0b hl
   rw [List.length_replicate] at hlt
   have hl2 : l = [.v z] := List.eq_of_mem_replicate (List.mem_of_getElem? hl)
   subst hl2
   have hj := Z0b hc
   simp only [List.length_singleton] at hj
   have : j = 0 := by omega
   subst this
   simp at hc; subst hc
   have hz0 : z0 = #[z] := by show (if n = 0 then #[] else zv.cells) = _; rw [if_neg (by omega), hz2]
   refine ⟨z, ?_, .v z, Z55 (C := C) (.v z) h2⟩
   rw [hz0]
   simp [hlt, Nat.mod_one]
theorem Z3g {t e m id el : Nat} {p q : Operand} {row : List AV} {kd : IntKind} {j : Int} (k : Nat) [hu : UD P t (.array m e)] [k1 : TK P e false 1] (hw : Wanted ops s.T o true) (hd : dok o.dst s.n = true)
  (ho : o.op = .slice t p none (some q) none) (hp : ev s.T p = some (.ptr id m 0 0)) (hH : s.H[k]? = some (id, .rows el m [row])) (hq : ev s.T q = some (.v (.int kd j))) (h0 : 0 ≤ j) (h1 : j ≤ m)
  (h : AOps P ro ops rest Q { s with T := put s.T o.dst (.lst ((row.take j.toNat).map fun c => [c])), H := s.H.eraseIdx k }) : AOps P ro ops (o :: rest) Q s := by
 refine Z0w hw ?_
 intro Z C0 H0 w0 C a w hx0 hs
 have hpv := hs.ev hp
 have hqv := VR.val (hs.ev hq)
 obtain ⟨hu', hlen, hor⟩ := hs.wr.ids _ _ (List.mem_of_getElem? hH)
 have hwp := hs.wr.perm (Zu hH)
 obtain ⟨b, ob, g1, g2, g3, g4, g5, g6⟩ := frz hwp
 have hrl : row.length = m := hlen row List.mem_cons_self
 generalize hav : a.eval p = u at hpv
 cases hpv with
 | ptr _ _ _ _ bb N hid _ =>
  have hb := g1 N bb hid
  subst hb
  rcases hor with ⟨hm, _⟩ | ⟨b', N', cells, hm, hh, hsz, hfit, hrow⟩
  ·rw [hid] at hm; cases hm
  ·rw [hid] at hm; cases hm
   have hob := g3 bb rfl
   rw [hh] at hob
   subst hob
   have hrun : (o.semAt ro a.eval).run P w = .ok (.value (.slice (some ⟨bb, 0, none⟩) j.toNat m)) w := by
    rw [Oper.semAt_eq _ _ _ (by intro c; rw [ho]; nofun)]
    simp [execOp, ho, hav, hqv, Instr.sliceAt, Instr.sliceBounds, Instr.sureAddr, run_underlying (d := .array m e), Z0g k1.tk, Z18 rfl h0 h1, Sem.run_bind, Result.andThen, Sem.run_pure, Addr.add]
   rw [hrun]
   have hv : VR (C.hpSet (some bb) (some (.cells cells el (0, 0)))) (.lst ((row.take j.toNat).map fun c => [c])) (.slice (some ⟨bb, 0, none⟩) j.toNat m) := by
    have hl : ((row.take j.toNat).map fun c => [c]).length = j.toNat := by simp; omega
    have hel : ∀ (i : Nat) (e : List AV) (jj : Nat) (c : AV), ((row.take j.toNat).map fun c => [c])[i]? = some e → e[jj]? = some c → jj = 0 ∧ row[i]? = some c := by
     intro i e jj c h2 h3
     rw [List.getElem?_map, List.getElem?_take] at h2
     split at h2
     ·cases h4 : row[i]? with
      | none => rw [h4] at h2; cases h2
      | some r =>
       rw [h4] at h2; simp at h2; subst h2
       have hj := Z0b h3
       simp at hj; subst hj
       simp at h3; subst h3
       exact ⟨rfl, rfl⟩
     ·cases h2
    have := VR.lst (C := C.hpSet (some bb) (some (.cells cells el (0, 0)))) ((row.take j.toNat).map fun c => [c]) ⟨bb, 0, none⟩ 1 m cells el (0, 0) (fun i _ => (cells[i]?).getD default) (fun _ => rfl) (fun _ => by simp [Ctx.hpSet])
     (by intro e he; obtain ⟨c, _, rfl⟩ := List.mem_map.1 he; rfl)
     (by
      intro i e jj c h2 h3
      obtain ⟨rfl, h4⟩ := hel i e jj c h2 h3
      obtain ⟨x, h5, _, _⟩ := hrow 0 row i c rfl h4
      simp only [Nat.zero_mul, Nat.zero_add] at h5
      simp only [Nat.zero_add, Nat.mul_one, Nat.add_zero, h5]; rfl)
     (by
      intro i e jj c h2 h3
      obtain ⟨rfl, h4⟩ := hel i e jj c h2 h3
      obtain ⟨x, h5, h6, _⟩ := hrow 0 row i c rfl h4
      simp only [Nat.zero_mul, Nat.zero_add] at h5
      simp only [h5]; exact h6.mono g5)
     (by
      intro i e jj c h2 h3
      obtain ⟨rfl, h4⟩ := hel i e jj c h2 h3
      obtain ⟨x, h5, _, h6⟩ := hrow 0 row i c rfl h4
      simp only [Nat.zero_mul, Nat.zero_add] at h5
      simp only [h5]; exact h6)
     (by rw [hl]; omega)
    rw [hl] at this; exact this
   have hext : Ext Z C s.H w (C.hpSet (some bb) (some (.cells cells el (0, 0)))) (s.H.eraseIdx k) w := by
    refine ⟨g5, fun _ _ h => h, rfl, rfl, rfl, Nat.le_refl _, fun _ _ _ => rfl, ?_, ?_, ?_⟩
    ·intro x o hx
     simp only [Ctx.hpSet] at hx
     split at hx
     ·rename_i e
      obtain ⟨_, N, hm⟩ := g2 x e
      exact .inr (.inr ⟨id, _, N, List.mem_of_getElem? hH, hm⟩)
     ·exact .inl ⟨o, hx⟩
    ·rintro x ⟨i, o, N, hi, hm⟩
     exact .inl ⟨i, o, N, List.mem_of_mem_eraseIdx hi, hm⟩
    ·intro i o hi
     exact .inl ⟨o, List.mem_of_mem_eraseIdx hi⟩
   exact ⟨_, _, h, hs.put g5 g4 (Z0t hd) hv, hx0.trans hext⟩
theorem Z6o {t t' e id el n : Nat} {p q : Operand} {y : AV} {es ys : List (List AV)} (k : Nat) [hu : UD P t (.slice e)] [k1 : TK P e false 1] (hw : Wanted ops s.T o true) (hd : dok o.dst s.n = true)
  (ho : o.op = .call { callee := .builtin .copy, args := #[p, q], argTypes := #[t, t'] }) (hp : ev s.T p = some (.own id 1 0 n)) (hH : s.H[k]? = some (id, .rows el 1 es)) (hn : es.length = n) (hq : ev s.T q = some y) (hy : SlA s.H 1 y ys) (hl : ys.length = n) (h0 : 0 < n)
  (h : AOps P ro ops rest Q { s with T := put s.T o.dst (.v (.int .i64 n)), H := s.H.set k (id, .rows el 1 ys) }) : AOps P ro ops (o :: rest) Q s := by
 refine Z0w hw ?_
 intro Z C0 H0 w0 C a w hx0 hs
 obtain ⟨ad, c, hqv, hnil, hlen, hcells⟩ := hy.cells hs.wr (hs.ev hq)
 obtain ⟨hu', hlenx, hor⟩ := hs.wr.ids _ _ (List.mem_of_getElem? hH)
 have hpv := hs.ev hp
 generalize hav : a.eval p = u at hpv
 cases hpv with
 | ownNil => omega
 | own _ _ _ _ b N cap hid _ hcap hlc hcm =>
  rcases hor with ⟨hm0, _⟩ | ⟨b', N', cells, hmb', hh, hsN, hfit, hrow⟩
  ·rw [hid] at hm0; cases hm0
  ·rw [hid] at hmb'; cases hmb'
   cases ad with
   | none => have := hnil rfl; subst this; simp at hl; omega
   | some ad =>
    obtain ⟨news, hn1, hn2, hn3, hn4⟩ := hcells ad rfl
    rw [Nat.mul_one] at hn1
    have hsz : (P.info? e).map (·.size) = some 1 := by
     have := k1.tk
     unfold Program.tk at this
     split at this
     ·rename_i d i h1 h2
      simp at this
      rw [h2]; simp [this.2]
     ·cases this
    have hrun := run_copy_row (P := P) w t t' o.type e b (0 * 1) n cap ad ys.length c cells el news hu.ud hsz hh (by rw [hn1, hl]; simp) hn2 (by rw [hn1, hl]; omega) hn3
    have hr : (o.semAt ro a.eval).run P w = .ok (.value (.int .i64 n)) (w.setRow b (cells.toList.take (0 * 1) ++ news ++ cells.toList.drop (0 * 1 + news.length)).toArray) := by
     rw [Oper.semAt_eq _ _ _ (by intro c; rw [ho]; nofun)]
     rw [hl] at hrun hqv
     simp only [Nat.zero_mul] at hrun hav
     simp [execOp, ho, resolve, invoke, builtin, hav, hqv, hrun, Result.andThen, Sem.run_bind, goInt, hn1, hl]
    rw [hr]
    obtain ⟨hw1, he1⟩ := Z1h (Z := Z) (C' := C) (id' := id) (o' := .rows el 1 ys) (w' := w.setRow b (cells.toList.take (0 * 1) ++ news ++ cells.toList.drop (0 * 1 + news.length)).toArray) hs.wr hH (.refl C) rfl (.inl rfl) hu' (fun _ _ h => h) rfl rfl rfl (by simp)
     (fun b N' hm' => .inl ⟨N', hm'⟩) (fun b2 hb2 hne => setRow_other w b b2 _ (by rintro rfl; exact hne _ hid)) (by
      refine ⟨hlen, .inr ⟨b, _, _, hid, setRow_heap w b cells _ el (0, 0) hh, ?_, ?_, ?_⟩⟩
      ·simp only [List.size_toArray, List.length_append, List.length_take, List.length_drop, Array.length_toList, hn1]
       omega
      ·omega
      ·intro i e' j cc he' hcc
       obtain ⟨u, h3, h4⟩ := hn4 i e' j cc he' hcc
       have hlt := Z0b h3
       refine ⟨u, ?_, h4, hn3 u (List.mem_of_getElem? h3)⟩
       rw [List.getElem?_toArray, Z0z _ _ _ _ (by have := Array.length_toList (xs := cells); omega), if_neg (by omega), if_pos (by rw [hn1] at hlt ⊢; omega), ← h3]
       congr 1)
    exact ⟨C, _, h, hs.put he1.le hw1 (Z0t hd) (.v _), hx0.trans he1⟩
def byteRows (x : ByteArray) : List (List AV) := x.data.toList.map fun b => [.v (.int .u8 b.toNat)]
theorem Z25 (x : ByteArray) : (byteRows x).length = x.size := by
 unfold byteRows
 rw [List.length_map, Array.length_toList]; rfl
theorem Z3k {C : Ctx} {H : AHeap} {w : World} {Z : List Nat} {t tx ty e bytes id id' k : Nat} {v : Value} {x : ByteArray} {xs : List (List AV)} [hu : UD P t (.slice e)] [hux : UD P tx .string] [ha : AP P e 1 bytes]
  (hs : WR C H w) (hH : H[k]? = some (id, .rows e 1 xs)) (hp : VR C (.own id 1 0 xs.length) v)
  (hml : (xs.length + x.size) * bytes ≤ 140737488355328) (hm : xs.length + x.size ≤ maxLen) (hid : id' ∉ C.U) (hidz : id' ∉ Z) :
  ∃ v' w' C', (Builtin.append_ #[t, tx] ty #[v, .string x]).run P w = .ok v' w' ∧ VR C' (.own id' 1 0 (xs.length + x.size)) v' ∧ WR C' (H.set k (id', .rows e 1 (xs ++ byteRows x))) w' ∧ Ext Z C H w C' (H.set k (id', .rows e 1 (xs ++ byteRows x))) w' := by
 obtain ⟨i, z, hi, hz, hsz, hby, hzs, hpos⟩ := AP.open ha.ap
 have hmem := List.mem_of_getElem? hH
 have hown : SlA H 1 (.own id 1 0 xs.length) xs := ⟨rfl, e, xs, hmem, by omega, by simp⟩
 obtain ⟨hu', hlenx, hor⟩ := hs.ids _ _ hmem
 obtain ⟨adp, cp, hv, hnilp, _, hcellsp⟩ := hown.cells hs hp
 have hsrc := Src.ofString (P := P) w hux.ud x
 have hlb := byteCells_length x
 have hlen : ∀ e : List AV, e ∈ byteRows x → e.length = 1 := by
  intro e he; obtain ⟨b, _, rfl⟩ := List.mem_map.1 he; rfl
 have hav : ∀ x, ∀ z, z ∈ Z → z ∉ C.U → z ∉ (C.bindO id' x).U := by
  intro x z hz' hn
  simp only [Ctx.bindO, List.mem_cons, not_or]
  exact ⟨fun e => hidz (e ▸ hz'), hn⟩
 have hle : ∀ x, C.Le (C.bindO id' x) := fun x => Ctx.le_bindO hid
 have hn4 : ∀ (i : Nat) (e : List AV) (j : Nat) (cc : AV), (byteRows x)[i]? = some e → e[j]? = some cc → ∃ u, (byteCells x)[i * 1 + j]? = some u ∧ ∀ C : Ctx, VR C cc u := by
  intro i e j cc h1 h2
  unfold byteRows at h1
  rw [List.getElem?_map] at h1
  cases h3 : x.data.toList[i]? with
  | none => rw [h3] at h1; cases h1
  | some b =>
   rw [h3] at h1; simp at h1; subst h1
   have hj := Z0b h2
   simp at hj; subst hj
   simp at h2; subst h2
   refine ⟨.int .u8 b.toNat, ?_, fun C => .v _⟩
   unfold byteCells
   rw [Nat.mul_one, Nat.add_zero, List.getElem?_map, h3]; rfl
 have grow : ∀ (olds zs : List Value) (N : Nat), olds.length = xs.length * 1 → (olds ++ byteCells x ++ zs).length = N →
   (∀ (i : Nat) (e : List AV) (j : Nat) (cc : AV), xs[i]? = some e → e[j]? = some cc → ∃ u, olds[i * 1 + j]? = some u ∧ VR C cc u) →
   (∀ u, u ∈ olds → u.oneCell' = true) →
   WR (C.bindO id' (some (w.heap.size, N))) (H.set k (id', .rows e 1 (xs ++ byteRows x))) (w.drew.alloc (.cells (olds ++ byteCells x ++ zs).toArray e)) ∧
    Ext Z C H w (C.bindO id' (some (w.heap.size, N))) (H.set k (id', .rows e 1 (xs ++ byteRows x))) (w.drew.alloc (.cells (olds ++ byteCells x ++ zs).toArray e)) := by
  intro olds zs N h1 h3 h4 h6
  have hal : ∀ b, b < w.heap.size → (w.drew.alloc (.cells (olds ++ byteCells x ++ zs).toArray e)).heap[b]? = w.heap[b]? := fun b hb => heap_alloc_old w.drew _ (h := hb)
  refine Z1h hs hH (hle _) rfl (.inr hid) List.mem_cons_self (hav _) rfl rfl rfl (by simp) (fun b N' hm => .inr ?_) (fun b hb _ => hal b hb) ?_
  ·rw [Ctx.bindO_m] at hm; cases hm; exact Nat.le_refl _
  ·exact Zgj (w := w) (Ctx.bindO_m ..) (heap_alloc_new w.drew _) h3 hlenx hlen h1 (by rw [hlb, Z25, Nat.mul_one]) (fun i e' j cc a b => let ⟨u, x, y⟩ := h4 i e' j cc a b; ⟨u, x, y.mono (hle _)⟩) (fun i e' j cc a b => let ⟨u, x, y⟩ := hn4 i e' j cc a b; ⟨u, x, y _⟩) h6 hsrc.one
 have hvgrow : ∀ cap, xs.length + x.size ≤ cap → cap ≤ maxLen → VR (C.bindO id' (some (w.heap.size, cap * 1))) (.own id' 1 0 (xs.length + x.size)) (.slice (some ⟨w.heap.size, 0, none⟩) (xs.length + x.size) cap) := by
  intro cap h1 h2
  have := VR.own (C := C.bindO id' (some (w.heap.size, cap * 1))) id' 1 0 (xs.length + x.size) w.heap.size (cap * 1) cap (Ctx.bindO_m ..) List.mem_cons_self (by simp) h1 h2
  simpa using this
 have hzc : ∀ m cap, m ≤ cap → m * 1 + (Builtin.zeroCells z.cells (cap - m)).size = cap * 1 := by
  intro m cap h
  rw [size_zeroCells, hzs, ← Nat.add_mul]; congr 1; omega
 have hm63 : ((xs.length + x.size : Nat) : Int) ≤ 9223372036854775807 := by simp only [maxLen] at hm; omega
 -- there is no room
 have nogo : ∀ (base : Option Addr) (cap : Nat) (olds : List Value), (Builtin.firstCells i.size xs.length (.slice base xs.length cap)).run P w.drew = .ok olds.toArray w.drew → cap < xs.length + x.size → olds.length = xs.length * 1 →
   (∀ (i : Nat) (e : List AV) (j : Nat) (cc : AV), xs[i]? = some e → e[j]? = some cc → ∃ u, olds[i * 1 + j]? = some u ∧ VR C cc u) → (∀ u, u ∈ olds → u.oneCell' = true) →
   ∃ v' w' C', (Builtin.append_ #[t, tx] ty #[.slice base xs.length cap, .string x]).run P w = .ok v' w' ∧ VR C' (.own id' 1 0 (xs.length + x.size)) v' ∧ WR C' (H.set k (id', .rows e 1 (xs ++ byteRows x))) w' ∧ Ext Z C H w C' (H.set k (id', .rows e 1 (xs ++ byteRows x))) w' := by
  intro base cap olds hold hg h1 h2 h3
  have hcap1 := grownCap_ge w (xs.length + x.size) cap e
  have hcapm := grownCap_le_maxLen w (xs.length + x.size) cap e hm
  have hrun := run_append_grow_src (P := P) w t tx ty e i z hu.ud hi hz base xs.length cap olds hold (.string x) x.size (byteCells x) (by rw [hsz]; exact hsrc) hg hm63 (by rw [hby]; exact growslice_fits hg hml)
  obtain ⟨h4, h5⟩ := grow olds (Builtin.zeroCells z.cells (grownCap w (xs.length + x.size) cap e - (xs.length + x.size))).toList (grownCap w (xs.length + x.size) cap e * 1) h1
   (by have := hzc (xs.length + x.size) _ hcap1; simp only [List.length_append, Array.length_toList, hlb, h1]; omega) h2 h3
  have e0 : ((olds ++ byteCells x).toArray ++ Builtin.zeroCells z.cells (grownCap w (xs.length + x.size) cap e - (xs.length + x.size))) = (olds ++ byteCells x ++ (Builtin.zeroCells z.cells (grownCap w (xs.length + x.size) cap e - (xs.length + x.size))).toList).toArray := by simp
  rw [e0] at hrun
  exact ⟨_, _, _, hrun, hvgrow _ hcap1 hcapm, h4, h5⟩
 have hp' := hp
 generalize hxn : xs.length = n at hp'
 cases hp' with
 | ownNil _ _ hmn =>
  have hx0 : xs = [] := List.length_eq_zero_iff.1 hxn
  subst hx0
  rcases Nat.eq_zero_or_pos x.size with h0 | h0
  ·have hx : byteRows x = [] := List.length_eq_zero_iff.1 (by rw [Z25]; exact h0)
   refine ⟨.slice none 0 0, w, C.bindO id' (C.m id), ?_, ?_, ?_⟩
   ·have hb : byteCells x = [] := List.length_eq_zero_iff.1 (by rw [hlb]; exact h0)
    have hc := hsrc.cells
    rw [h0] at hc
    rw [hb] at hc
    simp [Builtin.append_, Go.run_underlying hu.ud, Go.run_underlying hux.ud, sizeOf, typeInfo, hi, hsz, Builtin.lenOf, h0, hc, Result.andThen, Sem.run_bind]
   ·have := VR.ownNil (C := C.bindO id' (C.m id)) id' 1 (by rw [Ctx.bindO_m]; exact hmn) List.mem_cons_self
    simpa [h0] using this
   ·rw [hx]
    refine Z1h hs hH (hle _) rfl (.inr hid) List.mem_cons_self (hav _) rfl rfl rfl (Nat.le_refl _) (fun b N hm => .inl ⟨N, by rw [Ctx.bindO_m] at hm; exact hm⟩) (fun _ _ _ => rfl) ?_
    exact ⟨nofun, .inl ⟨by rw [Ctx.bindO_m]; exact hmn, rfl⟩⟩
  ·have := nogo none 0 [] (by simp [Builtin.firstCells]) (by simpa using h0) rfl (by intro i e j cc h; simp at h) nofun
   simpa using this
 | own _ _ _ _ b N cap hmb _ hcap hlc hcm =>
  subst hxn
  rcases hor with ⟨hm0, _⟩ | ⟨b', N', cells, hmb', hh, hsN, hfit, hrow⟩
  ·rw [hmb] at hm0; cases hm0
  ·rw [hmb] at hmb'; cases hmb'
   simp only [Nat.zero_mul, Nat.zero_add] at hcap hv ⊢
   rcases Nat.lt_or_ge cap (xs.length + x.size) with hg | hg
   ·obtain ⟨olds, ho1, ho2, ho3, ho4⟩ := hcellsp ⟨b, 0, none⟩ (by simpa using (by cases hv; rfl : (some (⟨b, 0, none⟩ : Addr)) = adp).symm)
    exact nogo (some ⟨b, 0, none⟩) cap olds (by rw [hsz]; exact run_firstCells_some w.drew 1 xs.length ⟨b, 0, none⟩ xs.length cap olds ho1 (by simpa using ho2)) hg ho1 ho4 ho3
   ·have hNs : xs.length + x.size ≤ cells.size := by rw [hsN, ← hcap]; omega
    have hst := run_storeCells_at P b xs.length e (byteCells x) 0 cells w hh (by rw [hlb]; omega) hsrc.one
    simp only [Nat.add_zero] at hst
    have hrun : (Builtin.append_ #[t, tx] ty #[.slice (some ⟨b, 0, none⟩) xs.length cap, .string x]).run P w = .ok (.slice (some ⟨b, 0, none⟩) (xs.length + x.size) cap) (w.setRow b (cells.toList.take xs.length ++ byteCells x ++ cells.toList.drop (xs.length + (byteCells x).length)).toArray) := by
     have hc := hsrc.cells
     simp [Builtin.append_, Go.run_underlying hu.ud, Go.run_underlying hux.ud, sizeOf, typeInfo, hi, hsz, Builtin.lenOf, hg, hc, hst, Z3t, Result.andThen, Sem.run_bind]
    refine ⟨_, _, C.bindO id' (C.m id), hrun, ?_, ?_⟩
    ·have := VR.own (C := C.bindO id' (C.m id)) id' 1 0 (xs.length + x.size) b N cap (by rw [Ctx.bindO_m]; exact hmb) List.mem_cons_self (by simpa using hcap) hg hcm
     simpa using this
    ·refine Z1h hs hH (hle _) rfl (.inr hid) List.mem_cons_self (hav _) rfl rfl rfl (by simp) (fun b2 N2 hm2 => .inl ⟨N2, by rw [Ctx.bindO_m] at hm2; exact hm2⟩) (fun b2 hb2 hne => setRow_other w b b2 _ (by rintro rfl; exact hne N hmb)) ?_
     refine ⟨?_, .inr ⟨b, N, _, by rw [Ctx.bindO_m]; exact hmb, setRow_heap w b cells _ e (0, 0) hh, ?_, ?_, ?_⟩⟩
     ·intro e' he'
      rcases List.mem_append.1 he' with h | h
      ·exact hlenx e' h
      ·exact hlen e' h
     ·simp only [List.size_toArray, List.length_append, List.length_take, List.length_drop, Array.length_toList, hlb]
      omega
     ·rw [List.length_append, Z25]; omega
     ·intro i' e' j cc he' hcc
      rw [List.getElem?_toArray, Z0z _ _ _ _ (by rw [hlb, Array.length_toList]; exact hNs), hlb]
      rw [List.getElem?_append] at he'
      split at he'
      ·rename_i hlt
       have hj : j < 1 := by rw [← hlenx e' (List.mem_of_getElem? he')]; exact Z0b hcc
       rw [if_pos (by omega), Array.getElem?_toList]
       obtain ⟨u, h1, h2, h3⟩ := hrow i' e' j cc he' hcc
       exact ⟨u, h1, h2.mono (hle _), h3⟩
      ·rename_i hge
       obtain ⟨u, h1, h2⟩ := hn4 (i' - xs.length) e' j cc he' hcc
       have hlt := Z0b h1
       rw [hlb] at hlt
       rw [if_neg (by omega), if_pos (by omega)]
       refine ⟨u, ?_, h2 _, hsrc.one u (List.mem_of_getElem? h1)⟩
       rw [← h1]; congr 1; omega
theorem Z80 {t tx e bytes id : Nat} {p q : Operand} {x : ByteArray} {xs : List (List AV)} {n : Nat} (k : Nat) [hu : UD P t (.slice e)] [hux : UD P tx .string] [ha : AP P e 1 bytes] (hw : Wanted ops s.T o true) (hd : dok o.dst s.n = true)
  (ho : o.op = .call { callee := .builtin .append, args := #[p, q], argTypes := #[t, tx] }) (hp : ev s.T p = some (.own id 1 0 n)) (hH : s.H[k]? = some (id, .rows e 1 xs)) (hn : n = xs.length) (hq : ev s.T q = some (.v (.string x)))
  (hml : (xs.length + x.size) * bytes ≤ 140737488355328) (hm : xs.length + x.size ≤ maxLen)
  (h : ∀ id', AOps P ro ops rest Q { s with T := put s.T o.dst (.own id' 1 0 (xs.length + x.size)), H := s.H.set k (id', .rows e 1 (xs ++ byteRows x)) }) : AOps P ro ops (o :: rest) Q s := by
 subst hn
 refine Z0w hw ?_
 intro Z C0 H0 w0 C a w hx0 hs
 obtain ⟨id', hid⟩ := Z9s (C.U ++ Z)
 rw [List.mem_append, not_or] at hid
 obtain ⟨v', w', C', h1, h2, h3, h4⟩ := Z3k (P := P) (ty := o.type) (t := t) (tx := tx) hs.wr hH (hs.ev hp) hml hm hid.1 hid.2
 have hqv := VR.val (hs.ev hq)
 have hr : (o.semAt ro a.eval).run P w = .ok (.value v') w' := by
  rw [Oper.semAt_eq _ _ _ (by intro c; rw [ho]; nofun)]
  simp [execOp, ho, resolve, invoke, builtin, hqv, h1, Result.andThen, Sem.run_bind]
 rw [hr]
 exact ⟨C', _, h id', hs.put h4.le h3 (Z0t hd) h2, hx0.trans h4⟩
end Go.Sx
namespace Go.Sx
open Go
variable {P : Program} {ro : Option Nat} {Q : Exit → St → Prop} {s : St} {ops : Array Oper} {o : Oper} {rest : List Oper} {T : List (Nat × AV)}
end Go.Sx
namespace Go.Sx
open Go
theorem adB (a : Addr) (n : Nat) : (a.add n).block = a.block := by unfold Addr.add; split <;> rfl
theorem adO (a : Addr) (n : Nat) : (a.add n).off = a.off + n := by unfold Addr.add; split; omega; rfl
theorem adS (a : Addr) (n : Nat) (h : a.spot = none) : (a.add n).spot = none := by unfold Addr.add; split; exact h; rfl
section
variable {P : Program} {T : List (Nat × AV)} {o : Oper}
theorem Z4k {t e n : Nat} {b : Bool} {p q : Operand} {es : List (List AV)} {kd : IntKind} {k : Int} [h : UD P t (.slice e)] [k1 : TK P e b n] (ho : o.op = .slice t p (some q) none none)
  (hp : ev T p = some (.lst es)) (hq : ev T q = some (.v (.int kd k))) (hes : ∀ e : List AV, e ∈ es → e.length = n) (h0 : 0 ≤ k) (h1 : k ≤ es.length) : Eff P o T [] (.lst (es.drop k.toNat)) [] :=
 Z04 (by intro c; rw [ho]; nofun) fun C H a w hw hn hv => by
  have h2 := hv p (by rw [ho]; simp [Op.operands]) _ hp
  have h3 := VR.val (hv q (by rw [ho]; simp [Op.operands]) _ hq)
  generalize hpv : a.eval p = u at h2
  cases h2 with
  | lstNil =>
   have hk : k = 0 := by simp at h1; omega
   subst hk
   refine ⟨.slice none 0 0, ?_, by simpa using VR.lstNil⟩
   have hb : ∀ code, (Instr.sliceBound (.int kd 0) 0 code).run P w = .ok 0 w := fun code => Z18 rfl (by omega) (by omega) w
   simp [execOp, ho, hpv, h3, Instr.sliceAt, Instr.slice, Instr.sliceBounds, run_underlying (d := .slice e), Z0g k1.tk, hb, Sem.run_bind, Result.andThen, Sem.run_pure]
  | lst _ ad sz cap cells elem fz xs hs hb hz hc hvv ho' hcap =>
   have hkc : k ≤ (es.length : Int) := h1
   refine ⟨.slice (some (if cap = k.toNat then ad else ad.add (k.toNat * n))) (es.length - k.toNat) (cap - k.toNat), ?_, ?_⟩
   ·by_cases hck : cap = k.toNat <;>
     simp [hck, execOp, ho, hpv, h3, Instr.sliceAt, Instr.slice, Instr.sliceBounds, run_underlying (d := .slice e), Z0g k1.tk, Z18 rfl h0 hkc, Sem.run_bind, Result.andThen, Sem.run_pure]
   ·have hl : (es.drop k.toNat).length = es.length - k.toNat := by rw [List.length_drop]
    have hne : es.drop k.toNat ≠ [] → es ≠ [] := fun h e => h (by rw [e]; simp)
    have hne2 : es.drop k.toNat ≠ [] → ¬ cap = k.toNat := fun h e => h (by rw [List.drop_of_length_le (by omega)])
    have hget : ∀ (i : Nat) (e : List AV), (es.drop k.toNat)[i]? = some e → es[k.toNat + i]? = some e := fun i e h => by
     rw [List.getElem?_drop] at h; exact h
    have hsz : es ≠ [] → sz = n := fun h => by
     cases es with
     | nil => exact absurd rfl h
     | cons x r => rw [← hz x List.mem_cons_self, hes x List.mem_cons_self]
    have hfin := VR.lst (C := C) (es.drop k.toNat) (if cap = k.toNat then ad else ad.add (k.toNat * n)) sz (cap - k.toNat) cells elem fz (fun i j => xs (k.toNat + i) j)
     (fun h => by rw [if_neg (hne2 h)]; exact adS _ _ (hs (hne h))) (fun h => by rw [if_neg (hne2 h)]; rw [adB]; exact hb (hne h)) (fun e he => hz e (List.mem_of_mem_drop he))
     (fun i e j c g1 g2 => by
      have hm : es.drop k.toNat ≠ [] := fun e => by rw [e] at g1; simp at g1
      rw [if_neg (hne2 hm), ← hc (k.toNat + i) e j c (hget i e g1) g2]
      congr 1
      have := hsz (hne hm)
      subst this
      rw [adO, Nat.add_mul]; omega)
     (fun i e j c g1 g2 => hvv _ e j c (hget i e g1) g2) (fun i e j c g1 g2 => ho' _ e j c (hget i e g1) g2) (by omega)
    rw [hl] at hfin
    exact hfin
end
section
variable {P : Program} {ro : Option Nat} {Q : Exit → St → Prop} {s : St} {ops : Array Oper} {o : Oper} {rest : List Oper}
end
end Go.Sx
namespace Go.Sx
open Go
section
variable {P : Program} {ro : Option Nat} {Q : Exit → St → Prop} {s : St}
end
section
variable {P : Program} {T : List (Nat × AV)} {o : Oper}
theorem Z0x {t t' : TypeId} {p q : Operand} {x y : ByteArray} (ho : o.op = .binOp .add t p q t') (hp : ev T p = some (.v (.string x))) (hq : ev T q = some (.v (.string y))) (hz : x.size + y.size ≤ 9223372036854775807) : Eff P o T [] (.v (.string (x ++ y))) [] :=
 Z04 (by intro c; rw [ho]; nofun) fun C H a w hw hn hv => by
  have h2 := VR.val (hv p (by rw [ho]; simp [Op.operands]) _ hp)
  have h3 := VR.val (hv q (by rw [ho]; simp [Op.operands]) _ hq)
  refine ⟨.string (x ++ y), ?_, .v _⟩
  have hm : ¬ ((x.size + y.size : Nat) : Int) > IntKind.i64.max := by
   have : IntKind.i64.max = 9223372036854775807 := rfl
   omega
  simp [execOp, ho, h2, h3, eqGuard, binOp, Op.stringOp, Sem.run_bind, Result.andThen]
  rw [if_neg (by simpa using hm)]
end
def pull : AHeap → List Nat → Option (AHeap × AHeap)
 | H, [] => some ([], H)
 | H, k :: ks => match H[k]? with
  | some p => match pull (H.eraseIdx k) ks with
   | some (A, B) => some (p :: A, B)
   | none => none
  | none => none
end Go.Sx
namespace Go.Sx
open Go
def ARounds (P : Program) (ro : Option Nat) (c : Code) (Q : Exit → St → Prop) : Nat → St → Prop
 | 0, _ => False
 | m + 1, s => AWp P ro c (thenQ (ARounds P ro c Q m) Q) s
theorem Z6q {P : Program} {ro : Option Nat} {c : Code} {Q : Exit → St → Prop} {s : St} (m : Nat) (h : ARounds P ro c Q m s) : AWp P ro (.loop c) Q s := by
 intro Z C0 H0 w0 C a w he hs
 refine wpIn_loop_rounds m ?_
 induction m generalizing s C a w with
 | zero => exact h.elim
 | succ m ih =>
  refine wpIn_mono (h Z C0 H0 w0 C a w he hs) ?_
  rintro e a' w' ⟨h1, C', s', hq, hs', he'⟩
  cases e with
  | normal => exact ih hq C' a' w' he' hs'
  | outgrown => exact absurd rfl h1
  | _ => exact ⟨h1, C', s', hq, hs', he'⟩
theorem zRd {P : Program} {ro : Option Nat} {c : Code} {Q : Exit → St → Prop} {s : St} {m : Nat} (h : AWp P ro c (thenQ (ARounds P ro c Q m) Q) s) : ARounds P ro c Q (m + 1) s := h
end Go.Sx
