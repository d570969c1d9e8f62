/- YtgaifmhbijbfgaaGreatRaB1: texts of this claim, one behind the other. -/
import Derived.Test.YtgaifmhbijbfgaaGreatProg
import Derived.AtR
import Derived.Deep.AppendSrc
import Derived.Laws.CopyRow
import Derived.WalkSpells
import Derived.Lib.Strings
import Derived.LoopNIn
import Derived.Test.YtgaifmhbijbfgaaGreatRaB0
set_option linter.unusedVariables false
set_option linter.unusedSimpArgs false
set_option linter.unusedSectionVars false
set_option linter.unnecessarySimpa false
namespace Go.Sx
open Go
abbrev Str := ByteArray
abbrev iA (n : Int) : AV := .v (.int .i64 n)
abbrev uA (n : Int) : AV := .v (.int .u8 n)
abbrev sA (s : Str) : AV := .v (.string s)
abbrev bA (b : Bool) : AV := .v (.bool b)
def row1 {α : Type} (f : α → AV) (l : List α) : AV := .lst (l.map fun x => [f x])
structure Ty where
 kind : Int
 cls : Str
 deriving DecidableEq
structure Instr where
 op : Int
 a : Int
 b : Int
 c : Int
 k : Int
 cls : Str
 name : Str
 desc : Str
 args : List Int
 deriving DecidableEq
structure Fld where
 name : Str
 type : Ty
 static : Bool
 deriving DecidableEq
structure Meth where
 name : Str
 desc : Str
 static : Bool
 abs : Bool
 regs : Int
 code : List Instr
 deriving DecidableEq
structure Cls where
 name : Str
 super : Str
 iface : Bool
 abs : Bool
 ifaces : List Str
 fields : List Fld
 methods : List Meth
 deriving DecidableEq
structure MRef where
 cls : Str
 name : Str
 desc : Str
 deriving DecidableEq
structure Prog where
 classes : List Cls
 names : List Str
 entry : MRef
 deriving DecidableEq
structure Fact where
 kind : Int
 cls : Str
 deriving DecidableEq
def Ty.cells (t : Ty) : List AV := [iA t.kind, sA t.cls]
def Instr.cells (i : Instr) : List AV := [iA i.op, iA i.a, iA i.b, iA i.c, iA i.k, sA i.cls, sA i.name, sA i.desc, row1 iA i.args]
def Fld.cells (f : Fld) : List AV := [sA f.name, iA f.type.kind, sA f.type.cls, bA f.static]
def Meth.cells (m : Meth) : List AV := [sA m.name, sA m.desc, bA m.static, bA m.abs, iA m.regs, .lst (m.code.map Instr.cells)]
def Cls.cells (c : Cls) : List AV := [sA c.name, sA c.super, bA c.iface, bA c.abs, row1 sA c.ifaces, .lst (c.fields.map Fld.cells), .lst (c.methods.map Meth.cells)]
def MRef.cells (m : MRef) : List AV := [sA m.cls, sA m.name, sA m.desc]
def Prog.cells (p : Prog) : List AV := [.lst (p.classes.map Cls.cells), row1 sA p.names, sA p.entry.cls, sA p.entry.name, sA p.entry.desc]
def Fact.cells (f : Fact) : List AV := [iA f.kind, sA f.cls]
def i64 (n : Int) : Prop := -9223372036854775808 ≤ n ∧ n ≤ 9223372036854775807
def small (n : Nat) : Prop := n ≤ 140737488351232
structure Ty.ok (t : Ty) : Prop where
 kind : i64 t.kind
 cls : small t.cls.size
structure Instr.ok (i : Instr) : Prop where
 op : i64 i.op
 a : i64 i.a
 b : i64 i.b
 c : i64 i.c
 k : i64 i.k
 cls : small i.cls.size
 name : small i.name.size
 desc : small i.desc.size
 args : small i.args.length ∧ ∀ x, x ∈ i.args → i64 x
structure Fld.ok (f : Fld) : Prop where
 name : small f.name.size
 type : f.type.ok
structure Meth.ok (m : Meth) : Prop where
 name : small m.name.size
 desc : small m.desc.size
 regs : i64 m.regs
 code : small m.code.length ∧ ∀ x, x ∈ m.code → x.ok
structure Cls.ok (c : Cls) : Prop where
 name : small c.name.size
 super : small c.super.size
 ifaces : small c.ifaces.length ∧ ∀ x, x ∈ c.ifaces → small x.size
 fields : small c.fields.length ∧ ∀ x, x ∈ c.fields → x.ok
 methods : small c.methods.length ∧ ∀ x, x ∈ c.methods → x.ok
structure MRef.ok (m : MRef) : Prop where
 cls : small m.cls.size
 name : small m.name.size
 desc : small m.desc.size
structure Prog.ok (p : Prog) : Prop where
 classes : small p.classes.length ∧ ∀ x, x ∈ p.classes → x.ok
 names : small p.names.length ∧ ∀ x, x ∈ p.names → small x.size
 entry : p.entry.ok
structure Fact.ok (f : Fact) : Prop where
 kind : i64 f.kind
 cls : small f.cls.size
def Dec (P : Program) (t : TypeId) {α : Type} (cells : α → List AV) (ok : α → Prop) : Prop := ∀ xs, TV P t xs → ∃ x : α, xs = cells x ∧ ok x
def fts (P : Program) (t : TypeId) : Option (List TypeId) := match P.underlying t with
 | some (.struct fs) => some (fs.toList.map (·.type))
 | _ => none
theorem Z7q {P : Program} {t : TypeId} (h : (fts P t).isSome = true) : ∃ fs, P.underlying t = some (.struct fs) := by
 unfold fts at h
 split at h
 ·exact ⟨_, by assumption⟩
 ·cases h
inductive TVF (P : Program) : List TypeId → List AV → Prop
 | nil : TVF P [] []
 | cons {t : TypeId} {ts : List TypeId} {x y : List AV} (h : TV P t x) (r : TVF P ts y) : TVF P (t :: ts) (x ++ y)
section
variable {P : Program} {t : TypeId}
theorem Z3z (hu : P.underlying t = some (.int .i64)) : Dec P t (fun n => [iA n]) i64 := by
 intro xs h
 cases h with
 | int n h hn => rw [hu] at h; cases h; exact ⟨n, rfl, _root_.Go.bounds_i64 hn⟩
 | _ => simp_all
theorem Z37 (hu : P.underlying t = some .string) : Dec P t (fun s => [sA s]) (fun s => small s.size) := by
 intro xs h
 cases h with
 | string s h hs => exact ⟨s, rfl, hs⟩
 | _ => simp_all
theorem Ze5 (hu : P.underlying t = some .bool) : Dec P t (fun b => [bA b]) (fun _ => True) := by
 intro xs h
 cases h with
 | bool b h => exact ⟨b, rfl, trivial⟩
 | _ => simp_all
theorem Zf7 {α : Type} {cells : α → List AV} {ok : α → Prop} : ∀ (es : List (List AV)), (∀ x : List AV, x ∈ es → ∃ y : α, x = cells y ∧ ok y) → ∃ l : List α, es = l.map cells ∧ ∀ x, x ∈ l → ok x
 | [], _ => ⟨[], rfl, nofun⟩
 | e :: es, h => by
  obtain ⟨y, rfl, hy⟩ := h e List.mem_cons_self
  obtain ⟨l, rfl, hl⟩ := Zf7 es (fun x hx => h x (List.mem_cons_of_mem _ hx))
  refine ⟨y :: l, rfl, fun x hx => ?_⟩
  rcases List.mem_cons.1 hx with rfl | hx
  ·exact hy
  ·exact hl x hx
theorem Z2t {e : TypeId} {α : Type} {cells : α → List AV} {ok : α → Prop} (hu : P.underlying t = some (.slice e)) (hb : Nat.blt 0 (P.bytesOf e) = true) (he : Dec P e cells ok) :
  Dec P t (fun l : List α => [.lst (l.map cells)]) (fun l => small l.length ∧ ∀ x, x ∈ l → ok x) := by
 intro xs h
 cases h with
 | slice es h hl hm hes =>
  rw [hu] at h; cases h
  obtain ⟨l, rfl, hok⟩ := Zf7 es (fun x hx => he x (hes x hx))
  refine ⟨l, rfl, ?_, hok⟩
  have hb : 0 < P.bytesOf e := Nat.blt_eq ▸ hb
  rw [List.length_map] at hl
  have h1 : l.length * 1 ≤ l.length * P.bytesOf e := Nat.mul_le_mul_left _ hb
  have h2 : reachBytes = 140737488351232 := rfl
  unfold small
  omega
 | _ => simp_all
theorem Z26 {ts : List TypeId} {xs : List AV} (h : fts P t = some ts) (hv : TV P t xs) : TVF P ts xs := by
 unfold fts at h
 split at h
 ·rename_i fs hu
  simp only [Option.some.injEq] at h
  subst h
  cases hv with
  | struct parts h hl hp =>
   rw [hu] at h; cases h
   have claim : ∀ (fl : List Field) (parts : List (List AV)), parts.length = fl.length → (∀ (i : Nat) (f : Field) (x : List AV), fl[i]? = some f → parts[i]? = some x → TV P f.type x) → TVF P (fl.map (·.type)) parts.flatten := by
    intro fl
    induction fl with
    | nil => intro parts hl _; cases parts with | nil => exact .nil | cons => simp at hl
    | cons f fl ih =>
     intro parts hl hp
     cases parts with
     | nil => simp at hl
     | cons x parts =>
      exact .cons (hp 0 f x rfl rfl) (ih parts (by simpa using hl) (fun i f x h1 h2 => hp (i + 1) f x (by simpa using h1) (by simpa using h2)))
   exact claim _ _ (by simpa using hl) (fun i f x h1 h2 => hp i f x (by simpa using h1) h2)
  | _ => simp_all
 ·cases h
theorem Z0o {α : Type} {cells : α → List AV} {ok : α → Prop} {ts : List TypeId} {xs : List AV} (hd : Dec P t cells ok) (h : TVF P (t :: ts) xs) : ∃ (x : α) (ys : List AV), xs = cells x ++ ys ∧ ok x ∧ TVF P ts ys := by
 cases h with
 | cons h r =>
  obtain ⟨x, rfl, hx⟩ := hd _ h
  exact ⟨x, _, rfl, hx, r⟩
theorem Z6k {xs : List AV} (h : TVF P [] xs) : xs = [] := by cases h; rfl
section
variable {i s b li ls tt ti tf tm tc tr lI lF lM lC : TypeId}
theorem Z7e (h : fts P t = some [s, s, s]) (hs : P.underlying s = some .string) : Dec P t MRef.cells MRef.ok := by
 intro xs hx
 obtain ⟨k, ys, rfl, hk, h1⟩ := Z0o (Z37 hs) (Z26 h hx)
 obtain ⟨c, ys, rfl, hc, h2⟩ := Z0o (Z37 hs) h1
 obtain ⟨d, ys, rfl, hd, h3⟩ := Z0o (Z37 hs) h2
 rw [Z6k h3]
 exact ⟨⟨k, c, d⟩, rfl, ⟨hk, hc, hd⟩⟩
end
end
theorem txs_agg {P : Program} {α : Type} {cells : α → List AV} {ok : α → Prop} {t : TypeId} {ts : List TypeId} {xs : List AV} (hd : Dec P t cells ok) (hn : isAggT P t = true) (h : TXs P (t :: ts) xs) :
  ∃ (a : α) (ys : List AV), xs = .agg (cells a) :: ys ∧ ok a ∧ TXs P ts ys := by
 cases h with
 | one hn' _ _ => rw [hn] at hn'; cases hn'
 | agg _ h r => obtain ⟨a, rfl, ha⟩ := hd _ h; exact ⟨a, _, rfl, ha, r⟩
end Go.Sx
namespace Go.Sx
open Go
instance : TK Proofs.Tryz.prog 0 false 1 := ⟨by kernel_rfl⟩
instance : TK Proofs.Tryz.prog 1 false 1 := ⟨by kernel_rfl⟩
instance : ZC Proofs.Tryz.prog 1 [.nilFunc] := ⟨by kernel_rfl⟩
instance : TK Proofs.Tryz.prog 2 false 1 := ⟨by kernel_rfl⟩
instance : UD Proofs.Tryz.prog 2 (.int .i64) := ⟨by kernel_rfl⟩
instance : ZC Proofs.Tryz.prog 2 [.int .i64 0] := ⟨by kernel_rfl⟩
instance : TK Proofs.Tryz.prog 3 false 1 := ⟨by kernel_rfl⟩
instance : UD Proofs.Tryz.prog 3 (.int .i64) := ⟨by kernel_rfl⟩
instance : ZC Proofs.Tryz.prog 3 [.int .i64 0] := ⟨by kernel_rfl⟩
instance : TK Proofs.Tryz.prog 4 false 1 := ⟨by kernel_rfl⟩
instance : UD Proofs.Tryz.prog 4 (.bool) := ⟨by kernel_rfl⟩
instance : ZC Proofs.Tryz.prog 4 [.bool false] := ⟨by kernel_rfl⟩
instance : TK Proofs.Tryz.prog 5 false 1 := ⟨by kernel_rfl⟩
instance : UD Proofs.Tryz.prog 5 (.int .u8) := ⟨by kernel_rfl⟩
instance : ZC Proofs.Tryz.prog 5 [.int .u8 0] := ⟨by kernel_rfl⟩
instance : TK Proofs.Tryz.prog 7 true 4 := ⟨by kernel_rfl⟩
instance : FO Proofs.Tryz.prog 7 0 0 2 := ⟨by kernel_rfl⟩
instance : FO Proofs.Tryz.prog 7 1 1 3 := ⟨by kernel_rfl⟩
instance : FO Proofs.Tryz.prog 7 2 2 4 := ⟨by kernel_rfl⟩
instance : FO Proofs.Tryz.prog 7 3 3 6 := ⟨by kernel_rfl⟩
instance : ZC Proofs.Tryz.prog 7 [.int .i64 0, .int .i64 0, .bool false, .int .u8 0] := ⟨by kernel_rfl⟩
instance : TK Proofs.Tryz.prog 9 false 1 := ⟨by kernel_rfl⟩
instance : UD Proofs.Tryz.prog 9 (.string) := ⟨by kernel_rfl⟩
instance : ZC Proofs.Tryz.prog 9 [.string ⟨#[]⟩] := ⟨by kernel_rfl⟩
instance : TK Proofs.Tryz.prog 23 false 1 := ⟨by kernel_rfl⟩
instance : UD Proofs.Tryz.prog 23 (.slice 9) := ⟨by kernel_rfl⟩
instance : ZC Proofs.Tryz.prog 23 [.slice none 0 0] := ⟨by kernel_rfl⟩
instance : TK Proofs.Tryz.prog 24 true 3 := ⟨by kernel_rfl⟩
instance : FO Proofs.Tryz.prog 24 0 0 9 := ⟨by kernel_rfl⟩
instance : FO Proofs.Tryz.prog 24 1 1 9 := ⟨by kernel_rfl⟩
instance : FO Proofs.Tryz.prog 24 2 2 9 := ⟨by kernel_rfl⟩
instance : ZC Proofs.Tryz.prog 24 [.string ⟨#[]⟩, .string ⟨#[]⟩, .string ⟨#[]⟩] := ⟨by kernel_rfl⟩
instance : TK Proofs.Tryz.prog 25 true 3 := ⟨by kernel_rfl⟩
instance : FO Proofs.Tryz.prog 25 0 0 9 := ⟨by kernel_rfl⟩
instance : FO Proofs.Tryz.prog 25 1 1 9 := ⟨by kernel_rfl⟩
instance : FO Proofs.Tryz.prog 25 2 2 9 := ⟨by kernel_rfl⟩
instance : ZC Proofs.Tryz.prog 25 [.string ⟨#[]⟩, .string ⟨#[]⟩, .string ⟨#[]⟩] := ⟨by kernel_rfl⟩
instance : TK Proofs.Tryz.prog 28 false 1 := ⟨by kernel_rfl⟩
instance : UD Proofs.Tryz.prog 28 (.slice 2) := ⟨by kernel_rfl⟩
instance : ZC Proofs.Tryz.prog 28 [.slice none 0 0] := ⟨by kernel_rfl⟩
instance : TK Proofs.Tryz.prog 31 false 1 := ⟨by kernel_rfl⟩
instance : UD Proofs.Tryz.prog 31 (.int .i64) := ⟨by kernel_rfl⟩
instance : ZC Proofs.Tryz.prog 31 [.int .i64 0] := ⟨by kernel_rfl⟩
instance : TK Proofs.Tryz.prog 32 false 1 := ⟨by kernel_rfl⟩
instance : UD Proofs.Tryz.prog 32 (.int .i64) := ⟨by kernel_rfl⟩
instance : ZC Proofs.Tryz.prog 32 [.int .i64 0] := ⟨by kernel_rfl⟩
instance : TK Proofs.Tryz.prog 33 false 1 := ⟨by kernel_rfl⟩
instance : UD Proofs.Tryz.prog 33 (.slice 145) := ⟨by kernel_rfl⟩
instance : ZC Proofs.Tryz.prog 33 [.slice none 0 0] := ⟨by kernel_rfl⟩
instance : TK Proofs.Tryz.prog 34 false 1 := ⟨by kernel_rfl⟩
instance : UD Proofs.Tryz.prog 34 (.slice 25) := ⟨by kernel_rfl⟩
instance : ZC Proofs.Tryz.prog 34 [.slice none 0 0] := ⟨by kernel_rfl⟩
instance : TK Proofs.Tryz.prog 35 false 1 := ⟨by kernel_rfl⟩
instance : UD Proofs.Tryz.prog 35 (.slice 149) := ⟨by kernel_rfl⟩
instance : ZC Proofs.Tryz.prog 35 [.slice none 0 0] := ⟨by kernel_rfl⟩
instance : TK Proofs.Tryz.prog 36 false 1 := ⟨by kernel_rfl⟩
instance : UD Proofs.Tryz.prog 36 (.slice 152) := ⟨by kernel_rfl⟩
instance : ZC Proofs.Tryz.prog 36 [.slice none 0 0] := ⟨by kernel_rfl⟩
instance : TK Proofs.Tryz.prog 37 false 1 := ⟨by kernel_rfl⟩
instance : UD Proofs.Tryz.prog 37 (.slice 124) := ⟨by kernel_rfl⟩
instance : ZC Proofs.Tryz.prog 37 [.slice none 0 0] := ⟨by kernel_rfl⟩
instance : TK Proofs.Tryz.prog 38 true 6 := ⟨by kernel_rfl⟩
instance : FO Proofs.Tryz.prog 38 0 0 34 := ⟨by kernel_rfl⟩
instance : FO Proofs.Tryz.prog 38 1 1 35 := ⟨by kernel_rfl⟩
instance : FO Proofs.Tryz.prog 38 2 2 36 := ⟨by kernel_rfl⟩
instance : FO Proofs.Tryz.prog 38 3 3 23 := ⟨by kernel_rfl⟩
instance : FO Proofs.Tryz.prog 38 4 4 37 := ⟨by kernel_rfl⟩
instance : FO Proofs.Tryz.prog 38 5 5 23 := ⟨by kernel_rfl⟩
instance : ZC Proofs.Tryz.prog 38 [.slice none 0 0, .slice none 0 0, .slice none 0 0, .slice none 0 0, .slice none 0 0, .slice none 0 0] := ⟨by kernel_rfl⟩
instance : TK Proofs.Tryz.prog 39 true 6 := ⟨by kernel_rfl⟩
instance : FO Proofs.Tryz.prog 39 0 0 34 := ⟨by kernel_rfl⟩
instance : FO Proofs.Tryz.prog 39 1 1 35 := ⟨by kernel_rfl⟩
instance : FO Proofs.Tryz.prog 39 2 2 36 := ⟨by kernel_rfl⟩
instance : FO Proofs.Tryz.prog 39 3 3 23 := ⟨by kernel_rfl⟩
instance : FO Proofs.Tryz.prog 39 4 4 37 := ⟨by kernel_rfl⟩
instance : FO Proofs.Tryz.prog 39 5 5 23 := ⟨by kernel_rfl⟩
instance : ZC Proofs.Tryz.prog 39 [.slice none 0 0, .slice none 0 0, .slice none 0 0, .slice none 0 0, .slice none 0 0, .slice none 0 0] := ⟨by kernel_rfl⟩
instance : TK Proofs.Tryz.prog 40 true 11 := ⟨by kernel_rfl⟩
instance : FO Proofs.Tryz.prog 40 0 0 31 := ⟨by kernel_rfl⟩
instance : FO Proofs.Tryz.prog 40 1 1 2 := ⟨by kernel_rfl⟩
instance : FO Proofs.Tryz.prog 40 2 2 32 := ⟨by kernel_rfl⟩
instance : FO Proofs.Tryz.prog 40 3 3 3 := ⟨by kernel_rfl⟩
instance : FO Proofs.Tryz.prog 40 4 4 33 := ⟨by kernel_rfl⟩
instance : FO Proofs.Tryz.prog 40 5 5 39 := ⟨by kernel_rfl⟩
instance : ZC Proofs.Tryz.prog 40 [.int .i64 0, .int .i64 0, .int .i64 0, .int .i64 0, .slice none 0 0, .slice none 0 0, .slice none 0 0, .slice none 0 0, .slice none 0 0, .slice none 0 0, .slice none 0 0] := ⟨by kernel_rfl⟩
instance : TK Proofs.Tryz.prog 41 true 11 := ⟨by kernel_rfl⟩
instance : FO Proofs.Tryz.prog 41 0 0 31 := ⟨by kernel_rfl⟩
instance : FO Proofs.Tryz.prog 41 1 1 2 := ⟨by kernel_rfl⟩
instance : FO Proofs.Tryz.prog 41 2 2 32 := ⟨by kernel_rfl⟩
instance : FO Proofs.Tryz.prog 41 3 3 3 := ⟨by kernel_rfl⟩
instance : FO Proofs.Tryz.prog 41 4 4 33 := ⟨by kernel_rfl⟩
instance : FO Proofs.Tryz.prog 41 5 5 39 := ⟨by kernel_rfl⟩
instance : ZC Proofs.Tryz.prog 41 [.int .i64 0, .int .i64 0, .int .i64 0, .int .i64 0, .slice none 0 0, .slice none 0 0, .slice none 0 0, .slice none 0 0, .slice none 0 0, .slice none 0 0, .slice none 0 0] := ⟨by kernel_rfl⟩
instance : TK Proofs.Tryz.prog 46 false 1 := ⟨by kernel_rfl⟩
instance : UD Proofs.Tryz.prog 46 (.slice 116) := ⟨by kernel_rfl⟩
instance : ZC Proofs.Tryz.prog 46 [.slice none 0 0] := ⟨by kernel_rfl⟩
instance : TK Proofs.Tryz.prog 64 false 1 := ⟨by kernel_rfl⟩
instance : UD Proofs.Tryz.prog 64 (.slice 185) := ⟨by kernel_rfl⟩
instance : ZC Proofs.Tryz.prog 64 [.slice none 0 0] := ⟨by kernel_rfl⟩
instance : TK Proofs.Tryz.prog 81 false 1 := ⟨by kernel_rfl⟩
instance : UD Proofs.Tryz.prog 81 (.slice 122) := ⟨by kernel_rfl⟩
instance : ZC Proofs.Tryz.prog 81 [.slice none 0 0] := ⟨by kernel_rfl⟩
instance : TK Proofs.Tryz.prog 89 false 1 := ⟨by kernel_rfl⟩
instance : UD Proofs.Tryz.prog 89 (.slice 3) := ⟨by kernel_rfl⟩
instance : ZC Proofs.Tryz.prog 89 [.slice none 0 0] := ⟨by kernel_rfl⟩
instance : TK Proofs.Tryz.prog 95 false 1 := ⟨by kernel_rfl⟩
instance : UD Proofs.Tryz.prog 95 (.map 124 129) := ⟨by kernel_rfl⟩
instance : ZC Proofs.Tryz.prog 95 [.map none] := ⟨by kernel_rfl⟩
instance : TK Proofs.Tryz.prog 115 true 2 := ⟨by kernel_rfl⟩
instance : FO Proofs.Tryz.prog 115 0 0 9 := ⟨by kernel_rfl⟩
instance : FO Proofs.Tryz.prog 115 1 1 9 := ⟨by kernel_rfl⟩
instance : ZC Proofs.Tryz.prog 115 [.string ⟨#[]⟩, .string ⟨#[]⟩] := ⟨by kernel_rfl⟩
instance : TK Proofs.Tryz.prog 116 true 2 := ⟨by kernel_rfl⟩
instance : FO Proofs.Tryz.prog 116 0 0 9 := ⟨by kernel_rfl⟩
instance : FO Proofs.Tryz.prog 116 1 1 9 := ⟨by kernel_rfl⟩
instance : ZC Proofs.Tryz.prog 116 [.string ⟨#[]⟩, .string ⟨#[]⟩] := ⟨by kernel_rfl⟩
instance : TK Proofs.Tryz.prog 121 true 4 := ⟨by kernel_rfl⟩
instance : FO Proofs.Tryz.prog 121 0 0 9 := ⟨by kernel_rfl⟩
instance : FO Proofs.Tryz.prog 121 1 1 120 := ⟨by kernel_rfl⟩
instance : FO Proofs.Tryz.prog 121 2 3 4 := ⟨by kernel_rfl⟩
instance : ZC Proofs.Tryz.prog 121 [.string ⟨#[]⟩, .int .i64 0, .string ⟨#[]⟩, .bool false] := ⟨by kernel_rfl⟩
instance : TK Proofs.Tryz.prog 122 true 4 := ⟨by kernel_rfl⟩
instance : FO Proofs.Tryz.prog 122 0 0 9 := ⟨by kernel_rfl⟩
instance : FO Proofs.Tryz.prog 122 1 1 120 := ⟨by kernel_rfl⟩
instance : FO Proofs.Tryz.prog 122 2 3 4 := ⟨by kernel_rfl⟩
instance : ZC Proofs.Tryz.prog 122 [.string ⟨#[]⟩, .int .i64 0, .string ⟨#[]⟩, .bool false] := ⟨by kernel_rfl⟩
instance : TK Proofs.Tryz.prog 123 true 2 := ⟨by kernel_rfl⟩
instance : FO Proofs.Tryz.prog 123 0 0 9 := ⟨by kernel_rfl⟩
instance : FO Proofs.Tryz.prog 123 1 1 9 := ⟨by kernel_rfl⟩
instance : ZC Proofs.Tryz.prog 123 [.string ⟨#[]⟩, .string ⟨#[]⟩] := ⟨by kernel_rfl⟩
instance : TK Proofs.Tryz.prog 124 true 2 := ⟨by kernel_rfl⟩
instance : FO Proofs.Tryz.prog 124 0 0 9 := ⟨by kernel_rfl⟩
instance : FO Proofs.Tryz.prog 124 1 1 9 := ⟨by kernel_rfl⟩
instance : ZC Proofs.Tryz.prog 124 [.string ⟨#[]⟩, .string ⟨#[]⟩] := ⟨by kernel_rfl⟩
instance : TK Proofs.Tryz.prog 128 true 2 := ⟨by kernel_rfl⟩
instance : FO Proofs.Tryz.prog 128 0 0 127 := ⟨by kernel_rfl⟩
instance : FO Proofs.Tryz.prog 128 1 1 2 := ⟨by kernel_rfl⟩
instance : ZC Proofs.Tryz.prog 128 [.int .i64 0, .int .i64 0] := ⟨by kernel_rfl⟩
instance : TK Proofs.Tryz.prog 129 true 2 := ⟨by kernel_rfl⟩
instance : FO Proofs.Tryz.prog 129 0 0 127 := ⟨by kernel_rfl⟩
instance : FO Proofs.Tryz.prog 129 1 1 2 := ⟨by kernel_rfl⟩
instance : ZC Proofs.Tryz.prog 129 [.int .i64 0, .int .i64 0] := ⟨by kernel_rfl⟩
instance : TK Proofs.Tryz.prog 131 false 1 := ⟨by kernel_rfl⟩
instance : UD Proofs.Tryz.prog 131 (.map 9 9) := ⟨by kernel_rfl⟩
instance : ZC Proofs.Tryz.prog 131 [.map none] := ⟨by kernel_rfl⟩
instance : TK Proofs.Tryz.prog 144 true 2 := ⟨by kernel_rfl⟩
instance : FO Proofs.Tryz.prog 144 0 0 4 := ⟨by kernel_rfl⟩
instance : FO Proofs.Tryz.prog 144 1 1 2 := ⟨by kernel_rfl⟩
instance : ZC Proofs.Tryz.prog 144 [.bool false, .int .i64 0] := ⟨by kernel_rfl⟩
instance : TK Proofs.Tryz.prog 145 true 2 := ⟨by kernel_rfl⟩
instance : FO Proofs.Tryz.prog 145 0 0 4 := ⟨by kernel_rfl⟩
instance : FO Proofs.Tryz.prog 145 1 1 2 := ⟨by kernel_rfl⟩
instance : ZC Proofs.Tryz.prog 145 [.bool false, .int .i64 0] := ⟨by kernel_rfl⟩
instance : TK Proofs.Tryz.prog 148 true 7 := ⟨by kernel_rfl⟩
instance : FO Proofs.Tryz.prog 148 0 0 25 := ⟨by kernel_rfl⟩
instance : FO Proofs.Tryz.prog 148 1 3 3 := ⟨by kernel_rfl⟩
instance : FO Proofs.Tryz.prog 148 2 4 25 := ⟨by kernel_rfl⟩
instance : ZC Proofs.Tryz.prog 148 [.string ⟨#[]⟩, .string ⟨#[]⟩, .string ⟨#[]⟩, .int .i64 0, .string ⟨#[]⟩, .string ⟨#[]⟩, .string ⟨#[]⟩] := ⟨by kernel_rfl⟩
instance : TK Proofs.Tryz.prog 149 true 7 := ⟨by kernel_rfl⟩
instance : FO Proofs.Tryz.prog 149 0 0 25 := ⟨by kernel_rfl⟩
instance : FO Proofs.Tryz.prog 149 1 3 3 := ⟨by kernel_rfl⟩
instance : FO Proofs.Tryz.prog 149 2 4 25 := ⟨by kernel_rfl⟩
instance : ZC Proofs.Tryz.prog 149 [.string ⟨#[]⟩, .string ⟨#[]⟩, .string ⟨#[]⟩, .int .i64 0, .string ⟨#[]⟩, .string ⟨#[]⟩, .string ⟨#[]⟩] := ⟨by kernel_rfl⟩
instance : TK Proofs.Tryz.prog 151 true 5 := ⟨by kernel_rfl⟩
instance : FO Proofs.Tryz.prog 151 0 0 25 := ⟨by kernel_rfl⟩
instance : FO Proofs.Tryz.prog 151 1 3 3 := ⟨by kernel_rfl⟩
instance : FO Proofs.Tryz.prog 151 2 4 9 := ⟨by kernel_rfl⟩
instance : ZC Proofs.Tryz.prog 151 [.string ⟨#[]⟩, .string ⟨#[]⟩, .string ⟨#[]⟩, .int .i64 0, .string ⟨#[]⟩] := ⟨by kernel_rfl⟩
instance : TK Proofs.Tryz.prog 152 true 5 := ⟨by kernel_rfl⟩
instance : FO Proofs.Tryz.prog 152 0 0 25 := ⟨by kernel_rfl⟩
instance : FO Proofs.Tryz.prog 152 1 3 3 := ⟨by kernel_rfl⟩
instance : FO Proofs.Tryz.prog 152 2 4 9 := ⟨by kernel_rfl⟩
instance : ZC Proofs.Tryz.prog 152 [.string ⟨#[]⟩, .string ⟨#[]⟩, .string ⟨#[]⟩, .int .i64 0, .string ⟨#[]⟩] := ⟨by kernel_rfl⟩
instance : TK Proofs.Tryz.prog 176 false 1 := ⟨by kernel_rfl⟩
instance : ZC Proofs.Tryz.prog 176 [.nilFunc] := ⟨by kernel_rfl⟩
instance : TK Proofs.Tryz.prog 177 false 1 := ⟨by kernel_rfl⟩
instance : ZC Proofs.Tryz.prog 177 [.nilFunc] := ⟨by kernel_rfl⟩
instance : TK Proofs.Tryz.prog 184 true 17 := ⟨by kernel_rfl⟩
instance : FO Proofs.Tryz.prog 184 0 0 174 := ⟨by kernel_rfl⟩
instance : FO Proofs.Tryz.prog 184 1 12 152 := ⟨by kernel_rfl⟩
instance : ZC Proofs.Tryz.prog 184 [.int .i64 0, .string ⟨#[]⟩, .string ⟨#[]⟩, .string ⟨#[]⟩, .int .i64 0, .string ⟨#[]⟩, .string ⟨#[]⟩, .string ⟨#[]⟩, .string ⟨#[]⟩, .string ⟨#[]⟩, .int .i64 0, .string ⟨#[]⟩, .string ⟨#[]⟩, .string ⟨#[]⟩, .string ⟨#[]⟩, .int .i64 0, .string ⟨#[]⟩] := ⟨by kernel_rfl⟩
instance : TK Proofs.Tryz.prog 185 true 17 := ⟨by kernel_rfl⟩
instance : FO Proofs.Tryz.prog 185 0 0 174 := ⟨by kernel_rfl⟩
instance : FO Proofs.Tryz.prog 185 1 12 152 := ⟨by kernel_rfl⟩
instance : ZC Proofs.Tryz.prog 185 [.int .i64 0, .string ⟨#[]⟩, .string ⟨#[]⟩, .string ⟨#[]⟩, .int .i64 0, .string ⟨#[]⟩, .string ⟨#[]⟩, .string ⟨#[]⟩, .string ⟨#[]⟩, .string ⟨#[]⟩, .int .i64 0, .string ⟨#[]⟩, .string ⟨#[]⟩, .string ⟨#[]⟩, .string ⟨#[]⟩, .int .i64 0, .string ⟨#[]⟩] := ⟨by kernel_rfl⟩
instance : TK Proofs.Tryz.prog 194 false 1 := ⟨by kernel_rfl⟩
instance : ZC Proofs.Tryz.prog 194 [.nilFunc] := ⟨by kernel_rfl⟩
instance : TK Proofs.Tryz.prog 209 false 1 := ⟨by kernel_rfl⟩
instance : ZC Proofs.Tryz.prog 209 [.nilFunc] := ⟨by kernel_rfl⟩
instance : TK Proofs.Tryz.prog 210 false 1 := ⟨by kernel_rfl⟩
instance : ZC Proofs.Tryz.prog 210 [.nilFunc] := ⟨by kernel_rfl⟩
instance : TK Proofs.Tryz.prog 254 false 1 := ⟨by kernel_rfl⟩
instance : ZC Proofs.Tryz.prog 254 [.nilFunc] := ⟨by kernel_rfl⟩
instance : TK Proofs.Tryz.prog 348 false 1 := ⟨by kernel_rfl⟩
instance : UD Proofs.Tryz.prog 348 (.int .u64) := ⟨by kernel_rfl⟩
instance : ZC Proofs.Tryz.prog 348 [.int .u64 0] := ⟨by kernel_rfl⟩
instance : TK Proofs.Tryz.prog 397 false 1 := ⟨by kernel_rfl⟩
instance : TK Proofs.Tryz.prog 407 false 1 := ⟨by kernel_rfl⟩
instance : UD Proofs.Tryz.prog 407 (.int .i64) := ⟨by kernel_rfl⟩
instance : ZC Proofs.Tryz.prog 407 [.int .i64 0] := ⟨by kernel_rfl⟩
instance : TK Proofs.Tryz.prog 408 false 1 := ⟨by kernel_rfl⟩
instance : TK Proofs.Tryz.prog 414 false 1 := ⟨by kernel_rfl⟩
instance : UD Proofs.Tryz.prog 414 (.int .u32) := ⟨by kernel_rfl⟩
instance : ZC Proofs.Tryz.prog 414 [.int .u32 0] := ⟨by kernel_rfl⟩
instance : TK Proofs.Tryz.prog 416 false 1 := ⟨by kernel_rfl⟩
instance : UD Proofs.Tryz.prog 416 (.int .u64) := ⟨by kernel_rfl⟩
instance : ZC Proofs.Tryz.prog 416 [.int .u64 0] := ⟨by kernel_rfl⟩
instance : TK Proofs.Tryz.prog 449 false 1 := ⟨by kernel_rfl⟩
instance : UD Proofs.Tryz.prog 449 (.int .u64) := ⟨by kernel_rfl⟩
instance : ZC Proofs.Tryz.prog 449 [.int .u64 0] := ⟨by kernel_rfl⟩
instance : TK Proofs.Tryz.prog 453 false 1 := ⟨by kernel_rfl⟩
instance : UD Proofs.Tryz.prog 453 (.pointer 3) := ⟨by kernel_rfl⟩
instance : ZC Proofs.Tryz.prog 453 [.pointer none] := ⟨by kernel_rfl⟩
instance : TK Proofs.Tryz.prog 460 false 1 := ⟨by kernel_rfl⟩
instance : UD Proofs.Tryz.prog 460 (.pointer 449) := ⟨by kernel_rfl⟩
instance : ZC Proofs.Tryz.prog 460 [.pointer none] := ⟨by kernel_rfl⟩
instance : TK Proofs.Tryz.prog 461 false 1 := ⟨by kernel_rfl⟩
instance : AP Proofs.Tryz.prog 1 1 8 := ⟨by kernel_rfl⟩
instance : ZV Proofs.Tryz.prog 1 (.nilFunc) := ⟨by kernel_rfl⟩
instance : AP Proofs.Tryz.prog 2 1 8 := ⟨by kernel_rfl⟩
instance : ZV Proofs.Tryz.prog 2 (.int .i64 0) := ⟨by kernel_rfl⟩
instance : AP Proofs.Tryz.prog 3 1 8 := ⟨by kernel_rfl⟩
instance : ZV Proofs.Tryz.prog 3 (.int .i64 0) := ⟨by kernel_rfl⟩
instance : AP Proofs.Tryz.prog 4 1 1 := ⟨by kernel_rfl⟩
instance : ZV Proofs.Tryz.prog 4 (.bool false) := ⟨by kernel_rfl⟩
instance : AP Proofs.Tryz.prog 5 1 1 := ⟨by kernel_rfl⟩
instance : ZV Proofs.Tryz.prog 5 (.int .u8 0) := ⟨by kernel_rfl⟩
instance : AP Proofs.Tryz.prog 7 4 24 := ⟨by kernel_rfl⟩
instance : PL Proofs.Tryz.prog 7 [(0, 1), (1, 1), (2, 1), (3, 1)] := ⟨by kernel_rfl⟩
instance : AP Proofs.Tryz.prog 9 1 16 := ⟨by kernel_rfl⟩
instance : ZV Proofs.Tryz.prog 9 (.string ⟨#[]⟩) := ⟨by kernel_rfl⟩
instance : AP Proofs.Tryz.prog 23 1 24 := ⟨by kernel_rfl⟩
instance : ZV Proofs.Tryz.prog 23 (.slice none 0 0) := ⟨by kernel_rfl⟩
instance : AP Proofs.Tryz.prog 24 3 48 := ⟨by kernel_rfl⟩
instance : PL Proofs.Tryz.prog 24 [(0, 1), (1, 1), (2, 1)] := ⟨by kernel_rfl⟩
instance : AP Proofs.Tryz.prog 25 3 48 := ⟨by kernel_rfl⟩
instance : PL Proofs.Tryz.prog 25 [(0, 1), (1, 1), (2, 1)] := ⟨by kernel_rfl⟩
instance : EQ Proofs.Tryz.prog 25 [.str, .str, .str] := ⟨by kernel_rfl, by kernel_rfl, Z7q (by kernel_rfl)⟩
instance : AP Proofs.Tryz.prog 28 1 24 := ⟨by kernel_rfl⟩
instance : ZV Proofs.Tryz.prog 28 (.slice none 0 0) := ⟨by kernel_rfl⟩
instance : AP Proofs.Tryz.prog 31 1 8 := ⟨by kernel_rfl⟩
instance : ZV Proofs.Tryz.prog 31 (.int .i64 0) := ⟨by kernel_rfl⟩
instance : AP Proofs.Tryz.prog 32 1 8 := ⟨by kernel_rfl⟩
instance : ZV Proofs.Tryz.prog 32 (.int .i64 0) := ⟨by kernel_rfl⟩
instance : AP Proofs.Tryz.prog 33 1 24 := ⟨by kernel_rfl⟩
instance : ZV Proofs.Tryz.prog 33 (.slice none 0 0) := ⟨by kernel_rfl⟩
instance : AP Proofs.Tryz.prog 34 1 24 := ⟨by kernel_rfl⟩
instance : ZV Proofs.Tryz.prog 34 (.slice none 0 0) := ⟨by kernel_rfl⟩
instance : AP Proofs.Tryz.prog 35 1 24 := ⟨by kernel_rfl⟩
instance : ZV Proofs.Tryz.prog 35 (.slice none 0 0) := ⟨by kernel_rfl⟩
instance : AP Proofs.Tryz.prog 36 1 24 := ⟨by kernel_rfl⟩
instance : ZV Proofs.Tryz.prog 36 (.slice none 0 0) := ⟨by kernel_rfl⟩
instance : AP Proofs.Tryz.prog 37 1 24 := ⟨by kernel_rfl⟩
instance : ZV Proofs.Tryz.prog 37 (.slice none 0 0) := ⟨by kernel_rfl⟩
instance : AP Proofs.Tryz.prog 38 6 144 := ⟨by kernel_rfl⟩
instance : PL Proofs.Tryz.prog 38 [(0, 1), (1, 1), (2, 1), (3, 1), (4, 1), (5, 1)] := ⟨by kernel_rfl⟩
instance : AP Proofs.Tryz.prog 39 6 144 := ⟨by kernel_rfl⟩
instance : PL Proofs.Tryz.prog 39 [(0, 1), (1, 1), (2, 1), (3, 1), (4, 1), (5, 1)] := ⟨by kernel_rfl⟩
instance : AP Proofs.Tryz.prog 40 11 200 := ⟨by kernel_rfl⟩
instance : PL Proofs.Tryz.prog 40 [(0, 1), (1, 1), (2, 1), (3, 1), (4, 1), (5, 6)] := ⟨by kernel_rfl⟩
instance : AP Proofs.Tryz.prog 41 11 200 := ⟨by kernel_rfl⟩
instance : PL Proofs.Tryz.prog 41 [(0, 1), (1, 1), (2, 1), (3, 1), (4, 1), (5, 6)] := ⟨by kernel_rfl⟩
instance : AP Proofs.Tryz.prog 46 1 24 := ⟨by kernel_rfl⟩
instance : ZV Proofs.Tryz.prog 46 (.slice none 0 0) := ⟨by kernel_rfl⟩
instance : AP Proofs.Tryz.prog 64 1 24 := ⟨by kernel_rfl⟩
instance : ZV Proofs.Tryz.prog 64 (.slice none 0 0) := ⟨by kernel_rfl⟩
instance : AP Proofs.Tryz.prog 81 1 24 := ⟨by kernel_rfl⟩
instance : ZV Proofs.Tryz.prog 81 (.slice none 0 0) := ⟨by kernel_rfl⟩
instance : AP Proofs.Tryz.prog 89 1 24 := ⟨by kernel_rfl⟩
instance : ZV Proofs.Tryz.prog 89 (.slice none 0 0) := ⟨by kernel_rfl⟩
instance : AP Proofs.Tryz.prog 95 1 8 := ⟨by kernel_rfl⟩
instance : ZV Proofs.Tryz.prog 95 (.map none) := ⟨by kernel_rfl⟩
instance : AP Proofs.Tryz.prog 115 2 32 := ⟨by kernel_rfl⟩
instance : PL Proofs.Tryz.prog 115 [(0, 1), (1, 1)] := ⟨by kernel_rfl⟩
instance : AP Proofs.Tryz.prog 116 2 32 := ⟨by kernel_rfl⟩
instance : PL Proofs.Tryz.prog 116 [(0, 1), (1, 1)] := ⟨by kernel_rfl⟩
instance : EQ Proofs.Tryz.prog 116 [.str, .str] := ⟨by kernel_rfl, by kernel_rfl, Z7q (by kernel_rfl)⟩
instance : AP Proofs.Tryz.prog 121 4 48 := ⟨by kernel_rfl⟩
instance : PL Proofs.Tryz.prog 121 [(0, 1), (1, 2), (3, 1)] := ⟨by kernel_rfl⟩
instance : AP Proofs.Tryz.prog 122 4 48 := ⟨by kernel_rfl⟩
instance : PL Proofs.Tryz.prog 122 [(0, 1), (1, 2), (3, 1)] := ⟨by kernel_rfl⟩
instance : EQ Proofs.Tryz.prog 122 [.str, .int .i64, .str, .bool] := ⟨by kernel_rfl, by kernel_rfl, Z7q (by kernel_rfl)⟩
instance : AP Proofs.Tryz.prog 123 2 32 := ⟨by kernel_rfl⟩
instance : PL Proofs.Tryz.prog 123 [(0, 1), (1, 1)] := ⟨by kernel_rfl⟩
instance : AP Proofs.Tryz.prog 124 2 32 := ⟨by kernel_rfl⟩
instance : PL Proofs.Tryz.prog 124 [(0, 1), (1, 1)] := ⟨by kernel_rfl⟩
instance : EQ Proofs.Tryz.prog 124 [.str, .str] := ⟨by kernel_rfl, by kernel_rfl, Z7q (by kernel_rfl)⟩
instance : AP Proofs.Tryz.prog 128 2 16 := ⟨by kernel_rfl⟩
instance : PL Proofs.Tryz.prog 128 [(0, 1), (1, 1)] := ⟨by kernel_rfl⟩
instance : AP Proofs.Tryz.prog 129 2 16 := ⟨by kernel_rfl⟩
instance : PL Proofs.Tryz.prog 129 [(0, 1), (1, 1)] := ⟨by kernel_rfl⟩
instance : EQ Proofs.Tryz.prog 129 [.int .i64, .int .i64] := ⟨by kernel_rfl, by kernel_rfl, Z7q (by kernel_rfl)⟩
instance : AP Proofs.Tryz.prog 131 1 8 := ⟨by kernel_rfl⟩
instance : ZV Proofs.Tryz.prog 131 (.map none) := ⟨by kernel_rfl⟩
instance : AP Proofs.Tryz.prog 144 2 16 := ⟨by kernel_rfl⟩
instance : PL Proofs.Tryz.prog 144 [(0, 1), (1, 1)] := ⟨by kernel_rfl⟩
instance : AP Proofs.Tryz.prog 145 2 16 := ⟨by kernel_rfl⟩
instance : PL Proofs.Tryz.prog 145 [(0, 1), (1, 1)] := ⟨by kernel_rfl⟩
instance : EQ Proofs.Tryz.prog 145 [.bool, .int .i64] := ⟨by kernel_rfl, by kernel_rfl, Z7q (by kernel_rfl)⟩
instance : AP Proofs.Tryz.prog 148 7 104 := ⟨by kernel_rfl⟩
instance : PL Proofs.Tryz.prog 148 [(0, 3), (3, 1), (4, 3)] := ⟨by kernel_rfl⟩
instance : AP Proofs.Tryz.prog 149 7 104 := ⟨by kernel_rfl⟩
instance : PL Proofs.Tryz.prog 149 [(0, 3), (3, 1), (4, 3)] := ⟨by kernel_rfl⟩
instance : EQ Proofs.Tryz.prog 149 [.str, .str, .str, .int .i64, .str, .str, .str] := ⟨by kernel_rfl, by kernel_rfl, Z7q (by kernel_rfl)⟩
instance : AP Proofs.Tryz.prog 151 5 72 := ⟨by kernel_rfl⟩
instance : PL Proofs.Tryz.prog 151 [(0, 3), (3, 1), (4, 1)] := ⟨by kernel_rfl⟩
instance : AP Proofs.Tryz.prog 152 5 72 := ⟨by kernel_rfl⟩
instance : PL Proofs.Tryz.prog 152 [(0, 3), (3, 1), (4, 1)] := ⟨by kernel_rfl⟩
instance : EQ Proofs.Tryz.prog 152 [.str, .str, .str, .int .i64, .str] := ⟨by kernel_rfl, by kernel_rfl, Z7q (by kernel_rfl)⟩
instance : AP Proofs.Tryz.prog 176 1 8 := ⟨by kernel_rfl⟩
instance : ZV Proofs.Tryz.prog 176 (.nilFunc) := ⟨by kernel_rfl⟩
instance : AP Proofs.Tryz.prog 177 1 8 := ⟨by kernel_rfl⟩
instance : ZV Proofs.Tryz.prog 177 (.nilFunc) := ⟨by kernel_rfl⟩
instance : AP Proofs.Tryz.prog 184 17 240 := ⟨by kernel_rfl⟩
instance : PL Proofs.Tryz.prog 184 [(0, 12), (12, 5)] := ⟨by kernel_rfl⟩
instance : AP Proofs.Tryz.prog 185 17 240 := ⟨by kernel_rfl⟩
instance : PL Proofs.Tryz.prog 185 [(0, 12), (12, 5)] := ⟨by kernel_rfl⟩
instance : EQ Proofs.Tryz.prog 185 [.int .i64, .str, .str, .str, .int .i64, .str, .str, .str, .str, .str, .int .i64, .str, .str, .str, .str, .int .i64, .str] := ⟨by kernel_rfl, by kernel_rfl, Z7q (by kernel_rfl)⟩
instance : AP Proofs.Tryz.prog 194 1 8 := ⟨by kernel_rfl⟩
instance : ZV Proofs.Tryz.prog 194 (.nilFunc) := ⟨by kernel_rfl⟩
instance : AP Proofs.Tryz.prog 209 1 8 := ⟨by kernel_rfl⟩
instance : ZV Proofs.Tryz.prog 209 (.nilFunc) := ⟨by kernel_rfl⟩
instance : AP Proofs.Tryz.prog 210 1 8 := ⟨by kernel_rfl⟩
instance : ZV Proofs.Tryz.prog 210 (.nilFunc) := ⟨by kernel_rfl⟩
instance : AP Proofs.Tryz.prog 254 1 8 := ⟨by kernel_rfl⟩
instance : ZV Proofs.Tryz.prog 254 (.nilFunc) := ⟨by kernel_rfl⟩
instance : AP Proofs.Tryz.prog 348 1 8 := ⟨by kernel_rfl⟩
instance : ZV Proofs.Tryz.prog 348 (.int .u64 0) := ⟨by kernel_rfl⟩
instance : AP Proofs.Tryz.prog 407 1 8 := ⟨by kernel_rfl⟩
instance : ZV Proofs.Tryz.prog 407 (.int .i64 0) := ⟨by kernel_rfl⟩
instance : AP Proofs.Tryz.prog 414 1 4 := ⟨by kernel_rfl⟩
instance : ZV Proofs.Tryz.prog 414 (.int .u32 0) := ⟨by kernel_rfl⟩
instance : AP Proofs.Tryz.prog 416 1 8 := ⟨by kernel_rfl⟩
instance : ZV Proofs.Tryz.prog 416 (.int .u64 0) := ⟨by kernel_rfl⟩
instance : AP Proofs.Tryz.prog 449 1 8 := ⟨by kernel_rfl⟩
instance : ZV Proofs.Tryz.prog 449 (.int .u64 0) := ⟨by kernel_rfl⟩
instance : AP Proofs.Tryz.prog 453 1 8 := ⟨by kernel_rfl⟩
instance : ZV Proofs.Tryz.prog 453 (.pointer none) := ⟨by kernel_rfl⟩
instance : AP Proofs.Tryz.prog 460 1 8 := ⟨by kernel_rfl⟩
instance : ZV Proofs.Tryz.prog 460 (.pointer none) := ⟨by kernel_rfl⟩
end Go.Sx
namespace Go.Sx
open Go
theorem Z1r {P : Program} {b : Frame} {a : Act} {k : List Item} {cs : List Frame} {w : World} {c : Code} : step P (lone (b.atR a (.code (.scope c) :: k)) cs w) = .next (lone (b.atR a (.code c :: .inScope c :: k)) cs w) :=
 step_lone_go (by simp [stepG, stepG.exec, Frame.atR])
theorem Z7r {P : Program} {b : Frame} {a : Act} {k : List Item} {cs : List Frame} {w : World} {c : Code} : step P (lone (b.atR a (.inScope c :: k)) cs w) = .next (lone (b.atR a k) cs w) :=
 step_lone_go (by simp [stepG, stepG.exec, Frame.atR])
theorem Zbw {F : Fence} {n : Nat} {P : Program} {c : Code} {Q : Exit → Act → World → Prop} {a : Act} {w : World} (h : c.wpIn F n P (Exit.noGoto Q) a w) : (Code.scope c).wpIn F n P Q a w := by
 intro b k cs hro hb hr
 have h0 : (lone (b.atR a (.code (.scope c) :: k)) cs w).fenced P F := fenced_calm hb hr rfl
 obtain ⟨e, a₁, w₁, hq, harr⟩ := h b (.inScope c :: k) cs hro hb hr
 cases e with
 | normal => exact ⟨.normal, a₁, w₁, hq, .head h0 Z1r (StepsIn.trans harr (.one (fenced_calm hb hr rfl) Z7r))⟩
 | exit id =>
  have hx : exitTo id (.inScope c :: k) = exitTo id k := by simp [exitTo]
  exact ⟨.exit id, a₁, w₁, hq, fun k' hk => .head h0 Z1r (harr.1 k' (by rw [hx]; exact hk)),
   fun hr' hk => let ⟨k₁, h1, h2⟩ := harr.2 hr' (by rw [hx]; exact hk); ⟨k₁, h1, .head h0 Z1r h2⟩⟩
 | goto l => exact hq.elim
 | ret => exact ⟨_, a₁, w₁, hq, .of_steps (.one h0 Z1r) harr⟩
 | panic ch => exact ⟨_, a₁, w₁, hq, .of_steps (.one h0 Z1r) harr⟩
 | outgrown => exact ⟨_, a₁, w₁, hq, .of_steps (.one h0 Z1r) harr⟩
def scopeQ (Q : Exit → St → Prop) : Exit → St → Prop
 | .goto _, _ => False
 | .normal, s => Q .normal s
 | .exit i, s => Q (.exit i) s
 | .ret, s => Q .ret s
 | .panic c, s => Q (.panic c) s
 | .outgrown, s => Q .outgrown s
end Go.Sx
namespace Go.Sx
open Go
variable {P : Program} {ro : Option Nat} {Q : Exit → St → Prop} {s : St} {ops : Array Oper} {o : Oper} {rest : List Oper} {T : List (Nat × AV)}
def Sub (x y : AV) : Prop := ∀ C v, VR C x v → VR C y v
theorem Sub.refl (x : AV) : Sub x x := fun _ _ h => h
theorem Sub.z : Sub (.v (.slice none 0 0)) (.lst []) := fun C v h => by cases h; exact .lstNil
inductive Subs : List AV → List AV → Prop
 | nil : Subs [] []
 | keep {x : AV} {xs ys : List AV} (h : Subs xs ys) : Subs (x :: xs) (x :: ys)
 | z {xs ys : List AV} (h : Subs xs ys) : Subs (.v (.slice none 0 0) :: xs) (.lst [] :: ys)
 | to {x y : AV} {xs ys : List AV} (h0 : Sub x y) (h : Subs xs ys) : Subs (x :: xs) (y :: ys)
theorem Subs.len : ∀ {xs ys : List AV}, Subs xs ys → xs.length = ys.length
 | _, _, .nil => rfl
 | _, _, .keep h => by simp [h.len]
 | _, _, .z h => by simp [h.len]
 | _, _, .to _ h => by simp [h.len]
theorem Subs.get {C : Ctx} : ∀ {xs ys : List AV}, Subs xs ys → ∀ (i : Nat) (y : AV), ys[i]? = some y → ∃ x, xs[i]? = some x ∧ Sub x y
 | _, _, .nil, i, y, h => by simp at h
 | _, _, .keep h, 0, y, hy => by simp at hy; subst hy; exact ⟨_, rfl, .refl _⟩
 | _, _, .z h, 0, y, hy => by simp at hy; subst hy; exact ⟨_, rfl, .z⟩
 | _, _, .to h0 h, 0, y, hy => by simp at hy; subst hy; exact ⟨_, rfl, h0⟩
 | _, _, .keep h, i + 1, y, hy => by simpa using h.get (C := C) i y (by simpa using hy)
 | _, _, .z h, i + 1, y, hy => by simpa using h.get (C := C) i y (by simpa using hy)
 | _, _, .to _ h, i + 1, y, hy => by simpa using h.get (C := C) i y (by simpa using hy)
theorem Sub.agg {xs ys : List AV} (h : Subs xs ys) : Sub (.agg xs) (.agg ys) := fun C v hv => by
 cases hv with
 | agg _ vs hl hh =>
  refine .agg ys vs (h.len.symm.trans hl) fun i y x h1 h2 => ?_
  obtain ⟨z, h3, h4⟩ := h.get (C := C) i y h1
  exact h4 C x (hh i z x h3 h2)
theorem Zz {x y : AV} {Hn On : AHeap} (h : Eff P o T Hn x On) (hs : x = y) : Eff P o T Hn y On := hs ▸ h
def bitOf (ms : List Nat) (i j : Nat) : Bool := Nat.testBit (ms.getD i 0) j
def okCert (ops : Array Oper) (ms : List Nat) : Bool := (List.range ops.size).all fun i => match ops[i]? with
 | some o => (List.range i).all fun j => !bitOf ms i j || o.after.any fun e => Region.binds .any e && (e.on == j || (Nat.blt j e.on && bitOf ms e.on j))
 | none => true
def okLooksM (ops : Array Oper) (ms : List Nat) (np : Nat) : Bool := (List.range np).all fun i => match ops[i]? with
 | some o => (o.looksAt ops).all fun t => (List.range np).all fun j => !((ops[j]?).bind (·.dst) == some t) || (Nat.blt j i && bitOf ms i j)
 | none => false
def okTailM (ops : Array Oper) (ms : List Nat) (np : Nat) : Bool := (List.range (ops.size - np)).all fun d => (List.range (np + d)).all fun i => bitOf ms (np + d) i
def tidyM (ops : Array Oper) (ms : List Nat) (np : Nat) : Bool := Nat.ble np ops.size && okEdges ops && okDst ops np && okCert ops ms && okLooksM ops ms np && okTailM ops ms np
theorem Zad {ops : Array Oper} : ∀ {f g i j : Nat}, f ≤ g → anc ops f i j = true → anc ops g i j = true
 | 0, _, _, _, _, h => by cases h
 | f + 1, 0, _, _, hl, _ => by omega
 | f + 1, g + 1, i, j, hl, h => by
  unfold anc at h ⊢
  cases ho : ops[i]? with
  | none => rw [ho] at h; cases h
  | some o =>
   rw [ho] at h
   simp only [Array.any_eq_true, Bool.and_eq_true, Bool.or_eq_true] at h ⊢
   obtain ⟨k, hk, hb, h1⟩ := h
   exact ⟨k, hk, hb, h1.imp id fun h2 => Zad (by omega) h2⟩
theorem Z5i {ops : Array Oper} {ms : List Nat} (he : okEdges ops = true) (hc : okCert ops ms = true) : ∀ i, i < ops.size → ∀ j, j < i → bitOf ms i j = true → anc ops i i j = true := by
 intro i
 induction i using Nat.strongRecOn with
 | _ i ih =>
  intro hi j hj hb
  have h1 := List.all_eq_true.1 hc i (List.mem_range.2 hi)
  have h2 := List.all_eq_true.1 he i (List.mem_range.2 hi)
  rw [Array.getElem?_eq_getElem hi] at h1 h2
  simp only at h1 h2
  have h1 := List.all_eq_true.1 h1 j (List.mem_range.2 hj)
  rw [hb] at h1
  simp only [Bool.not_true, Bool.false_or, Array.any_eq_true, Bool.and_eq_true, Bool.or_eq_true] at h1
  obtain ⟨k, hk, hbn, h3⟩ := h1
  obtain ⟨i', rfl⟩ : ∃ i', i = i' + 1 := ⟨i - 1, by omega⟩
  have h4 : Nat.blt (ops[i' + 1].after[k]).on (i' + 1) = true := by
   have := Array.all_eq_true.1 h2 k hk
   rw [hbn, Bool.not_true, Bool.false_or] at this
   exact this
  have h4 : (ops[i' + 1].after[k]).on < i' + 1 := Nat.blt_eq ▸ h4
  unfold anc
  rw [Array.getElem?_eq_getElem hi]
  simp only [Array.any_eq_true, Bool.and_eq_true, Bool.or_eq_true]
  refine ⟨k, hk, hbn, h3.imp id fun h5 => ?_⟩
  have h6 : j < (ops[i' + 1].after[k]).on := Nat.blt_eq ▸ h5.1
  exact Zad (by omega) (ih _ h4 (by omega) j h6 h5.2)
theorem Zgc {ops : Array Oper} {ms : List Nat} {np : Nat} (h : tidyM ops ms np = true) : tidy ops np = true := by
 simp only [tidyM, Bool.and_eq_true] at h
 obtain ⟨⟨⟨⟨⟨h1, h2⟩, h3⟩, h4⟩, h5⟩, h6⟩ := h
 have hle : np ≤ ops.size := Nat.le_of_ble_eq_true h1
 simp only [tidy, Bool.and_eq_true]
 refine ⟨⟨⟨⟨h1, h2⟩, h3⟩, ?_⟩, ?_⟩
 ·refine List.all_eq_true.2 fun i hi => ?_
  have h7 := List.all_eq_true.1 h5 i hi
  have hi' : i < ops.size := by have := List.mem_range.1 hi; omega
  rw [Array.getElem?_eq_getElem hi'] at h7 ⊢
  refine List.all_eq_true.2 fun t ht => List.all_eq_true.2 fun j hj => ?_
  have h8 := List.all_eq_true.1 (List.all_eq_true.1 h7 t ht) j hj
  simp only [Bool.or_eq_true, Bool.and_eq_true] at h8 ⊢
  exact h8.imp id fun h9 => ⟨h9.1, Z5i h2 h4 i hi' j (Nat.blt_eq ▸ h9.1) h9.2⟩
 ·refine List.all_eq_true.2 fun d hd => List.all_eq_true.2 fun i hi => ?_
  have h7 := List.all_eq_true.1 (List.all_eq_true.1 h6 d hd) i hi
  have hd' := List.mem_range.1 hd
  exact Z5i h2 h4 (np + d) (by omega) i (List.mem_range.1 hi) h7
theorem Z0i {id : Nat} {l : List Oper} (ms : List Nat) (np : Nat) (hm : P.follows .mixedOrders = true) (ht : tidyM l.toArray ms (l.take np).length = true)
  (h : Calm P l.toArray s.H (AOps P ro l.toArray (l.drop np) Q) 0 (l.take np) [] s) : AWp P ro (.region id l.toArray true) Q s :=
 Z1j np hm (Zgc ht) h
def GSome {α : Type} (f : α → AV) (φ : α → Prop) : AEnd → AHeap → Prop := fun e H => ∃ a, φ a ∧ e = .ret (f a) ∧ H = []
theorem Z3f {fo : Operand} {args : Array Operand} {ats : Array TypeId} {g : Nat} {caps xs : List AV} {α : Type} {f : α → AV} {φ : α → Prop} (hw : Wanted ops s.T o true) (hd : dok o.dst s.n = true)
  (ho : o.op = .call { callee := .value fo, args := args, argTypes := ats }) (hfo : ev s.T fo = some (.fn (.func g) caps)) (hxs : evs s.T args.toList = some xs) (hc : ACalls P g (xs ++ caps) [] (GSome f φ))
  (h : ∀ a, φ a → AOps P ro ops rest Q { s with T := put s.T o.dst (f a) }) : AOps P ro ops (o :: rest) Q s :=
 Zb1 hw hd ho hfo hxs hc (fun ch H' hR => by obtain ⟨_, _, h, _⟩ := hR; cases h) (fun x H' hR => by obtain ⟨a, h1, h2, rfl⟩ := hR; cases h2; exact h a h1)
abbrev SomeB : AEnd → AHeap → Prop := GSome bA (fun _ => True)
abbrev SomeI : AEnd → AHeap → Prop := GSome iA (fun _ => True)
abbrev SomeS : AEnd → AHeap → Prop := GSome sA (fun _ => True)
theorem Z6q {α : Type} {f : α → AV} {φ : α → Prop} {xs : List AV} (a : α) (h : φ a) (hx : mkRes xs = f a) : GSome f φ (.ret (mkRes xs)) [] := ⟨a, h, congrArg _ hx, rfl⟩
def byteAt (u : ByteArray) (k : Int) : Int := match u[k.toNat]? with | some c => c.toNat | none => 0
theorem Z18 {t : Nat} {p q : Operand} {u : ByteArray} {kd : IntKind} {k : Int} [h : UD P t .string] (ho : o.op = .index t p q)
  (hp : ev T p = some (.v (.string u))) (hq : ev T q = some (.v (.int kd k))) (h0 : 0 ≤ k) (h1 : k < u.size) : Eff P o T [] (.v (.int .u8 (byteAt u k))) [] := by
 have hl : k.toNat < u.size := by omega
 have e : u[k.toNat]? = some u[k.toNat] := getElem?_pos u k.toNat hl
 have := Z7f (P := P) (T := T) ho hp hq h0 e
 unfold byteAt; rw [e]; exact this
theorem Z5n {t : Nat} {x : AV} (ht : lk s.T t = some x) : Weak s { s with T := (t, x) :: s.T } := fun Z C a w hs =>
 ⟨C, ⟨hs.wr, fun t' y hy => by
  simp only [lk] at hy
  cases hb : Nat.beq t t' with
  | true => simp only [hb, cond_true] at hy; have e := Nat.eq_of_beq_eq_true hb; subst e; exact hs.sl t y (ht.trans hy)
  | false => simp only [hb, cond_false] at hy; exact hs.sl t' y hy, hs.df, hs.du, hs.sz⟩, .refl ..⟩
theorem Z0t {c : Code} {b : Bool} (t : Nat) (ht : lk s.T t = some (.v (.bool b))) (h : ∀ d, d = b → AWp P ro c Q { s with T := (t, .v (.bool d)) :: s.T }) : AWp P ro c Q s := Z3g (Z5n ht) (h b rfl)
theorem Zdv {c : Code} {k : IntKind} {b : Int} (t : Nat) (ht : lk s.T t = some (.v (.int k b))) (h : ∀ d, d = b → AWp P ro c Q { s with T := (t, .v (.int k d)) :: s.T }) : AWp P ro c Q s := Z3g (Z5n ht) (h b rfl)
theorem Z00 {l : List ByteArray} {i : Nat} (h : i < l.length) : (l.map fun x => [AV.v (.string x)])[i]? = some [.v (.string (l.getD i default))] := by simp [h, List.getD]
theorem Zft {t t' : TypeId} {p q : Operand} {k : IntKind} {x y : Int} (ho : o.op = .binOp .rem t p q t') (hp : ev T p = some (.v (.int k x))) (hq : ev T q = some (.v (.int k y))) (hy : y ≠ 0) : Eff P o T [] (.v (.int k (x.tmod y))) [] :=
 Z05 (by intro c; rw [ho]; nofun) fun C H a w hw hn hv => by
  have h2 := VR.val (hv p (by rw [ho]; simp [Op.operands]) _ hp)
  have h3 := VR.val (hv q (by rw [ho]; simp [Op.operands]) _ hq)
  refine ⟨_, ?_, .v _⟩
  simp [execOp, ho, h2, h3, eqGuard, binOp, Op.intDiv, hy, Sem.run_bind, Result.andThen]
def GP {β : Type} (f : β → AV) (Hb : β → AHeap) (φ : β → Prop) : AEnd → AHeap → Prop := fun e H => ∃ b, φ b ∧ e = .ret (f b) ∧ H = Hb b
theorem Z1o {H : AHeap} {k j : Nat} {p q : Nat × AObj} (h : H[k]? = some p) (h2 : (H.eraseIdx k)[j]? = some q) : H.Perm ([p, q] ++ (H.eraseIdx k).eraseIdx j) := (Zw h).trans ((Zw h2).cons p)
theorem Zj {fo : Operand} {args : Array Operand} {ats : Array TypeId} {g : Nat} {caps xs : List AV} {β : Type} {f : β → AV} {Hb : β → AHeap} {φ : β → Prop} (Hf Fr : AHeap) (hw : Wanted ops s.T o true) (hd : dok o.dst s.n = true)
  (ho : o.op = .call { callee := .value fo, args := args, argTypes := ats }) (hfo : ev s.T fo = some (.fn (.func g) caps)) (hxs : evs s.T args.toList = some xs) (hp : s.H.Perm (Hf ++ Fr)) (hc : ACalls P g (xs ++ caps) Hf (GP f Hb φ))
  (h : ∀ b, φ b → AOps P ro ops rest Q { s with T := put s.T o.dst (f b), H := Hb b ++ Fr }) : AOps P ro ops (o :: rest) Q s :=
 Zb0 Hf Fr hw hd ho hfo hxs hp hc (fun ch H' hR => by obtain ⟨_, _, h, _⟩ := hR; cases h) (fun x H' hR => by obtain ⟨b, h1, h2, rfl⟩ := hR; cases h2; exact h b h1)
theorem gp {β : Type} {f : β → AV} {Hb : β → AHeap} {φ : β → Prop} {xs : List AV} {H : AHeap} (b : β) (h : φ b) (hx : mkRes xs = f b) (hH : H = Hb b) : GP f Hb φ (.ret (mkRes xs)) H := ⟨b, h, congrArg _ hx, hH⟩
theorem Z2f {x y : Int} (h : -9223372036854775808 ≤ x * y ∧ x * y ≤ 9223372036854775807) : arith .mul .i64 x y = some (x * y) := by simp [arith, Z13 h]
theorem Z1l {t t' : TypeId} {p q : Operand} {x y : Int} (ho : o.op = .binOp .quo t p q t') (hp : ev T p = some (.v (.int .i64 x))) (hq : ev T q = some (.v (.int .i64 y))) (hy : y ≠ 0) (hr : -9223372036854775808 ≤ x.tdiv y ∧ x.tdiv y ≤ 9223372036854775807) : Eff P o T [] (.v (.int .i64 (x.tdiv y))) [] :=
 Z05 (by intro c; rw [ho]; nofun) fun C H a w hw hn hv => by
  have h2 := VR.val (hv p (by rw [ho]; simp [Op.operands]) _ hp)
  have h3 := VR.val (hv q (by rw [ho]; simp [Op.operands]) _ hq)
  refine ⟨_, ?_, .v _⟩
  simp [execOp, ho, h2, h3, eqGuard, binOp, Op.intDiv, hy, Z13 hr, Sem.run_bind, Result.andThen]
theorem Zt {H0 : AHeap} {K : St → Prop} {kk : Nat} {M : List (Nat × (Nat × AObj))} {e : Bool} {t : TypeId} {p : Operand} {id el i : Nat} {l : List ByteArray} (k : Nat) (hw : Wanted ops s.T o e) (hd : dok o.dst s.n = true) (ho : o.op = .load t p) (hp : e = true → ev s.T p = some (.ptr id 1 i 0))
  (hH : H0[k]? = some (id, .rows el 1 (l.map fun x => [AV.v (.string x)]))) (hi : e = true → i < l.length) (hl : ∀ x, Ld P t [x] x) (h : Calm P ops H0 K (kk + 1) rest M { s with T := put s.T o.dst (cond e (.v (.string (l.getD i default))) (.v undef)) }) : Calm P ops H0 K kk (o :: rest) M s := by
 cases e
 ·exact .off hw hd h
 ·exact Zy k hw hd ho (hp rfl) hH (Z00 (hi rfl)) (hl _) h
theorem Z76 {c : Code} {k : IntKind} {b d : Int} (t : Nat) (ht : lk s.T t = some (.v (.int k b))) (e : b = d) (h : AWp P ro c Q { s with T := (t, .v (.int k d)) :: s.T }) : AWp P ro c Q s := by subst e; exact Z3g (Z5n ht) h
theorem Zh0 {a b : Nat} (h : a ≤ b) : (((b - a : Nat) : Int) - 1).tdiv 2 = (((b - a - 1) / 2 : Nat) : Int) := by
 cases e : b - a with
 | zero => decide
 | succ k =>
  rw [show ((k + 1 : Nat) : Int) - 1 = (k : Int) from by omega, show k + 1 - 1 = k from by omega]
  exact (Int.ofNat_tdiv k 2).symm
theorem Z4s (a b : Nat) : ((a : Int)).tdiv b = ((a / b : Nat) : Int) := (Int.ofNat_tdiv a b).symm
theorem Z1b (a b : Nat) (h : a ≤ 9223372036854775807) : -9223372036854775808 ≤ ((a : Int)).tdiv b ∧ ((a : Int)).tdiv b ≤ 9223372036854775807 := by
 rw [Z4s]
 have := Nat.div_le_self a b
 generalize a / b = c at *
 omega
def bitsI (op : BinOp) (k : IntKind) (x y : Int) : Int := match op with
 | .and => k.wrap (BitVec.ofInt k.bits x &&& BitVec.ofInt k.bits y).toNat
 | .or => k.wrap (BitVec.ofInt k.bits x ||| BitVec.ofInt k.bits y).toNat
 | .xor => k.wrap (BitVec.ofInt k.bits x ^^^ BitVec.ofInt k.bits y).toNat
 | _ => k.wrap (BitVec.ofInt k.bits x &&& ~~~BitVec.ofInt k.bits y).toNat
theorem Z2v {b : BinOp} {t t' : TypeId} {p q : Operand} {k : IntKind} {x y : Int} (ho : o.op = .binOp b t p q t') (hb : b = .and ∨ b = .or ∨ b = .xor) (hp : ev T p = some (.v (.int k x))) (hq : ev T q = some (.v (.int k y))) : Eff P o T [] (.v (.int k (bitsI b k x y))) [] :=
 Z05 (by intro c; rw [ho]; nofun) fun C H a w hw hn hv => by
  have h2 := VR.val (hv p (by rw [ho]; simp [Op.operands]) _ hp)
  have h3 := VR.val (hv q (by rw [ho]; simp [Op.operands]) _ hq)
  refine ⟨_, ?_, .v _⟩
  rcases hb with rfl | rfl | rfl <;> simp [execOp, ho, h2, h3, eqGuard, binOp, Op.intBits, bitsI, Sem.run_bind, Result.andThen]
theorem Z7h {t t' : TypeId} {p q : Operand} {k k' : IntKind} {x y : Int} (ho : o.op = .binOp .shl t p q t') (hp : ev T p = some (.v (.int k x))) (hq : ev T q = some (.v (.int k' y))) (hy : 0 ≤ y) : Eff P o T [] (.v (.int k (k.wrap (x * 2 ^ (min y.toNat k.bits))))) [] :=
 Z05 (by intro c; rw [ho]; nofun) fun C H a w hw hn hv => by
  have h2 := VR.val (hv p (by rw [ho]; simp [Op.operands]) _ hp)
  have h3 := VR.val (hv q (by rw [ho]; simp [Op.operands]) _ hq)
  refine ⟨_, ?_, .v _⟩
  have : ¬ y < 0 := by omega
  simp [execOp, ho, h2, h3, eqGuard, binOp, Op.shift, this, Sem.run_bind, Result.andThen]
theorem Z2w {t t' : TypeId} {p q : Operand} {k k' : IntKind} {x y : Int} (ho : o.op = .binOp .shr t p q t') (hp : ev T p = some (.v (.int k x))) (hq : ev T q = some (.v (.int k' y))) (hy : 0 ≤ y) : Eff P o T [] (.v (.int k (x.fdiv (2 ^ (min y.toNat k.bits))))) [] :=
 Z05 (by intro c; rw [ho]; nofun) fun C H a w hw hn hv => by
  have h2 := VR.val (hv p (by rw [ho]; simp [Op.operands]) _ hp)
  have h3 := VR.val (hv q (by rw [ho]; simp [Op.operands]) _ hq)
  refine ⟨_, ?_, .v _⟩
  have : ¬ y < 0 := by omega
  simp [execOp, ho, h2, h3, eqGuard, binOp, Op.shift, this, Sem.run_bind, Result.andThen]
end Go.Sx
namespace Go.Sx
open Go
def EffW (P : Program) (o : Oper) (T : List (Nat × AV)) (H H' : AHeap) : Prop :=
 ∀ Z C a w, WR C H w → (∀ p, p ∈ o.op.operands → ∀ y, ev T p = some y → VR C y (a.eval p)) →
  ∀ ro next R, (∀ v w1 C1, VR C1 (.v undef) v → WR C1 H' w1 → Ext Z C H w C1 H' w1 → next (a.put o.dst v) w1) → o.uponIn (Wd ro) 0 P a next R ((o.semAt ro a.eval).run P w)
section
variable {P : Program} {ro : Option Nat} {Q : Exit → St → Prop} {s : St} {ops : Array Oper} {o : Oper} {rest : List Oper} {T : List (Nat × AV)}
theorem Z6u {t n id sz i c el : Nat} {b : Bool} {p q : Operand} {es : List (List AV)} {e : List AV} {x : AV} {H : AHeap} (k : Nat) [kt : TK P t b n]
  (ho : o.op = .store t p q) (hp : ev T p = some (.ptr id sz i c)) (hH : H[k]? = some (id, .rows el sz es)) (he : es[i]? = some e) (hq : ev T q = some x)
  (hx : (cellsA x).length = n) (h1 : (cellsA x).all one = true) (hc : Nat.ble (c + n) sz = true) :
  EffW P o T H (H.set k (id, .rows el sz (es.set i (e.take c ++ cellsA x ++ e.drop (c + (cellsA x).length))))) := by
 intro Z C a w hswr hv ro next R hk
 have hc := Nat.le_of_ble_eq_true hc
 have hmem := List.mem_of_getElem? hH
 obtain ⟨hu, hlen, hor⟩ := hswr.ids _ _ hmem
 have hpv := hv p (by rw [ho]; simp [Op.operands]) _ hp
 have hqv := hv q (by rw [ho]; simp [Op.operands]) _ hq
 obtain ⟨hcl, hcr⟩ := Z21 hqv
 have hone := Zg5 hcl hcr h1
 have hel : e.length = sz := hlen e (List.mem_of_getElem? he)
 have hie : i < es.length := (List.getElem?_eq_some_iff.1 he).1
 rcases hor with ⟨hm, _⟩ | ⟨b', N, cells, hm, hh, hsz, hfit, hrow⟩
 ·generalize a.eval p = u at hpv
  cases hpv with
  | ptr _ _ _ _ b2 N2 hid _ => rw [hm] at hid; cases hid
 ·have hpe : a.eval p = .pointer (some ⟨b', i * sz + c, none⟩) := by
   generalize a.eval p = u at hpv
   cases hpv with
   | ptr _ _ _ _ b2 N2 hid _ => rw [hm] at hid; cases hid; rfl
  have hrowfit : i * sz + sz ≤ es.length * sz := by
   have : (i + 1) * sz ≤ es.length * sz := Nat.mul_le_mul_right _ hie
   rw [Nat.add_mul] at this; omega
  have hvs : (a.eval q).cells.toList.length = n := by rw [Array.length_toList, ← hcl, hx]
  have hst := run_storeCells_at P b' (i * sz + c) el (a.eval q).cells.toList 0 cells w hh (by rw [hvs]; omega) (by
   intro v hv'
   obtain ⟨j, hj⟩ := List.mem_iff_getElem?.1 hv'
   exact hone j v (by rw [← Array.getElem?_toList]; exact hj))
  simp only [Nat.add_zero] at hst
  have hrun : (o.semAt ro a.eval).run P w = .ok .skip (w.setRow b' (cells.toList.take (i * sz + c) ++ (a.eval q).cells.toList ++ cells.toList.drop (i * sz + c + (a.eval q).cells.toList.length)).toArray) := by
   rw [Oper.semAt_eq _ _ _ (by intro c; rw [ho]; nofun)]
   have hsz1 : (a.eval q).cells.size = n := by rw [← hcl, hx]
   simp [execOp, ho, Instr.storeAt, hpe, Instr.sureAddr, storeVar, Z0q kt.tk, hsz1, Sem.run_bind, Result.andThen]
   rw [hst]
   simp [hsz1]
  rw [hrun]
  obtain ⟨hw1, he1⟩ := Z10 (Z := Z) (C' := C) (id' := id) (o' := .rows el sz (es.set i (e.take c ++ cellsA x ++ e.drop (c + (cellsA x).length))))
   (w' := w.setRow b' (cells.toList.take (i * sz + c) ++ (a.eval q).cells.toList ++ cells.toList.drop (i * sz + c + (a.eval q).cells.toList.length)).toArray) hswr hH (.refl C) rfl (.inl rfl) hu (fun _ _ h => h) rfl rfl rfl (by simp)
   (fun b N' hm' => .inl ⟨N', hm'⟩) (fun b hb hne => setRow_other w b' b _ (by rintro rfl; exact hne N hm)) (by
    refine ⟨?_, .inr ⟨b', N, _, hm, setRow_heap w b' cells _ el (0, 0) hh, ?_, by simpa using hfit, ?_⟩⟩
    ·intro e' he'
     rcases List.mem_or_eq_of_mem_set he' with h2 | h2
     ·exact hlen e' h2
     ·subst h2
      simp only [List.length_append, List.length_take, List.length_drop]
      omega
    ·simp only [List.size_toArray, List.length_append, List.length_take, List.length_drop, Array.length_toList]
     have := hvs
     rw [Array.length_toList] at this
     omega
    ·intro i' e' j cc he' hcc
     rw [List.getElem?_toArray, Z1a _ _ _ _ (by rw [hvs, Array.length_toList]; omega), hvs]
     rw [List.getElem?_set] at he'
     by_cases hi : i = i'
     ·subst hi
      rw [if_pos rfl, if_pos hie] at he'
      simp only [Option.some.injEq] at he'
      subst he'
      rw [Z1a _ _ _ _ (by omega), hx] at hcc
      have hjlt : j < sz := by
       rcases Nat.lt_or_ge j sz with h2 | h2
       ·exact h2
       ·rw [if_neg (by omega), if_neg (by omega), List.getElem?_eq_none (by omega)] at hcc; cases hcc
      by_cases hj1 : j < c
      ·rw [if_pos hj1] at hcc
       rw [if_pos (by omega)]
       rw [Array.getElem?_toList]
       exact hrow i e j cc he hcc
      ·rw [if_neg hj1] at hcc
       rw [if_neg (by omega)]
       by_cases hj2 : j < c + n
       ·rw [if_pos hj2] at hcc
        rw [if_pos (by omega), show i * sz + j - (i * sz + c) = j - c from by omega]
        have hlt : j - c < (a.eval q).cells.size := by rw [← hcl]; exact (List.getElem?_eq_some_iff.1 hcc).1
        have hg : (a.eval q).cells[j - c]? = some (a.eval q).cells[j - c] := Array.getElem?_eq_getElem hlt
        exact ⟨_, by rw [Array.getElem?_toList]; exact hg, hcr _ _ _ hcc hg, hone _ _ hg⟩
       ·rw [if_neg hj2] at hcc
        rw [if_neg (by omega), Array.getElem?_toList]
        exact hrow i e j cc he hcc
     ·rw [if_neg hi] at he'
      have hel' : e'.length = sz := hlen e' (List.mem_of_getElem? he')
      have hj : j < sz := by rw [← hel']; exact (List.getElem?_eq_some_iff.1 hcc).1
      have hout : ¬ (i * sz + c ≤ i' * sz + j ∧ i' * sz + j < i * sz + c + n) := by
       rintro ⟨h2, h3⟩
       rcases Nat.lt_or_ge i i' with h4 | h4
       ·have := Z1h (k := c + n - 1) (sz := sz) h4 (by omega)
        omega
       ·have h5 : i' < i := by omega
        have := Z1h (k := j) (sz := sz) h5 hj
        omega
      have hg := hrow i' e' j cc he' hcc
      rw [← Array.getElem?_toList] at hg
      split
      ·exact hg
      ·split
       ·exact (hout ⟨by omega, by omega⟩).elim
       ·exact hg)
  exact hk undef _ C (.v undef) hw1 he1
theorem Z9v {t n id el i : Nat} {b : Bool} {p q : Operand} {l : List ByteArray} {x : ByteArray} {H : AHeap} (k : Nat) [kt : TK P t b n] (hn1 : n = 1)
  (ho : o.op = .store t p q) (hp : ev T p = some (.ptr id 1 i 0)) (hH : H[k]? = some (id, .rows el 1 (l.map fun x => [AV.v (.string x)]))) (hi : i < l.length) (hq : ev T q = some (.v (.string x))) :
  EffW P o T H (H.set k (id, .rows el 1 ((l.set i x).map fun x => [AV.v (.string x)]))) := by
 subst hn1
 have e : (l.map fun x => [AV.v (.string x)]).set i ([AV.v (.string (l.getD i default))].take 0 ++ cellsA (.v (.string x)) ++ [AV.v (.string (l.getD i default))].drop (0 + (cellsA (.v (.string x))).length)) = (l.set i x).map fun x => [AV.v (.string x)] := by
  rw [List.map_set]; rfl
 rw [← e]
 exact Z6u k ho hp hH (Z00 hi) hq rfl rfl rfl
end
inductive WCalm (P : Program) (ops : Array Oper) (H0 : AHeap) (ws rs : List Nat) (K : St → Prop) : Nat → List Oper → St → Prop
 | done {k : Nat} {s : St} (h : K s) : WCalm P ops H0 ws rs K k [] s
 | eff {k : Nat} {o : Oper} {r : List Oper} {s : St} (Hn : AHeap) (x : AV) (hw : Wanted ops s.T o true) (hd : dok o.dst s.n = true) (he : Eff P o s.T Hn x []) (hn : ∀ p, p ∈ Hn → p ∈ H0) (hr : Hn = [] ∨ rs.contains k = true) (hk : ws.contains k = false)
   (h : WCalm P ops H0 ws rs K (k + 1) r { s with T := put s.T o.dst x }) : WCalm P ops H0 ws rs K k (o :: r) s
 | off {k : Nat} {o : Oper} {r : List Oper} {s : St} (hw : Wanted ops s.T o false) (hd : dok o.dst s.n = true) (hk : ws.contains k = false) (h : WCalm P ops H0 ws rs K (k + 1) r { s with T := put s.T o.dst (.v undef) }) : WCalm P ops H0 ws rs K k (o :: r) s
 | write {k : Nat} {o : Oper} {r : List Oper} {s : St} (H' : AHeap) (hw : Wanted ops s.T o true) (hd : dok o.dst s.n = true) (he : EffW P o s.T s.H H') (hk : ws.contains k = true)
   (h : WCalm P ops H0 ws rs K (k + 1) r { s with T := put s.T o.dst (.v undef), H := H' }) : WCalm P ops H0 ws rs K k (o :: r) s
def GoodW (P : Program) (ops : Array Oper) (n : Nat) (ws rs : List Nat) (xs : Nat → AV) (B : Nat → AHeap) (T0 : List (Nat × AV)) (i : Nat) : Prop :=
 ∃ o, ops[i]? = some o ∧ dok o.dst n = true ∧
  ((ws.contains i = false ∧ B (i + 1) = B i ∧ ((Wanted ops (TT ops xs T0 i) o false ∧ xs i = .v undef) ∨
   (Wanted ops (TT ops xs T0 i) o true ∧ ∃ Hn, Eff P o (TT ops xs T0 i) Hn (xs i) [] ∧ (∀ p, p ∈ Hn → p ∈ B 0) ∧ (Hn = [] ∨ rs.contains i = true)))) ∨
  (ws.contains i = true ∧ Wanted ops (TT ops xs T0 i) o true ∧ xs i = .v undef ∧ EffW P o (TT ops xs T0 i) (B i) (B (i + 1))))
theorem GoodW.congr {P : Program} {ops : Array Oper} {n : Nat} {ws rs : List Nat} {xs ys : Nat → AV} {B D : Nat → AHeap} {T0 : List (Nat × AV)} {i : Nat} (h1 : ∀ j, j ≤ i → xs j = ys j) (h2 : ∀ j, j ≤ i + 1 → B j = D j) (h : GoodW P ops n ws rs xs B T0 i) : GoodW P ops n ws rs ys D T0 i := by
 obtain ⟨o, ho, hd, h⟩ := h
 refine ⟨o, ho, hd, ?_⟩
 rw [← Z0s (ops := ops) (T0 := T0) i (fun j hj => h1 j (by omega)), ← h1 i (Nat.le_refl _), ← h2 i (by omega), ← h2 (i + 1) (Nat.le_refl _), ← h2 0 (by omega)]
 exact h
theorem WCalm.tell {P : Program} {ops : Array Oper} {H0 : AHeap} {ws rs : List Nat} {K : St → Prop} {T0 : List (Nat × AV)} {D : List Nat} {n : Nat} {k : Nat} {l : List Oper} {s : St} (h : WCalm P ops H0 ws rs K k l s) :
  ∀ (xs : Nat → AV) (B : Nat → AHeap), ops.toList.drop k = l → B 0 = H0 → s = ⟨TT ops xs T0 k, B k, D, n⟩ → (∀ i, i < k → GoodW P ops n ws rs xs B T0 i) →
   ∃ (ys : Nat → AV) (E : Nat → AHeap), E 0 = H0 ∧ K ⟨TT ops ys T0 (k + l.length), E (k + l.length), D, n⟩ ∧ ∀ i, i < k + l.length → GoodW P ops n ws rs ys E T0 i := by
 have step : ∀ (k : Nat) (o : Oper) (xs : Nat → AV) (B : Nat → AHeap) (x : AV) (H' : AHeap), ops[k]? = some o → (∀ i, i < k → GoodW P ops n ws rs xs B T0 i) → dok o.dst n = true →
   ((ws.contains k = false ∧ H' = B k ∧ ((Wanted ops (TT ops xs T0 k) o false ∧ x = .v undef) ∨
    (Wanted ops (TT ops xs T0 k) o true ∧ ∃ Hn, Eff P o (TT ops xs T0 k) Hn x [] ∧ (∀ p, p ∈ Hn → p ∈ B 0) ∧ (Hn = [] ∨ rs.contains k = true)))) ∨
   (ws.contains k = true ∧ Wanted ops (TT ops xs T0 k) o true ∧ x = .v undef ∧ EffW P o (TT ops xs T0 k) (B k) H')) →
   ∃ (ys : Nat → AV) (E : Nat → AHeap), (∀ i, i < k → ys i = xs i) ∧ (∀ i, i ≤ k → E i = B i) ∧ ys k = x ∧ E (k + 1) = H' ∧ (∀ i, i < k + 1 → GoodW P ops n ws rs ys E T0 i) := by
  intro k o xs B x H' ho hg hd hx
  refine ⟨fun i => if i = k then x else xs i, fun i => if i = k + 1 then H' else B i, fun i hi => if_neg (by omega), fun i hi => if_neg (by omega), if_pos rfl, if_pos rfl, ?_⟩
  intro i hi
  rcases Nat.lt_or_ge i k with hlt | hge
  ·exact (hg i hlt).congr (fun j hj => (if_neg (by omega)).symm) (fun j hj => (if_neg (by omega)).symm)
  ·have e : i = k := by omega
   subst e
   refine ⟨o, ho, hd, ?_⟩
   have e1 : TT ops (fun j => if j = i then x else xs j) T0 i = TT ops xs T0 i := Z0s i (fun j hj => if_neg (by omega))
   have e2 : (if i = i + 1 then H' else B i) = B i := if_neg (by omega)
   have e3 : (if 0 = i + 1 then H' else B 0) = B 0 := if_neg (by omega)
   simp only [e1, if_true, e2, e3]
   exact hx
 induction h with
 | done h =>
  intro xs B hl hB hs hg
  subst hs
  exact ⟨xs, B, hB, h, hg⟩
 | @eff k o r s Hn x hw hd he hn hr hk h ih =>
  intro xs B hl hB hs hg
  subst hs
  obtain ⟨h1, h2⟩ := Z06 hl
  have ho : ops[k]? = some o := by rw [← Array.getElem?_toList]; exact h1
  obtain ⟨ys, E, e1, e2, e3, e4, e5⟩ := step k o xs B x (B k) ho hg hd (.inl ⟨hk, rfl, .inr ⟨hw, Hn, he, fun p hp => hB ▸ hn p hp, hr⟩⟩)
  have hlen : k + (o :: r).length = k + 1 + r.length := by simp; omega
  rw [hlen]
  refine ih ys E h2 ((e2 0 (by omega)).trans hB) ?_ e5
  simp only [TT, ho, Option.bind_some, e3, e4]
  rw [Z0s k e1]
 | @off k o r s hw hd hk h ih =>
  intro xs B hl hB hs hg
  subst hs
  obtain ⟨h1, h2⟩ := Z06 hl
  have ho : ops[k]? = some o := by rw [← Array.getElem?_toList]; exact h1
  obtain ⟨ys, E, e1, e2, e3, e4, e5⟩ := step k o xs B (.v undef) (B k) ho hg hd (.inl ⟨hk, rfl, .inl ⟨hw, rfl⟩⟩)
  have hlen : k + (o :: r).length = k + 1 + r.length := by simp; omega
  rw [hlen]
  refine ih ys E h2 ((e2 0 (by omega)).trans hB) ?_ e5
  simp only [TT, ho, Option.bind_some, e3, e4]
  rw [Z0s k e1]
 | @write k o r s H' hw hd he hk h ih =>
  intro xs B hl hB hs hg
  subst hs
  obtain ⟨h1, h2⟩ := Z06 hl
  have ho : ops[k]? = some o := by rw [← Array.getElem?_toList]; exact h1
  obtain ⟨ys, E, e1, e2, e3, e4, e5⟩ := step k o xs B (.v undef) H' ho hg hd (.inr ⟨hk, hw, rfl, he⟩)
  have hlen : k + (o :: r).length = k + 1 + r.length := by simp; omega
  rw [hlen]
  refine ih ys E h2 ((e2 0 (by omega)).trans hB) ?_ e5
  simp only [TT, ho, Option.bind_some, e3, e4]
  rw [Z0s k e1]
def okWrites (ms ws rs : List Nat) : Bool := ws.all fun w => (rs.all fun r => Nat.blt r w && bitOf ms w r) && ws.all fun v => Nat.beq v w || (Nat.blt v w && bitOf ms w v) || (Nat.blt w v && bitOf ms v w)
def tidyW (ops : Array Oper) (ms ws rs : List Nat) : Bool := okEdges ops && okDst ops ops.size && okCert ops ms && okLooksM ops ms ops.size && okWrites ms ws rs && (ws ++ rs).all fun i => Nat.blt i ops.size
structure InvW (P : Program) (ops : Array Oper) (ws : List Nat) (ys : Nat → AV) (B : Nat → AHeap) (cur : Nat) (s : St) (Z : List Nat) (C0 : Ctx) (H0 : AHeap) (w0 : World) (listed : Array Bool) (a : Act) (w : World) (C : Ctx) : Prop where
 wr : WR C (B cur) w
 sl0 : ∀ t x, lk s.T t = some x → (∀ j, j < ops.size → (ops[j]?).bind (·.dst) ≠ some t) → ∃ v, a.tmps[t]? = some v ∧ VR C x v
 sl1 : ∀ j t, j < ops.size → listed.getD j false = true → (ops[j]?).bind (·.dst) = some t → ∃ v, a.tmps[t]? = some v ∧ VR C (ys j) v
 df : a.defers = s.D.map (mark C)
 du : ∀ i, i ∈ s.D → i ∈ C.U
 sz : a.tmps.size = s.n
 ext : Ext Z C0 H0 w0 C (B cur) w
 dn : ∀ i o, ops[i]? = some o → listed.getD i false = true → ∀ e, e ∈ o.after → Region.binds .any e = true → listed.getD e.on false = true
 lw : ∀ v, ws.contains v = true → v < ops.size → (listed.getD v false = true ↔ v < cur)
 lc : cur ≤ ops.size
theorem Zeg {B : Nat → AHeap} {ws : List Nat} {N : Nat} (hB : ∀ i, i < N → ws.contains i = false → B (i + 1) = B i) : ∀ (d a : Nat), a + d ≤ N → (∀ i, a ≤ i → i < a + d → ws.contains i = false) → B (a + d) = B a
 | 0, a, _, _ => rfl
 | d + 1, a, h, hw => by
  rw [show a + (d + 1) = (a + d) + 1 from by omega, hB (a + d) (by omega) (hw _ (by omega) (by omega))]
  exact Zeg hB d a (by omega) (fun i h1 h2 => hw i h1 (by omega))
theorem Zgz {P : Program} {ro : Option Nat} {ops : Array Oper} {Q : Exit → St → Prop} {ms ws rs : List Nat} {ys : Nat → AV} {B : Nat → AHeap} {s : St} {Z : List Nat} {C0 : Ctx} {H0 : AHeap} {w0 : World}
  (ht : tidyW ops ms ws rs = true) (hK : Q .normal ⟨TT ops ys s.T ops.size, B ops.size, s.D, s.n⟩) (hg : ∀ i, i < ops.size → GoodW P ops s.n ws rs ys B s.T i) :
  ∀ (fuel : Nat) (listed : Array Bool) (cur : Nat) (a : Act) (w : World) (C : Ctx), listed.size = ops.size → left ops listed = fuel →
   InvW P ops ws ys B cur s Z C0 H0 w0 listed a w C → wpAnyIn (Wd ro) 0 P .any ops (Post Z C0 H0 w0 Q) fuel listed a w := by
 simp only [tidyW, Bool.and_eq_true] at ht
 obtain ⟨⟨⟨⟨⟨hE, hD⟩, hCt⟩, hL⟩, hW⟩, hIn⟩ := ht
 have hcert := Z5i hE hCt
 have hwsz : ∀ v, ws.contains v = true → v < ops.size := fun v hv => Nat.blt_eq ▸ List.all_eq_true.1 hIn v (List.mem_append_left _ (by simpa using hv))
 have hrsz : ∀ v, rs.contains v = true → v < ops.size := fun v hv => Nat.blt_eq ▸ List.all_eq_true.1 hIn v (List.mem_append_right _ (by simpa using hv))
 have hrw : ∀ v r, ws.contains v = true → rs.contains r = true → anc ops v v r = true := by
  intro v r hv hr
  have h1 := List.all_eq_true.1 hW v (by simpa using hv)
  rw [Bool.and_eq_true] at h1
  have h2 := List.all_eq_true.1 h1.1 r (by simpa using hr)
  rw [Bool.and_eq_true] at h2
  exact hcert v (hwsz v hv) r (Nat.blt_eq ▸ h2.1) h2.2
 have hww : ∀ v u, ws.contains v = true → ws.contains u = true → u < v → anc ops v v u = true := by
  intro v u hv hu hlt
  have h1 := List.all_eq_true.1 hW v (by simpa using hv)
  rw [Bool.and_eq_true] at h1
  have h2 := List.all_eq_true.1 h1.2 u (by simpa using hu)
  simp only [Bool.or_eq_true, Bool.and_eq_true] at h2
  rcases h2 with (h2 | h2) | h2
  ·have := Nat.eq_of_beq_eq_true h2; omega
  ·exact hcert v (hwsz v hv) u hlt h2.2
  ·have : v < u := Nat.blt_eq ▸ h2.1; omega
 have hBs : ∀ i, i < ops.size → ws.contains i = false → B (i + 1) = B i := by
  intro i hi hw
  obtain ⟨o, _, _, h | h⟩ := hg i hi
  ·exact h.2.1
  ·rw [hw] at h; cases h.1
 intro fuel
 induction fuel with
 | zero =>
  intro listed cur a w C hls hleft hI
  have hall : ∀ i, i < ops.size → listed.getD i false = true := by
   intro i hi
   cases hb : listed.getD i false with
   | true => rfl
   | false => have := Z4l hi hls hb; omega
  refine ⟨?_, ?_⟩
  ·rw [List.eq_nil_iff_forall_not_mem]
   intro j hj
   obtain ⟨h3, o, h4, _⟩ := mem_ready.1 hj
   have hlt : j < ops.size := (Array.getElem?_eq_some_iff.1 h4).1
   have := hall j hlt
   simp [hls, hlt] at h3 this
   rw [h3] at this; cases this
  ·have hB : B ops.size = B cur := by
    have := Zeg hBs (ops.size - cur) cur (by have := hI.lc; omega) (fun i h1 h2 => by
     cases hw : ws.contains i with
     | false => rfl
     | true => have := (hI.lw i hw (hwsz i hw)).1 (hall i (hwsz i hw)); omega)
    rwa [show cur + (ops.size - cur) = ops.size from by have := hI.lc; omega] at this
   refine ⟨nofun, C, _, hK, ⟨by rw [hB]; exact hI.wr, ?_, hI.df, hI.du, hI.sz⟩, by rw [hB]; exact hI.ext⟩
   intro t x hx
   rcases Z3t ops.size hx with ⟨j, h1, h2, rfl⟩ | ⟨h1, h2⟩
   ·exact hI.sl1 j t h1 (hall j h1) h2
   ·exact hI.sl0 t x h1 h2
 | succ fuel ih =>
  intro listed cur a w C hls hleft hI
  refine ⟨fun hnil => ?_, fun i hi => ?_⟩
  ·exfalso
   obtain ⟨i, h1, h2, h3⟩ := Zat (ops := ops) (listed := listed) (by omega)
   have : i ∈ Region.ready .any ops listed := by
    rw [mem_ready]
    refine ⟨?_, ops[i], Array.getElem?_eq_getElem h1, ?_⟩
    ·simp [hls, h1] at h2 ⊢; exact h2
    ·intro e he hbd
     have := List.all_eq_true.1 hE i (List.mem_range.2 h1)
     rw [Array.getElem?_eq_getElem h1] at this
     have h5 := Array.all_eq_true_iff_forall_mem.1 this e he
     rw [hbd, Bool.not_true, Bool.false_or, Nat.blt_eq] at h5
     exact h3 e.on h5
   rw [hnil] at this; cases this
  ·obtain ⟨h3, o, ho, hdeps⟩ := mem_ready.1 hi
   have hlt : i < ops.size := (Array.getElem?_eq_some_iff.1 ho).1
   have hunl : listed.getD i false = false := by simp [hls, hlt] at h3 ⊢; exact h3
   obtain ⟨o', ho', hd, hgood⟩ := hg i hlt
   rw [ho] at ho'; cases ho'
   have hanc : ∀ j, anc ops i i j = true → listed.getD j false = true := fun j hj => Z1f hI.dn i i j o ho hdeps hj
   have hLi := List.all_eq_true.1 hL i (List.mem_range.2 hlt)
   simp only [ho] at hLi
   have hlook : ∀ t x, t ∈ o.looksAt ops → lk (TT ops ys s.T i) t = some x → ∃ v, a.tmps[t]? = some v ∧ VR C x v := by
    intro t x htl' hx
    have h5 := List.all_eq_true.1 hLi t htl'
    have h6 : ∀ j, j < ops.size → (ops[j]?).bind (·.dst) = some t → j < i ∧ listed.getD j false = true := by
     intro j hj hjt
     have h7 := List.all_eq_true.1 h5 j (List.mem_range.2 hj)
     rw [hjt] at h7
     simp only [beq_self_eq_true, Bool.not_true, Bool.false_or, Bool.and_eq_true, Nat.blt_eq] at h7
     exact ⟨h7.1, hanc j (hcert i hlt j h7.1 h7.2)⟩
    rcases Z3t i hx with ⟨j, h7, h8, rfl⟩ | ⟨h7, h8⟩
    ·exact hI.sl1 j t (by omega) (h6 j (by omega) h8).2 h8
    ·refine hI.sl0 t x h7 (fun j hj hjt => ?_)
     exact h8 j (h6 j hj hjt).1 hjt
   have hwant : ∀ b, Wanted ops (TT ops ys s.T i) o b → Region.wanted o (yielded ops a.tmps) = b := by
    intro b hb
    rcases hb with ⟨h, rfl⟩ | ⟨g, c, d, og, t, h1, h2, h4, ⟨h5, h6⟩ | ⟨h5, rfl⟩⟩
    ·simp [Region.wanted, h]
    ·obtain ⟨v, h7, h8⟩ := hlook t _ (Z2y h1 h2 h4) h5
     have := VR.val h8
     subst this
     have hy : yielded ops a.tmps g = some d := by
      have hb : (ops[g]?.bind fun x => x.dst) = some t := by rw [h2]; exact h4
      have hb2 : ((ops[g]?.bind fun x => x.dst).bind fun x => a.tmps[x]?) = some (.bool d) := by rw [hb]; exact h7
      unfold yielded
      rw [hb2]
     rw [← h6]
     cases d <;> cases c <;> simp [Region.wanted, h1, hy]
    ·obtain ⟨v, h7, h8⟩ := hlook t _ (Z2y h1 h2 h4) h5
     have := VR.val h8
     subst this
     have hy : yielded ops a.tmps g = none := by
      have hb : (ops[g]?.bind fun x => x.dst) = some t := by rw [h2]; exact h4
      have hb2 : ((ops[g]?.bind fun x => x.dst).bind fun x => a.tmps[x]?) = some undef := by rw [hb]; exact h7
      unfold yielded
      rw [hb2]
      rfl
     simp [Region.wanted, h1, hy]
   have hdst : ∀ j t, j < ops.size → j ≠ i → o.dst = some t → (ops[j]?).bind (·.dst) ≠ some t := by
    intro j t hj hne hot hjt
    have hbi : (ops[i]?).bind (·.dst) = some t := by rw [ho]; exact hot
    rcases Nat.lt_or_ge j i with h | h
    ·have h5 := List.all_eq_true.1 (List.all_eq_true.1 hD i (List.mem_range.2 hlt)) j (List.mem_range.2 h)
     rw [hbi, hjt] at h5; simp at h5
    ·have h5 := List.all_eq_true.1 (List.all_eq_true.1 hD j (List.mem_range.2 hj)) i (List.mem_range.2 (by omega))
     rw [hbi, hjt] at h5; simp at h5
   have hset : ∀ j, (listed.setIfInBounds i true).getD j false = if j = i then true else listed.getD j false := by
    intro j
    by_cases e : j = i
    ·subst e; have : j < listed.size := by omega
     simp [this]
    ·rw [if_neg e, getD_set_ne _ (Ne.symm e)]
   have hops : ∀ p, p ∈ o.op.operands → ∀ y, ev (TT ops ys s.T i) p = some y → VR C y (a.eval p) := by
    intro p hp y hy
    cases p with
    | tmp t =>
     obtain ⟨v, h5, h6⟩ := hlook t y (Z68 hp) hy
     have e : a.eval (.tmp t) = v := by simp [Act.eval, h5]
     rw [e]; exact h6
    | const c => cases hy; exact .v c
    | func f => cases hy; exact .fn _ [] #[] rfl (by intro i c x h; simp at h)
    | global g => cases hy
   -- behind it
   have next : ∀ (cur' : Nat) (v : Value) (w1 : World) (C1 : Ctx), VR C1 (ys i) v → WR C1 (B cur') w1 → Ext Z C (B cur) w C1 (B cur') w1 → cur' ≤ ops.size →
     (∀ u, ws.contains u = true → u < ops.size → ((listed.setIfInBounds i true).getD u false = true ↔ u < cur')) →
     wpAnyIn (Wd ro) 0 P .any ops (Post Z C0 H0 w0 Q) fuel (listed.setIfInBounds i true) (a.put o.dst v) w1 := by
    intro cur' v w1 C1 hv hw1 he1 hcs hlw
    refine ih _ cur' _ _ C1 (by simpa using hls) (by have := Z4l hlt hls hunl; omega) ?_
    refine ⟨hw1, ?_, ?_, ?_, fun j hj => he1.le.U j (hI.du j hj), ?_, hI.ext.trans he1, ?_, hlw, hcs⟩
    ·intro t x hx hno
     obtain ⟨u, h5, h6⟩ := hI.sl0 t x hx hno
     refine ⟨u, ?_, h6.mono he1.le⟩
     cases hod : o.dst with
     | none => exact h5
     | some d =>
      have hne : d ≠ t := by
       rintro rfl
       exact hno i hlt (by rw [ho]; exact hod)
      simpa [Act.put, Array.getElem?_setIfInBounds_ne hne] using h5
    ·intro j t hj hlj hjt
     by_cases e : j = i
     ·subst e
      have hod : o.dst = some t := by rw [ho] at hjt; exact hjt
      refine ⟨v, ?_, hv⟩
      have := Z0r hd t hod
      rw [← hI.sz] at this
      simp [Act.put, hod, this]
     ·rw [hset, if_neg e] at hlj
      obtain ⟨u, h5, h6⟩ := hI.sl1 j t hj hlj hjt
      refine ⟨u, ?_, h6.mono he1.le⟩
      cases hod : o.dst with
      | none => exact h5
      | some d =>
       have hne : d ≠ t := by
        rintro rfl
        exact hdst j d hj e hod hjt
       simpa [Act.put, Array.getElem?_setIfInBounds_ne hne] using h5
    ·have e1 : (a.put o.dst v).defers = a.defers := by cases o.dst <;> rfl
     rw [e1, hI.df]
     exact List.map_congr_left fun j hj => by simp [mark, he1.le.m j (hI.du j hj), he1.le.df j (hI.du j hj)]
    ·have e1 : (a.put o.dst v).tmps.size = a.tmps.size := by cases o.dst <;> simp [Act.put]
     rw [e1]; exact hI.sz
    ·intro j o2 ho2 hlj e he hb
     rw [hset]
     split
     ·rfl
     ·by_cases e2 : j = i
      ·subst e2; rw [ho] at ho2; cases ho2; exact hdeps e he hb
      ·rw [hset, if_neg e2] at hlj; exact hI.dn j o2 ho2 hlj e he hb
   have hlw0 : ws.contains i = false → ∀ u, ws.contains u = true → u < ops.size → ((listed.setIfInBounds i true).getD u false = true ↔ u < cur) := by
    intro hw u hu hus
    have : u ≠ i := fun e => by rw [e, hw] at hu; cases hu
    rw [hset, if_neg this]; exact hI.lw u hu hus
   unfold wpOpIn
   simp only [ho]
   rcases hgood with ⟨hwi, hBi, ⟨hw, hx⟩ | ⟨hw, Hn, heff, hHn, hrd⟩⟩ | ⟨hwi, hw, hx, heff⟩
   ·rw [hwant false hw]
    simp only [Bool.false_eq_true, if_false]
    exact ⟨fun _ _ => trivial, next cur undef w C (by rw [hx]; exact .v undef) hI.wr (.refl ..) hI.lc (hlw0 hwi)⟩
   ·rw [hwant true hw]
    simp only [if_true]
    refine ⟨fun _ _ => trivial, ?_⟩
    refine heff Z C (B cur) a w hI.wr ?_ hops nofun List.nodup_nil (fun _ _ => by simp) ro _ _ (fun v w1 C1 hv hw1 he1 => next cur v w1 C1 hv hw1 he1 hI.lc (hlw0 hwi))
    intro p hp
    rcases hrd with h | h
    ·subst h; cases hp
    ·have hno : ∀ j, j < cur → ws.contains j = false := by
      intro j hj
      cases hwj : ws.contains j with
      | false => rfl
      | true =>
       have hjs := hwsz j hwj
       have hlj := (hI.lw j hwj hjs).2 hj
       have hoj := Array.getElem?_eq_getElem hjs
       have := Z1f hI.dn j j i _ hoj (fun e he hb => hI.dn j _ hoj hlj e he hb) (hrw j i hwj h)
       rw [hunl] at this; cases this
     have e := Zeg hBs cur 0 (by have := hI.lc; omega) (fun j _ h2 => hno j (by omega))
     rw [Nat.zero_add] at e
     rw [e]; exact hHn p hp
   ·rw [hwant true hw]
    simp only [if_true]
    refine ⟨fun _ _ => trivial, ?_⟩
    have hge : cur ≤ i := Nat.le_of_not_lt fun h => by
     have := (hI.lw i hwi hlt).2 h
     rw [hunl] at this; cases this
    have hBi : B i = B cur := by
     have := Zeg hBs (i - cur) cur (by omega) (fun j h1 h2 => by
      cases hwj : ws.contains j with
      | false => rfl
      | true =>
       have := hanc j (hww i j hwi hwj (by omega))
       have := (hI.lw j hwj (hwsz j hwj)).1 this
       omega)
     rwa [show cur + (i - cur) = i from by omega] at this
    rw [hBi] at heff
    refine heff Z C a w hI.wr hops ro _ _ (fun v w1 C1 hv hw1 he1 => next (i + 1) v w1 C1 (by rw [hx]; exact hv) hw1 he1 (by omega) ?_)
    intro u hu hus
    rw [hset]
    by_cases e : u = i
    ·subst e; simp
    ·rw [if_neg e]
     constructor
     ·intro h; have := (hI.lw u hu hus).1 h; omega
     ·intro h; exact hanc u (hww i u hwi hu (by omega))
theorem Z0k {P : Program} {ro : Option Nat} {Q : Exit → St → Prop} {s : St} {id : Nat} {l : List Oper} (ms ws rs : List Nat) (hm : P.follows .mixedOrders = true) (ht : tidyW l.toArray ms ws rs = true)
  (h : WCalm P l.toArray s.H ws rs (Q .normal) 0 l s) : AWp P ro (.region id l.toArray true) Q s := by
 intro Z C0 H0 w0 C a w he hs
 refine wpIn_region_any hm ?_
 obtain ⟨ys, B, h0, h1, h2⟩ := h.tell (T0 := s.T) (D := s.D) (n := s.n) (fun _ => .v undef) (fun _ => s.H) (by simp) rfl rfl (fun i hi => absurd hi (Nat.not_lt_zero _))
 simp only [Nat.zero_add] at h1 h2
 have hw1 : WR C s.H { w with drawn := w.drawn + 1 } := ⟨hs.wr.hp, hs.wr.nd, fun i o hi => ⟨(hs.wr.ids i o hi).1, (hs.wr.ids i o hi).2.keep (.refl C) (hs.wr.ids i o hi).1 (fun _ _ _ => rfl)⟩, hs.wr.inj, hs.wr.dis⟩
 have he1 : Ext Z C0 H0 w0 C s.H { w with drawn := w.drawn + 1 } := ⟨he.le, he.av, he.os, he.tape, he.output, he.size, he.fr, he.nhp, he.nbl, he.nid⟩
 have hf : ∀ i, (Array.replicate l.toArray.size false).getD i false = false := by
  intro i
  rw [Array.getD_eq_getD_getElem?, Array.getElem?_replicate]
  split <;> rfl
 refine Zgz (ys := ys) (B := B) (s := s) (cur := 0) ht (by simpa using h1) (by simpa using h2) l.toArray.size _ _ _ C (by simp) ?_ ?_
 ·unfold left
  rw [List.filter_eq_self.2 (fun i _ => by rw [hf]; rfl), List.length_range]
 ·refine ⟨by rw [h0]; exact hw1, fun t x hx _ => hs.sl t x hx, fun j t _ hj => (by rw [hf] at hj; cases hj), hs.df, hs.du, hs.sz, by rw [h0]; exact he1, fun i o _ hi => (by rw [hf] at hi; cases hi), fun v _ _ => by rw [hf]; simp, Nat.zero_le _⟩
section
variable {P : Program} {ops : Array Oper} {o : Oper} {rest : List Oper} {H0 : AHeap} {ws rs : List Nat} {K : St → Prop} {k : Nat} {s : St}
theorem Z9 {x : AV} (hw : Wanted ops s.T o true) (hd : dok o.dst s.n = true) (he : Eff P o s.T [] x []) (hk : ws.contains k = false) (h : WCalm P ops H0 ws rs K (k + 1) rest { s with T := put s.T o.dst x }) : WCalm P ops H0 ws rs K k (o :: rest) s :=
 .eff [] x hw hd he nofun (.inl rfl) hk h
theorem Zk {t : TypeId} {p : Operand} {id sz i c el : Nat} {es : List (List AV)} {e : List AV} {x : AV} (j : Nat) (hw : Wanted ops s.T o true) (hd : dok o.dst s.n = true)
  (ho : o.op = .load t p) (hp : ev s.T p = some (.ptr id sz i c)) (hH : H0[j]? = some (id, .rows el sz es)) (he : es[i]? = some e) (hl : Ld P t (e.drop c) x) (hr : rs.contains k = true) (hk : ws.contains k = false)
  (h : WCalm P ops H0 ws rs K (k + 1) rest { s with T := put s.T o.dst x }) : WCalm P ops H0 ws rs K k (o :: rest) s :=
 .eff [(id, .rows el sz es)] x hw hd (Z1e ho hp ⟨el, es, e, List.mem_cons_self, he, rfl⟩ hl) (fun p hp => by rw [List.mem_singleton.1 hp]; exact List.mem_of_getElem? hH) (.inr hr) hk h
theorem Zo {t n id el i : Nat} {b : Bool} {p q : Operand} {l : List ByteArray} {x : ByteArray} (j : Nat) [kt : TK P t b n] (hn1 : n = 1) (hw : Wanted ops s.T o true) (hd : dok o.dst s.n = true)
  (ho : o.op = .store t p q) (hp : ev s.T p = some (.ptr id 1 i 0)) (hH : s.H[j]? = some (id, .rows el 1 (l.map fun x => [AV.v (.string x)]))) (hi : i < l.length) (hq : ev s.T q = some (.v (.string x))) (hk : ws.contains k = true)
  (h : WCalm P ops H0 ws rs K (k + 1) rest { s with T := put s.T o.dst (.v undef), H := s.H.set j (id, .rows el 1 ((l.set i x).map fun x => [AV.v (.string x)])) }) : WCalm P ops H0 ws rs K k (o :: rest) s :=
 .write _ hw hd (Z9v j hn1 ho hp hH hi hq) hk h
end
end Go.Sx
namespace Go.Sx
open Go
def EffA (P : Program) (o : Oper) (T : List (Nat × AV)) (H : AHeap) (x : AV) (H' : AHeap) (id : Nat) : Prop :=
 ∀ Z C a w, WR C H w → (∀ p, p ∈ o.op.operands → ∀ y, ev T p = some y → VR C y (a.eval p)) → id ∉ C.U → id ∉ Z →
  ∀ ro next R, (∀ v w1 C1, VR C1 x v → WR C1 H' w1 → Ext Z C H w C1 H' w1 → next (a.put o.dst v) w1) → o.uponIn (Wd ro) 0 P a next R ((o.semAt ro a.eval).run P w)
inductive VCalm (P : Program) (ops : Array Oper) (H0 : AHeap) (ws rs : List Nat) (K : St → Prop) : Nat → List Oper → List (Nat × (Nat × AObj)) → AHeap → St → Prop
 | done {k : Nat} {M : List (Nat × (Nat × AObj))} {S : AHeap} {s : St} (h : K s) : VCalm P ops H0 ws rs K k [] M S s
 | keep {k : Nat} {l : List Oper} {M : List (Nat × (Nat × AObj))} {S : AHeap} {s : St} (p : Nat × AObj) (hp : p ∈ s.H) (hf : (ws.all fun w => Nat.ble k w) = true) (h : VCalm P ops H0 ws rs K k l M (p :: S) s) : VCalm P ops H0 ws rs K k l M S s
 | eff {k : Nat} {o : Oper} {r : List Oper} {M : List (Nat × (Nat × AObj))} {S : AHeap} {s : St} (Hn : AHeap) (x : AV) (hw : Wanted ops s.T o true) (hd : dok o.dst s.n = true) (he : Eff P o s.T Hn x []) (hk : ws.contains k = false)
   (hn : ∀ p, p ∈ Hn → p ∈ H0 ∨ ∃ j, (j, p) ∈ M ∧ anc ops k k j = true) (hr : Hn = [] ∨ rs.contains k = true ∨ ∀ p, p ∈ Hn → p ∈ S)
   (h : VCalm P ops H0 ws rs K (k + 1) r M S { s with T := put s.T o.dst x }) : VCalm P ops H0 ws rs K k (o :: r) M S s
 | eff1 {k : Nat} {o : Oper} {r : List Oper} {M : List (Nat × (Nat × AObj))} {S : AHeap} {s : St} (x : Nat → AV) (ob : Nat → AObj) (hw : Wanted ops s.T o true) (hd : dok o.dst s.n = true) (he : ∀ id, Eff P o s.T [] (x id) [(id, ob id)]) (hk : rs.contains k = true) (hk2 : ws.contains k = false)
   (h : ∀ id, VCalm P ops H0 ws rs K (k + 1) r ((k, (id, ob id)) :: M) S { s with T := put s.T o.dst (x id), H := (id, ob id) :: s.H }) : VCalm P ops H0 ws rs K k (o :: r) M S s
 | off {k : Nat} {o : Oper} {r : List Oper} {M : List (Nat × (Nat × AObj))} {S : AHeap} {s : St} (hw : Wanted ops s.T o false) (hd : dok o.dst s.n = true) (hk : ws.contains k = false)
   (h : VCalm P ops H0 ws rs K (k + 1) r M S { s with T := put s.T o.dst (.v undef) }) : VCalm P ops H0 ws rs K k (o :: r) M S s
 | write {k : Nat} {o : Oper} {r : List Oper} {M : List (Nat × (Nat × AObj))} {S : AHeap} {s : St} (H' : AHeap) (hw : Wanted ops s.T o true) (hd : dok o.dst s.n = true) (he : EffW P o s.T s.H H') (hk : ws.contains k = true) (hS : ∀ p, p ∈ S → p ∈ H')
   (h : VCalm P ops H0 ws rs K (k + 1) r M S { s with T := put s.T o.dst (.v undef), H := H' }) : VCalm P ops H0 ws rs K k (o :: r) M S s
 | app {k : Nat} {o : Oper} {r : List Oper} {M : List (Nat × (Nat × AObj))} {S : AHeap} {s : St} (x : Nat → AV) (H' : Nat → AHeap) (hw : Wanted ops s.T o true) (hd : dok o.dst s.n = true) (he : ∀ id, EffA P o s.T s.H (x id) (H' id) id) (hk : ws.contains k = true) (hS : ∀ id p, p ∈ S → p ∈ H' id)
   (h : ∀ id, VCalm P ops H0 ws rs K (k + 1) r M S { s with T := put s.T o.dst (x id), H := H' id }) : VCalm P ops H0 ws rs K k (o :: r) M S s
def GV (P : Program) (ops : Array Oper) (ws rs : List Nat) (T : List (Nat × AV)) (os : Nat → AHeap) (H0 S : AHeap) (i : Nat) (o : Oper) (x : AV) (obs B B' : AHeap) : Prop :=
 (ws.contains i = false ∧ obs = [] ∧ B' = B ∧ ((Wanted ops T o false ∧ x = .v undef) ∨
  (Wanted ops T o true ∧ ∃ Hn, Eff P o T Hn x [] ∧ (∀ p, p ∈ Hn → p ∈ H0 ∨ ∃ j, j < i ∧ p ∈ os j ∧ anc ops i i j = true) ∧ (Hn = [] ∨ rs.contains i = true ∨ ∀ p, p ∈ Hn → p ∈ S)))) ∨
 (ws.contains i = false ∧ rs.contains i = true ∧ B' = obs ++ B ∧ Wanted ops T o true ∧ Eff P o T [] x obs) ∨
 (ws.contains i = true ∧ obs = [] ∧ Wanted ops T o true ∧ x = .v undef ∧ EffW P o T B B') ∨
 (ws.contains i = true ∧ Wanted ops T o true ∧ ∃ id, obs = [(id, .rows 0 0 [])] ∧ EffA P o T B x B' id)
theorem GV.mono {P : Program} {ops : Array Oper} {ws rs : List Nat} {T : List (Nat × AV)} {os ps : Nat → AHeap} {H0 S S' : AHeap} {i : Nat} {o : Oper} {x : AV} {obs B B' : AHeap} (hS : ∀ p, p ∈ S → p ∈ S') (ho : ∀ j, j < i → ps j = os j)
  (h : GV P ops ws rs T os H0 S i o x obs B B') : GV P ops ws rs T ps H0 S' i o x obs B B' := by
 rcases h with ⟨h1, h2, h3, h4 | ⟨h4, Hn, h5, h6, h7⟩⟩ | h | h | h
 ·exact .inl ⟨h1, h2, h3, .inl h4⟩
 ·refine .inl ⟨h1, h2, h3, .inr ⟨h4, Hn, h5, fun p hp => (h6 p hp).imp id (fun ⟨j, a, b, c⟩ => ⟨j, a, by rw [ho j a]; exact b, c⟩), h7.imp id (fun h => h.imp id (fun h p hp => hS p (h p hp)))⟩⟩
 ·exact .inr (.inl h)
 ·exact .inr (.inr (.inl h))
 ·exact .inr (.inr (.inr h))
def GoodV (P : Program) (ops : Array Oper) (n : Nat) (ws rs : List Nat) (xs : Nat → AV) (os B : Nat → AHeap) (T0 : List (Nat × AV)) (H0 S : AHeap) (i : Nat) : Prop :=
 ∃ o, ops[i]? = some o ∧ dok o.dst n = true ∧ GV P ops ws rs (TT ops xs T0 i) os H0 S i o (xs i) (os i) (B i) (B (i + 1))
theorem GoodV.congr {P : Program} {ops : Array Oper} {n : Nat} {ws rs : List Nat} {xs ys : Nat → AV} {os ps B E : Nat → AHeap} {T0 : List (Nat × AV)} {H0 S S' : AHeap} {i : Nat} (h1 : ∀ j, j ≤ i → ys j = xs j) (h2 : ∀ j, j ≤ i → ps j = os j) (h3 : ∀ j, j ≤ i + 1 → E j = B j) (hS : ∀ p, p ∈ S → p ∈ S')
  (h : GoodV P ops n ws rs xs os B T0 H0 S i) : GoodV P ops n ws rs ys ps E T0 H0 S' i := by
 obtain ⟨o, ho, hd, h⟩ := h
 refine ⟨o, ho, hd, ?_⟩
 rw [Z0s (ops := ops) (T0 := T0) i (fun j hj => h1 j (by omega)), h1 i (Nat.le_refl _), h2 i (Nat.le_refl _), h3 i (by omega), h3 (i + 1) (Nat.le_refl _)]
 exact h.mono hS (fun j hj => h2 j (by omega))
structure ToldV (P : Program) (ops : Array Oper) (n : Nat) (ws rs : List Nat) (T0 : List (Nat × AV)) (H0 : AHeap) (L : List Nat) (k : Nat) (S : AHeap) (xs : Nat → AV) (os B : Nat → AHeap) : Prop where
 b0 : B 0 = H0
 g : ∀ i, i < k → GoodV P ops n ws rs xs os B T0 H0 S i
 fr : ∀ i p, i < k → p ∈ os i → p.1 ∉ L
 di : ∀ i j p q, i < k → j < k → p ∈ os i → q ∈ os j → p.1 = q.1 → i = j
 nd : ∀ i, i < k → ((os i).map Prod.fst).Nodup
 s : ∀ p, p ∈ S → ∀ c, (∃ v, ws.contains v = true ∧ v < c) → c ≤ k → p ∈ B c
theorem ToldV.adv {P : Program} {ops : Array Oper} {n : Nat} {ws rs : List Nat} {T0 : List (Nat × AV)} {H0 : AHeap} {L : List Nat} {k : Nat} {S : AHeap} {xs : Nat → AV} {os B : Nat → AHeap} (h : ToldV P ops n ws rs T0 H0 L k S xs os B)
  {o : Oper} (ho : ops[k]? = some o) (hd : dok o.dst n = true) (x : AV) (obs H' : AHeap) (hg : GV P ops ws rs (TT ops xs T0 k) os H0 S k o x obs (B k) H') (hS : ∀ p, p ∈ S → p ∈ H')
  (h1 : ∀ p, p ∈ obs → p.1 ∉ L) (h2 : ∀ i p q, i < k → p ∈ os i → q ∈ obs → p.1 ≠ q.1) (h3 : (obs.map Prod.fst).Nodup) :
  ∃ (ys : Nat → AV) (ps E : Nat → AHeap), ToldV P ops n ws rs T0 H0 L (k + 1) S ys ps E ∧ TT ops ys T0 (k + 1) = put (TT ops xs T0 k) o.dst x ∧ E (k + 1) = H' ∧ (∀ i, i < k → ps i = os i) ∧ ps k = obs := by
 let ys : Nat → AV := fun i => if i = k then x else xs i
 let ps : Nat → AHeap := fun i => if i = k then obs else os i
 let E : Nat → AHeap := fun i => if i = k + 1 then H' else B i
 have e1 : ∀ i, i < k → ys i = xs i := fun i hi => if_neg (by omega)
 have e2 : ∀ i, i < k → ps i = os i := fun i hi => if_neg (by omega)
 have e3 : ∀ i, i ≤ k → E i = B i := fun i hi => if_neg (by omega)
 have e4 : ys k = x := if_pos rfl
 have e5 : ps k = obs := if_pos rfl
 have e6 : E (k + 1) = H' := if_pos rfl
 have et : TT ops ys T0 k = TT ops xs T0 k := Z0s k e1
 refine ⟨ys, ps, E, ⟨(e3 0 (Nat.zero_le _)).trans h.b0, ?_, ?_, ?_, ?_, ?_⟩, ?_, e6, e2, e5⟩
 ·intro i hi
  rcases Nat.lt_or_ge i k with hlt | hge
  ·exact (h.g i hlt).congr (fun j hj => e1 j (by omega)) (fun j hj => e2 j (by omega)) (fun j hj => e3 j (by omega)) (fun _ h => h)
  ·have e : i = k := by omega
   subst e
   refine ⟨o, ho, hd, ?_⟩
   rw [et, e4, e5, e6, e3 i (Nat.le_refl _)]
   exact hg.mono (fun _ h => h) e2
 ·intro i p hi hp
  rcases Nat.lt_or_ge i k with hlt | hge
  ·rw [e2 i hlt] at hp; exact h.fr i p hlt hp
  ·have e : i = k := by omega
   subst e; rw [e5] at hp; exact h1 p hp
 ·intro i j p q hi hj hp hq hpq
  rcases Nat.lt_or_ge i k with hlt | hge <;> rcases Nat.lt_or_ge j k with hlt' | hge'
  ·rw [e2 i hlt] at hp; rw [e2 j hlt'] at hq; exact h.di i j p q hlt hlt' hp hq hpq
  ·have e : j = k := by omega
   subst e; rw [e5] at hq; rw [e2 i hlt] at hp; exact (h2 i p q hlt hp hq hpq).elim
  ·have e : i = k := by omega
   subst e; rw [e5] at hp; rw [e2 j hlt'] at hq; exact (h2 j q p hlt' hq hp hpq.symm).elim
  ·omega
 ·intro i hi
  rcases Nat.lt_or_ge i k with hlt | hge
  ·rw [e2 i hlt]; exact h.nd i hlt
  ·have e : i = k := by omega
   subst e; rw [e5]; exact h3
 ·intro p hp c hv hc
  rcases Nat.lt_or_ge k c with hlt | hge
  ·have e : c = k + 1 := by omega
   subst e; rw [e6]; exact hS p hp
  ·rw [e3 c hge]; exact h.s p hp c hv hge
 ·simp only [TT, ho, Option.bind_some]
  rw [e4, et]
theorem VCalm.tell {P : Program} {ops : Array Oper} {H0 : AHeap} {ws rs : List Nat} {K : St → Prop} {T0 : List (Nat × AV)} {D : List Nat} {n : Nat} (L : List Nat) {k : Nat} {l : List Oper} {M : List (Nat × (Nat × AObj))} {S : AHeap} {s : St} (h : VCalm P ops H0 ws rs K k l M S s) :
  ∀ (xs : Nat → AV) (os B : Nat → AHeap), ToldV P ops n ws rs T0 H0 L k S xs os B → ops.toList.drop k = l → s = ⟨TT ops xs T0 k, B k, D, n⟩ → (∀ j p, (j, p) ∈ M → j < k ∧ p ∈ os j) → (∀ p, p ∈ S → p ∈ B k) →
   ∃ (ys : Nat → AV) (ps E : Nat → AHeap) (S' : AHeap), ToldV P ops n ws rs T0 H0 L (k + l.length) S' ys ps E ∧ K ⟨TT ops ys T0 (k + l.length), E (k + l.length), D, n⟩ := by
 induction h with
 | done h =>
  intro xs os B hT hl hs hM hS
  subst hs
  exact ⟨xs, os, B, _, hT, h⟩
 | @keep k l M S s p hp hf h ih =>
  intro xs os B hT hl hs hM hS
  subst hs
  refine ih xs os B ⟨hT.b0, fun i hi => (hT.g i hi).congr (fun _ _ => rfl) (fun _ _ => rfl) (fun _ _ => rfl) (fun q hq => List.mem_cons_of_mem _ hq), hT.fr, hT.di, hT.nd, ?_⟩ hl rfl hM ?_
  ·intro q hq c hv hc
   rcases List.mem_cons.1 hq with rfl | hq
   ·obtain ⟨v, hv, hvc⟩ := hv
    have := List.all_eq_true.1 hf v (by simpa using hv)
    have := Nat.le_of_ble_eq_true this
    omega
   ·exact hT.s q hq c hv hc
  ·intro q hq
   rcases List.mem_cons.1 hq with rfl | hq
   ·exact hp
   ·exact hS q hq
 | @eff k o r M S s Hn x hw hd he hk hn hr h ih =>
  intro xs os B hT hl hs hM hS
  subst hs
  obtain ⟨h1, h2⟩ := Z06 hl
  have ho : ops[k]? = some o := by rw [← Array.getElem?_toList]; exact h1
  obtain ⟨ys, ps, E, g1, g2, g3, g4, g5⟩ := hT.adv ho hd x [] (B k) (.inl ⟨hk, rfl, rfl, .inr ⟨hw, Hn, he, fun p hp => (hn p hp).imp id (fun ⟨j, a, b⟩ => ⟨j, (hM j p a).1, (hM j p a).2, b⟩), hr⟩⟩) hS nofun (fun _ _ _ _ _ h => nomatch h) List.nodup_nil
  rw [show k + (o :: r).length = k + 1 + r.length by simp; omega]
  exact ih ys ps E g1 h2 (by rw [g2, g3]) (fun j p hp => ⟨by have := (hM j p hp).1; omega, by rw [g4 j (hM j p hp).1]; exact (hM j p hp).2⟩) (by rw [g3]; exact hS)
 | @eff1 k o r M S s x ob hw hd he hk hk2 h ih =>
  intro xs os B hT hl hs hM hS
  subst hs
  obtain ⟨h1, h2⟩ := Z06 hl
  have ho : ops[k]? = some o := by rw [← Array.getElem?_toList]; exact h1
  obtain ⟨id, hid⟩ := Z5c (L ++ ((List.range k).flatMap fun i => (os i).map Prod.fst))
  rw [List.mem_append, not_or] at hid
  obtain ⟨ys, ps, E, g1, g2, g3, g4, g5⟩ := hT.adv ho hd (x id) [(id, ob id)] ((id, ob id) :: B k) (.inr (.inl ⟨hk2, hk, rfl, hw, he id⟩)) (fun p hp => List.mem_cons_of_mem _ (hS p hp)) (fun p hp => by rw [List.mem_singleton.1 hp]; exact hid.1)
   (fun i p q hi hp hq e => by rw [List.mem_singleton.1 hq] at e; exact hid.2 (List.mem_flatMap.2 ⟨i, List.mem_range.2 hi, List.mem_map.2 ⟨p, hp, e⟩⟩)) (by simp)
  rw [show k + (o :: r).length = k + 1 + r.length by simp; omega]
  refine ih id ys ps E g1 h2 (by rw [g2, g3]) ?_ (by rw [g3]; exact fun p hp => List.mem_cons_of_mem _ (hS p hp))
  intro j p hp
  rcases List.mem_cons.1 hp with hp | hp
  ·cases hp; exact ⟨by omega, by rw [g5]; exact List.mem_cons_self⟩
  ·exact ⟨by have := (hM j p hp).1; omega, by rw [g4 j (hM j p hp).1]; exact (hM j p hp).2⟩
 | @off k o r M S s hw hd hk h ih =>
  intro xs os B hT hl hs hM hS
  subst hs
  obtain ⟨h1, h2⟩ := Z06 hl
  have ho : ops[k]? = some o := by rw [← Array.getElem?_toList]; exact h1
  obtain ⟨ys, ps, E, g1, g2, g3, g4, g5⟩ := hT.adv ho hd (.v undef) [] (B k) (.inl ⟨hk, rfl, rfl, .inl ⟨hw, rfl⟩⟩) hS nofun (fun _ _ _ _ _ h => nomatch h) List.nodup_nil
  rw [show k + (o :: r).length = k + 1 + r.length by simp; omega]
  exact ih ys ps E g1 h2 (by rw [g2, g3]) (fun j p hp => ⟨by have := (hM j p hp).1; omega, by rw [g4 j (hM j p hp).1]; exact (hM j p hp).2⟩) (by rw [g3]; exact hS)
 | @write k o r M S s H' hw hd he hk hS' h ih =>
  intro xs os B hT hl hs hM hS
  subst hs
  obtain ⟨h1, h2⟩ := Z06 hl
  have ho : ops[k]? = some o := by rw [← Array.getElem?_toList]; exact h1
  obtain ⟨ys, ps, E, g1, g2, g3, g4, g5⟩ := hT.adv ho hd (.v undef) [] H' (.inr (.inr (.inl ⟨hk, rfl, hw, rfl, he⟩))) hS' nofun (fun _ _ _ _ _ h => nomatch h) List.nodup_nil
  rw [show k + (o :: r).length = k + 1 + r.length by simp; omega]
  exact ih ys ps E g1 h2 (by rw [g2, g3]) (fun j p hp => ⟨by have := (hM j p hp).1; omega, by rw [g4 j (hM j p hp).1]; exact (hM j p hp).2⟩) (by rw [g3]; exact hS')
 | @app k o r M S s x H' hw hd he hk hS' h ih =>
  intro xs os B hT hl hs hM hS
  subst hs
  obtain ⟨h1, h2⟩ := Z06 hl
  have ho : ops[k]? = some o := by rw [← Array.getElem?_toList]; exact h1
  obtain ⟨id, hid⟩ := Z5c (L ++ ((List.range k).flatMap fun i => (os i).map Prod.fst))
  rw [List.mem_append, not_or] at hid
  obtain ⟨ys, ps, E, g1, g2, g3, g4, g5⟩ := hT.adv ho hd (x id) [(id, .rows 0 0 [])] (H' id) (.inr (.inr (.inr ⟨hk, hw, id, rfl, he id⟩))) (hS' id) (fun p hp => by rw [List.mem_singleton.1 hp]; exact hid.1)
   (fun i p q hi hp hq e => by rw [List.mem_singleton.1 hq] at e; exact hid.2 (List.mem_flatMap.2 ⟨i, List.mem_range.2 hi, List.mem_map.2 ⟨p, hp, e⟩⟩)) (by simp)
  rw [show k + (o :: r).length = k + 1 + r.length by simp; omega]
  exact ih id ys ps E g1 h2 (by rw [g2, g3]) (fun j p hp => ⟨by have := (hM j p hp).1; omega, by rw [g4 j (hM j p hp).1]; exact (hM j p hp).2⟩) (by rw [g3]; exact hS' id)
def hpF (N : Nat) (ps : Nat → AHeap) (H0 : AHeap) (B : Nat → AHeap) (listed : Array Bool) (cur : Nat) : AHeap :=
 if cur = 0 then (List.range N).flatMap (fun j => if listed.getD j false = true then ps j else []) ++ H0 else B cur
structure InvV (P : Program) (ops : Array Oper) (ws : List Nat) (ys : Nat → AV) (ps B : Nat → AHeap) (cur : Nat) (s : St) (Z : List Nat) (C0 : Ctx) (H0 : AHeap) (w0 : World) (listed : Array Bool) (a : Act) (w : World) (C : Ctx) : Prop where
 wr : WR C (hpF ops.size ps s.H B listed cur) w
 sl0 : ∀ t x, lk s.T t = some x → (∀ j, j < ops.size → listed.getD j false = true → (ops[j]?).bind (·.dst) ≠ some t) → ∃ v, a.tmps[t]? = some v ∧ VR C x v
 sl1 : ∀ j t, j < ops.size → listed.getD j false = true → (ops[j]?).bind (·.dst) = some t → ∃ v, a.tmps[t]? = some v ∧ VR C (ys j) v
 df : a.defers = s.D.map (mark C)
 du : ∀ i, i ∈ s.D → i ∈ C.U
 sz : a.tmps.size = s.n
 av : ∀ j p, j < ops.size → listed.getD j false = false → p ∈ ps j → p.1 ∉ C.U
 ext : Ext Z C0 H0 w0 C (hpF ops.size ps s.H B listed cur) w
 dn : ∀ i o, ops[i]? = some o → listed.getD i false = true → ∀ e, e ∈ o.after → Region.binds .any e = true → listed.getD e.on false = true
 lw : ∀ v, ws.contains v = true → v < ops.size → (listed.getD v false = true ↔ v < cur)
 lc : cur ≤ ops.size
 lz : cur = 0 ∨ ∃ v, ws.contains v = true ∧ v < cur
def okLooksV (ops : Array Oper) (ms : List Nat) : Bool := (List.range ops.size).all fun i => match ops[i]? with
 | some o => (o.looksAt ops).all fun t => (List.range ops.size).all fun j => !((ops[j]?).bind (·.dst) == some t) || (Nat.blt j i && bitOf ms i j) || (Nat.blt i j && bitOf ms j i)
 | none => false
def tidyV (ops : Array Oper) (ms ws rs : List Nat) : Bool := (okEdges ops && okDst ops ops.size && okCert ops ms && okLooksV ops ms && okWrites ms ws rs && (ws ++ rs).all fun i => Nat.blt i ops.size) && !ws.isEmpty
section
variable {P : Program} {ops : Array Oper} {o : Oper} {rest : List Oper} {H0 : AHeap} {ws rs : List Nat} {K : St → Prop} {k : Nat} {M : List (Nat × (Nat × AObj))} {S : AHeap} {s : St}
def inH (H : AHeap) : AHeap → List Nat → Prop
 | [], _ => True
 | p :: S, j :: js => H[j]? = some p ∧ inH H S js
 | _ :: _, [] => False
end
end Go.Sx
namespace Go.Sx
open Go
section
variable {α : Type} [Inhabited α]
variable {P : Program} {ro : Option Nat} {Q : Exit → St → Prop} {s : St} {ops : Array Oper} {o : Oper} {rest : List Oper}
end
end Go.Sx
namespace Go.Sx
open Go
section
variable {P : Program} {ro : Option Nat} {Q : Exit → St → Prop} {s : St} {ops : Array Oper} {o : Oper} {rest : List Oper} {H0 : AHeap} {K : St → Prop} {k : Nat} {M : List (Nat × (Nat × AObj))} {S : List (AHeap × AHeap)} {ws rs : List Nat} {p : Operand} {x : AV}
theorem qS {x y : Code} (h : AWp P ro x (thenQ (AWp P ro y Q) Q) s) : AWp P ro (.seq x y) Q s := Z7 h
theorem qR {id : Nat} {l : List Oper} (h : AOps P ro l.toArray l Q s) : AWp P ro (.region id l.toArray false) Q s := Z3 h
theorem qB {id : Nat} {c : Code} (h : AWp P ro c (blockQ id Q) s) : AWp P ro (.block id c) Q s := Zp h
theorem qK (h : Q .normal s) : AWp P ro .skip Q s := Zm h
theorem qX {i : Nat} (h : Q (.exit i) s) : AWp P ro (.exit i) Q s := Z03 h
theorem qe (he : Eff P o s.T [] x []) (h : AOps P ro ops rest Q { s with T := put s.T o.dst x }) (hg : o.guard = none := by rfl) (hd : dok o.dst s.n = true := by rfl) : AOps P ro ops (o :: rest) Q s := Z2 (w0 hg) hd he h
end
end Go.Sx
namespace Go.Sx
open Go
def pcmp (b : BinOp) (nil : Bool) : Option Bool := match b with | .eql => some nil | .neq => some (!nil) | _ => none
section
variable {P : Program} {T : List (Nat × AV)} {o : Oper}
theorem Zdf {t e : TypeId} (h : P.underlying t = some (.pointer e)) (d : Nat) (x : Option Addr) (w : World) : (Op.equalIn (d + 1) t (.pointer x) (.pointer none)).run P w = .ok x.isNone w := by
 cases x with
 | none => simp [Op.equalIn, Go.run_underlying h, Result.andThen, Sem.run_bind]
 | some a => simp [Op.equalIn, Go.run_underlying h, Result.andThen, Sem.run_bind]
theorem Z8g {b : BinOp} {t t' e : TypeId} {p q : Operand} {z : Bool} [h : UD P t (.pointer e)] (ho : o.op = .binOp b t p q t') (hp : ev T p = some (.v (.pointer none))) (hq : ev T q = some (.v (.pointer none)))
  (hb : pcmp b true = some z) : Eff P o T [] (.v (.bool z)) [] :=
 Z05 (by intro c; rw [ho]; nofun) fun C H a w hw hn hv => by
  have h2 := hv p (by rw [ho]; simp [Op.operands]) _ hp
  have h3 := VR.val (hv q (by rw [ho]; simp [Op.operands]) _ hq)
  obtain ⟨y, hy, hyn⟩ : ∃ y : Option Addr, a.eval p = .pointer y ∧ y.isNone = true := ⟨none, VR.val h2, rfl⟩
  refine ⟨.bool z, ?_, .v _⟩
  have hr := fun d => Zdf h.ud d y w
  cases b <;> simp only [pcmp, Option.some.injEq, reduceCtorEq] at hb <;> subst hb
  ·simp [execOp, ho, hy, h3, eqGuard, binOp, Op.equal, Op.maxDepth, hr 9999, hyn, Result.andThen, Sem.run_bind]
  ·simp [execOp, ho, hy, h3, eqGuard, binOp, Op.equal, Op.maxDepth, hr 9999, hyn, Result.andThen, Sem.run_bind]
theorem Z8h {b : BinOp} {t t' e : TypeId} {p q : Operand} {id sz i c : Nat} {z : Bool} [h : UD P t (.pointer e)] (ho : o.op = .binOp b t p q t') (hp : ev T p = some (.ptr id sz i c)) (hq : ev T q = some (.v (.pointer none)))
  (hb : pcmp b false = some z) : Eff P o T [] (.v (.bool z)) [] :=
 Z05 (by intro c; rw [ho]; nofun) fun C H a w hw hn hv => by
  have h2 := hv p (by rw [ho]; simp [Op.operands]) _ hp
  have h3 := VR.val (hv q (by rw [ho]; simp [Op.operands]) _ hq)
  obtain ⟨y, hy, hyn⟩ : ∃ y : Option Addr, a.eval p = .pointer y ∧ y.isNone = false := by
   generalize a.eval p = u at h2
   cases h2 with
   | ptr _ _ _ _ b' N hid _ => exact ⟨_, rfl, rfl⟩
  refine ⟨.bool z, ?_, .v _⟩
  have hr := fun d => Zdf h.ud d y w
  cases b <;> simp only [pcmp, Option.some.injEq, reduceCtorEq] at hb <;> subst hb
  ·simp [execOp, ho, hy, h3, eqGuard, binOp, Op.equal, Op.maxDepth, hr 9999, hyn, Result.andThen, Sem.run_bind]
  ·simp [execOp, ho, hy, h3, eqGuard, binOp, Op.equal, Op.maxDepth, hr 9999, hyn, Result.andThen, Sem.run_bind]
end
end Go.Sx
namespace Go.Sx
open Go
def idxFrom {α : Type} (f : α → Bool) : List α → Nat → Int
 | [], _ => -1
 | a :: r, i => if f a then i else idxFrom f r (i + 1)
def Prog.av (p : Prog) : AV := .agg p.cells
def classAt (p : Prog) (nm : Str) : Int := idxFrom (fun c => beqS c.name nm) p.classes 0
def inL (l : List Str) (s : Str) : Bool := l.any fun x => beqS x s
theorem Zei (x : Str) (l : List Str) (s : Str) : inL (x :: l) s = (beqS x s || inL l s) := rfl
theorem Zbx {a : Bool} (h : (!a) = false) : a = true := by cases a <;> simp_all
theorem Z5j {α : Type} {l : List α} {i : Nat} (h : i < l.length) : l.drop i = l[i] :: l.drop (i + 1) := List.drop_eq_getElem_cons h
theorem Zah {α : Type} {l : List α} {i : Nat} (h : ¬ i < l.length) : l.drop i = [] := List.drop_of_length_le (by omega)
def Fact.av (f : Fact) : AV := .agg f.cells
def Ty.av (t : Ty) : AV := .agg t.cells
def Cls.av (c : Cls) : AV := .agg c.cells
def clsFind (p : Prog) (nm : Str) : Option Cls := p.classes.find? fun c => beqS c.name nm
def ifaceP (p : Prog) (nm : Str) : Bool := match clsFind p nm with | some c => c.iface | none => false
def isRefK (k : Int) : Bool := decide (2 ≤ k) && decide (k ≤ 6)
def eqF (a b : Fact) : Bool := a.kind == b.kind && beqS a.cls b.cls
def zS : Str := ⟨#[]⟩
def ofT (t : Ty) : Fact :=
 if t.kind = 2 then ⟨1, zS⟩ else if t.kind = 3 then ⟨3, t.cls⟩ else if t.kind = 4 then ⟨4, zS⟩ else if t.kind = 5 then ⟨5, t.cls⟩ else ⟨0, zS⟩
def joinBy (com : Str → Str → Str) (a b : Fact) : Fact :=
 if eqF a b then a else if !isRefK a.kind || !isRefK b.kind then ⟨0, zS⟩ else if a.kind = 2 then b else if b.kind = 2 then a
 else if a.kind = 3 ∧ b.kind = 3 then (if beqS (com a.cls b.cls) zS then ⟨6, zS⟩ else ⟨3, com a.cls b.cls⟩) else ⟨6, zS⟩
def zCls : List AV := [sA zS, sA zS, bA false, bA false, .v (.slice none 0 0), .v (.slice none 0 0), .v (.slice none 0 0)]
def knownA : Option Cls → AV
 | some c => .tup [.agg c.cells, bA true]
 | none => .tup [.agg zCls, bA false]
def upC (c : Cls) : List Str := if beqS c.super zS then c.ifaces else c.super :: c.ifaces
instance : Inhabited Cls := ⟨⟨⟨#[]⟩, ⟨#[]⟩, false, false, [], [], []⟩⟩
instance : Inhabited Fld := ⟨⟨⟨#[]⟩, ⟨0, ⟨#[]⟩⟩, false⟩⟩
instance : Inhabited Meth := ⟨⟨⟨#[]⟩, ⟨#[]⟩, false, false, 0, []⟩⟩
instance : Inhabited Instr := ⟨⟨0, 0, 0, 0, 0, ⟨#[]⟩, ⟨#[]⟩, ⟨#[]⟩, []⟩⟩
instance : Inhabited Fact := ⟨⟨0, ⟨#[]⟩⟩⟩
theorem Zfz (l : List Str) (s : Str) : decide (idxFrom (fun x => beqS s x) l 0 ≥ 0) = inL l s := by
 have key : ∀ (l : List Str) (k : Nat), decide (idxFrom (fun x => beqS s x) l k ≥ 0) = inL l s := by
  intro l
  induction l with
  | nil => intro k; rfl
  | cons x l ih =>
   intro k
   simp only [idxFrom, Zei]
   have e : beqS x s = beqS s x := by
    cases h : beqS s x with
    | true => exact beqS_iff.2 (beqS_iff.1 h).symm
    | false => cases h2 : beqS x s with
     | true => rw [beqS_iff.2 (beqS_iff.1 h2).symm] at h; cases h
     | false => rfl
   rw [e]
   by_cases h : beqS s x = true
   ·simp [h]
   ·simpa [h] using ih (k + 1)
 exact key l 0
def sameF : List Fact → List Fact → Bool
 | [], [] => true
 | x :: l, y :: r => eqF x y && sameF l r
 | _, _ => false
theorem Z59 {α : Type} (f : α → Bool) : ∀ (l : List α) (k : Nat), (idxFrom f l k = -1 ∧ l.find? f = none) ∨ ∃ (j : Nat) (h : j < l.length), idxFrom f l k = ((k + j : Nat) : Int) ∧ l.find? f = some l[j] ∧ f l[j] = true
 | [], k => .inl ⟨rfl, rfl⟩
 | a :: r, k => by
  simp only [idxFrom]
  cases hf : f a with
  | true => exact .inr ⟨0, by simp, by simp, by simp [List.find?, hf], by simpa using hf⟩
  | false =>
   rcases Z59 f r (k + 1) with ⟨h1, h2⟩ | ⟨j, h, h1, h2, h3⟩
   ·exact .inl ⟨by simpa using h1, by simp [List.find?, hf, h2]⟩
   ·exact .inr ⟨j + 1, by simp; omega, by simp [h1]; omega, by simp [List.find?, hf, h2], by simpa using h3⟩
theorem Z1n {α : Type} [DecidableEq α] : ∀ {l m : List α}, l.Nodup → (∀ x, x ∈ l → x ∈ m) → l.length ≤ m.length
 | [], m, _, _ => Nat.zero_le _
 | x :: l, m, hn, hs => by
  rw [List.nodup_cons] at hn
  have hx : x ∈ m := hs x List.mem_cons_self
  have h1 : ∀ y, y ∈ l → y ∈ m.erase x := fun y hy => (List.mem_erase_of_ne (by rintro rfl; exact hn.1 hy)).2 (hs y (List.mem_cons_of_mem _ hy))
  have h2 := Z1n hn.2 h1
  have h3 := List.length_erase_of_mem hx
  have h4 : 0 < m.length := List.length_pos_of_mem hx
  simp only [List.length_cons]
  omega
theorem inL_mem {l : List Str} {s : Str} : inL l s = true ↔ s ∈ l := by
 simp only [inL, List.any_eq_true, beqS_iff]
 exact ⟨fun ⟨x, h, e⟩ => e ▸ h, fun h => ⟨s, h, rfl⟩⟩
theorem inL_false {l : List Str} {s : Str} : inL l s = false ↔ s ∉ l := by
 rw [← inL_mem]; cases inL l s <;> simp
def supF (p : Prog) : Nat → Str → List Str → List Str
 | 0, _, out => out
 | n + 1, nm, out => match clsFind p nm with
  | none => out
  | some c => if inL out c.name then out else if beqS c.super zS then out ++ [c.name] else supF p n c.super (out ++ [c.name])
def supers (p : Prog) (nm : Str) : List Str := supF p (p.classes.length + 1) nm []
theorem Z0x {p : Prog} {nm : Str} {c : Cls} (h : clsFind p nm = some c) : c.name = nm ∧ c ∈ p.classes := by
 unfold clsFind at h
 have h1 := List.find?_some h
 exact ⟨beqS_iff.1 h1, List.mem_of_find?_eq_some h⟩
structure SupJ (p : Prog) (nm0 nm : Str) (out : List Str) : Prop where
 nd : out.Nodup
 sub : ∀ x, x ∈ out → x ∈ p.classes.map Cls.name
 eq : supF p (p.classes.length + 1 - out.length) nm out = supers p nm0
theorem SupJ.len {p : Prog} {nm0 nm : Str} {out : List Str} (h : SupJ p nm0 nm out) : out.length ≤ p.classes.length := by
 have := Z1n h.nd h.sub
 simpa using this
theorem SupJ.start (p : Prog) (nm : Str) : SupJ p nm nm [] := ⟨List.nodup_nil, nofun, rfl⟩
theorem SupJ.eq' {p : Prog} {nm0 nm : Str} {out : List Str} (h : SupJ p nm0 nm out) : (match clsFind p nm with
  | none => out
  | some c => if inL out c.name then out else if beqS c.super zS then out ++ [c.name] else supF p (p.classes.length - out.length) c.super (out ++ [c.name])) = supers p nm0 := by
 have h1 := h.eq
 have h2 := h.len
 rw [show p.classes.length + 1 - out.length = (p.classes.length - out.length) + 1 from by omega] at h1
 exact h1
theorem SupJ.none {p : Prog} {nm0 nm : Str} {out : List Str} (h : SupJ p nm0 nm out) (hc : clsFind p nm = none) : out = supers p nm0 := by have := h.eq'; rwa [hc] at this
theorem SupJ.top {p : Prog} {nm0 nm : Str} {out : List Str} {c : Cls} (h : SupJ p nm0 nm out) (hc : clsFind p nm = some c) (hi : inL out c.name = false) (hs : beqS c.super zS = true) : out ++ [c.name] = supers p nm0 := by
 have := h.eq'; simpa [hc, hi, hs] using this
theorem SupJ.sub1 {p : Prog} {nm0 nm : Str} {out : List Str} {c : Cls} (h : SupJ p nm0 nm out) (hc : clsFind p nm = some c) (hi : inL out c.name = false) : (out ++ [c.name]).Nodup ∧ ∀ x, x ∈ out ++ [c.name] → x ∈ p.classes.map Cls.name := by
 refine ⟨?_, ?_⟩
 ·rw [List.nodup_append]
  refine ⟨h.nd, by simp, ?_⟩
  intro a ha b hb
  rw [List.mem_singleton] at hb
  rintro rfl
  subst hb
  exact inL_false.1 hi ha
 ·intro x hx
  rcases List.mem_append.1 hx with hx | hx
  ·exact h.sub x hx
  ·rw [List.mem_singleton] at hx
   subst hx
   exact List.mem_map.2 ⟨c, (Z0x hc).2, rfl⟩
theorem SupJ.next {p : Prog} {nm0 nm : Str} {out : List Str} {c : Cls} (h : SupJ p nm0 nm out) (hc : clsFind p nm = some c) (hi : inL out c.name = false) (hs : beqS c.super zS = false) : SupJ p nm0 c.super (out ++ [c.name]) := by
 obtain ⟨h1, h2⟩ := h.sub1 hc hi
 refine ⟨h1, h2, ?_⟩
 have h3 := h.eq'
 have h4 := Z1n h1 h2
 simp only [List.length_append, List.length_map, List.length_cons, List.length_nil] at h4
 rw [hc] at h3
 simp only [hi, hs, Bool.false_eq_true, if_false] at h3
 rw [show p.classes.length + 1 - (out ++ [c.name]).length = p.classes.length - out.length from by simp]
 exact h3
theorem SupJ.lt {p : Prog} {nm0 nm : Str} {out : List Str} {c : Cls} (h : SupJ p nm0 nm out) (hc : clsFind p nm = some c) (hi : inL out c.name = false) : out.length + 1 ≤ p.classes.length := by
 obtain ⟨h1, h2⟩ := h.sub1 hc hi
 have h4 := Z1n h1 h2
 simpa using h4
def comF (x y : List Str) : Str := (x.find? fun s => inL y s).getD zS
def com (p : Prog) (a b : Str) : Str := if !beqS a b && (ifaceP p a || ifaceP p b) then zS else comF (supers p a) (supers p b)
def mergeF (j : Fact → Fact → Fact) : List Fact → List Fact → List Fact
 | x :: l, y :: r => j x y :: mergeF j l r
 | _, _ => []
def greatI (x : Instr) : Bool := decide (x.args.length > 60) || decide (x.cls.size > 300) || decide (x.name.size > 300) || decide (x.desc.size > 300)
def greatM0 (m : Meth) : Bool := decide (m.code.length > 300) || decide (m.name.size > 300) || decide (m.desc.size > 300)
def greatM (m : Meth) : Bool := greatM0 m || m.code.any greatI
def greatC0 (c : Cls) : Bool := decide (c.ifaces.length > 40) || decide (c.fields.length > 40) || decide (c.methods.length > 40) || decide (c.name.size > 300) || decide (c.super.size > 300)
def greatC (c : Cls) : Bool := greatC0 c || c.methods.any greatM
def greatP0 (p : Prog) : Bool := decide (p.classes.length > 70) || decide (p.names.length > 70)
def greatP (p : Prog) : Bool := greatP0 p || p.classes.any greatC
def PairsR (f t : Nat) (x y : AV) : AEnd → AHeap → Prop := fun e H => ∃ i1 i2, e = .ret (.fn (.func f) [.ptr i1 1 0 0, .ptr i2 1 0 0]) ∧ H = [(i2, .rows t 1 [[y]]), (i1, .rows t 1 [[x]])]
theorem lts {l : List Nat} {n : Nat} (h : (l.all fun t => Nat.blt t n) = true) : ∀ t, t ∈ l → t < n := fun t ht => Nat.blt_eq ▸ List.all_eq_true.1 h t ht
def setM (out : List Str) : List (Value × AV) := out.map fun s => (.string s, bA true)
section
variable {P : Program} {ro : Option Nat} {Q : Exit → St → Prop} {s : St} {ops : Array Oper} {o : Oper} {rest : List Oper} {T : List (Nat × AV)}
end
theorem Zaz (p : Prog) : ∀ (n : Nat) (nm : Str) (out : List Str), ∃ suf, supF p n nm out = out ++ suf
 | 0, _, out => ⟨[], by simp [supF]⟩
 | n + 1, nm, out => by
  unfold supF
  cases clsFind p nm with
  | none => exact ⟨[], by simp⟩
  | some c =>
   simp only
   split
   ·exact ⟨[], by simp⟩
   ·split
    ·exact ⟨[c.name], rfl⟩
    ·obtain ⟨suf, h⟩ := Zaz p n c.super (out ++ [c.name])
     exact ⟨c.name :: suf, by rw [h]; simp⟩
theorem SupJ.pre {p : Prog} {nm0 nm : Str} {out : List Str} {c : Cls} (h : SupJ p nm0 nm out) (hc : clsFind p nm = some c) (hi : inL out nm = false) : ∃ suf, supers p nm0 = out ++ nm :: suf := by
 have hn := (Z0x hc).1
 have := h.eq'
 rw [hc] at this
 simp only [hn, hi, Bool.false_eq_true, if_false] at this
 split at this
 ·exact ⟨[], this.symm⟩
 ·obtain ⟨suf, h2⟩ := Zaz p (p.classes.length - out.length) c.super (out ++ [nm])
  rw [h2] at this
  exact ⟨suf, by rw [← this]; simp⟩
def AboveR (f t n u : Nat) (cells : List AV) (nm : Str) : AEnd → AHeap → Prop := fun e H => ∃ i1 i2, e = .ret (.fn (.func f) [.ptr i1 n 0 0, .ptr i2 1 0 0]) ∧ H = [(i2, .rows u 1 [[sA nm]]), (i1, .rows t n [cells])]
inductive Anc (p : Prog) (nm : Str) : Str → Prop
 | base {c : Cls} (h : clsFind p nm = some c) : Anc p nm nm
 | step {s u : Str} {c d : Cls} (h : Anc p nm s) (hc : clsFind p s = some c) (hu : u ∈ upC c) (hd : clsFind p u = some d) : Anc p nm u
structure AncJ (p : Prog) (nm : Str) (todo out : List Str) : Prop where
 nd : out.Nodup
 sub : ∀ x, x ∈ out → x ∈ p.classes.map Cls.name
 snd : ∀ x, x ∈ out → Anc p nm x
 tsnd : ∀ x, x ∈ todo → ∀ c, clsFind p x = some c → Anc p nm x
 cl : ∀ s, s ∈ out → ∀ c, clsFind p s = some c → ∀ u, u ∈ upC c → ∀ d, clsFind p u = some d → u ∈ out ∨ u ∈ todo
 st : ∀ c, clsFind p nm = some c → nm ∈ out ∨ nm ∈ todo
theorem AncJ.start (p : Prog) (nm : Str) : AncJ p nm [nm] [] :=
 ⟨List.nodup_nil, nofun, nofun, fun x hx c hc => by rw [List.mem_singleton.1 hx] at hc ⊢; exact .base hc, nofun, fun _ _ => .inr List.mem_cons_self⟩
theorem AncJ.fin {p : Prog} {nm : Str} {out : List Str} (h : AncJ p nm [] out) (s : Str) : s ∈ out ↔ Anc p nm s := by
 refine ⟨h.snd s, fun ha => ?_⟩
 induction ha with
 | base hc => exact (h.st _ hc).resolve_right nofun
 | step _ hc hu hd ih => exact (h.cl _ ih _ hc _ hu _ hd).resolve_right nofun
theorem AncJ.skip {p : Prog} {nm sx : Str} {t out : List Str} (h : AncJ p nm (t ++ [sx]) out) (hs : clsFind p sx = none ∨ sx ∈ out) : AncJ p nm t out := by
 refine ⟨h.nd, h.sub, h.snd, fun x hx => h.tsnd x (List.mem_append_left _ hx), ?_, ?_⟩
 ·intro s hs' c hc u hu d hd
  rcases h.cl s hs' c hc u hu d hd with h1 | h1
  ·exact .inl h1
  ·rcases List.mem_append.1 h1 with h2 | h2
   ·exact .inr h2
   ·rw [List.mem_singleton] at h2
    subst h2
    rcases hs with h3 | h3
    ·rw [h3] at hd; cases hd
    ·exact .inl h3
 ·intro c hc
  rcases h.st c hc with h1 | h1
  ·exact .inl h1
  ·rcases List.mem_append.1 h1 with h2 | h2
   ·exact .inr h2
   ·rw [List.mem_singleton] at h2
    subst h2
    rcases hs with h3 | h3
    ·rw [h3] at hc; cases hc
    ·exact .inl h3
theorem AncJ.sub1 {p : Prog} {nm sx : Str} {t out : List Str} {c : Cls} (h : AncJ p nm (t ++ [sx]) out) (hc : clsFind p sx = some c) (hn : sx ∉ out) : (out ++ [sx]).Nodup ∧ ∀ x, x ∈ out ++ [sx] → x ∈ p.classes.map Cls.name := by
 refine ⟨?_, ?_⟩
 ·rw [List.nodup_append]
  refine ⟨h.nd, by simp, ?_⟩
  intro a ha b hb
  rw [List.mem_singleton] at hb
  subst hb
  rintro rfl
  exact hn ha
 ·intro x hx
  rcases List.mem_append.1 hx with hx | hx
  ·exact h.sub x hx
  ·rw [List.mem_singleton] at hx
   subst hx
   obtain ⟨h1, h2⟩ := Z0x hc
   exact List.mem_map.2 ⟨c, h2, h1⟩
theorem AncJ.add {p : Prog} {nm sx : Str} {t out : List Str} {c : Cls} (h : AncJ p nm (t ++ [sx]) out) (hc : clsFind p sx = some c) (hn : sx ∉ out) : AncJ p nm (t ++ upC c) (out ++ [sx]) := by
 have ha : Anc p nm sx := h.tsnd sx (List.mem_append_right _ List.mem_cons_self) c hc
 refine ⟨(h.sub1 hc hn).1, (h.sub1 hc hn).2, ?_, ?_, ?_, ?_⟩
 ·intro x hx
  rcases List.mem_append.1 hx with hx | hx
  ·exact h.snd x hx
  ·rw [List.mem_singleton.1 hx]; exact ha
 ·intro x hx d hd
  rcases List.mem_append.1 hx with hx | hx
  ·exact h.tsnd x (List.mem_append_left _ hx) d hd
  ·exact .step ha hc hx hd
 ·intro s hs' c' hc' u hu d hd
  rcases List.mem_append.1 hs' with hs' | hs'
  ·rcases h.cl s hs' c' hc' u hu d hd with h1 | h1
   ·exact .inl (List.mem_append_left _ h1)
   ·rcases List.mem_append.1 h1 with h2 | h2
    ·exact .inr (List.mem_append_left _ h2)
    ·exact .inl (List.mem_append_right _ h2)
  ·rw [List.mem_singleton] at hs'
   subst hs'
   rw [hc] at hc'; cases hc'
   exact .inr (List.mem_append_right _ hu)
 ·intro c' hc'
  rcases h.st c' hc' with h1 | h1
  ·exact .inl (List.mem_append_left _ h1)
  ·rcases List.mem_append.1 h1 with h2 | h2
   ·exact .inr (List.mem_append_left _ h2)
   ·exact .inl (List.mem_append_right _ h2)
theorem AncJ.lt {p : Prog} {nm sx : Str} {t out : List Str} {c : Cls} (h : AncJ p nm (t ++ [sx]) out) (hc : clsFind p sx = some c) (hn : sx ∉ out) : out.length + 1 ≤ p.classes.length := by
 have h4 := Z1n (h.sub1 hc hn).1 (h.sub1 hc hn).2
 simpa using h4
theorem AncJ.len {p : Prog} {nm : Str} {t out : List Str} (h : AncJ p nm t out) : out.length ≤ p.classes.length := by
 have h4 := Z1n h.nd h.sub
 simpa using h4
def MapR (p : Prog) (nm : Str) : AEnd → AHeap → Prop := fun e H => ∃ q out, e = .ret (.map q) ∧ H = [(q, .mp (setM out))] ∧ ∀ s, s ∈ out ↔ Anc p nm s
noncomputable def subP (p : Prog) (a b : Str) : Bool := open Classical in decide (Anc p a b)
def fitsBy (sub : Bool) (f : Fact) (t : Ty) : Bool :=
 if t.kind = 2 then f.kind == 1 else if t.kind = 3 then f.kind == 2 || (f.kind == 3 && sub) else if t.kind = 4 then f.kind == 2 || f.kind == 4 else if t.kind = 5 then f.kind == 2 || (f.kind == 5 && beqS f.cls t.cls) else false
theorem Z81 (a : Str) : beqS a a = true := beqS_iff.2 rfl
def ancRun (p : Prog) : Nat → List Str → List Str → Option (List Str)
 | 0, _, _ => none
 | n + 1, todo, out => match todo.getLast? with
  | none => some out
  | some s => match clsFind p s with
   | none => ancRun p n todo.dropLast out
   | some c => if inL out s then ancRun p n todo.dropLast out else ancRun p n (todo.dropLast ++ upC c) (out ++ [s])
def nA : Str := ⟨#[65]⟩
def nB : Str := ⟨#[66]⟩
def nC : Str := ⟨#[67]⟩
def lvCA : Cls := ⟨nA, zS, false, false, [], [], []⟩
def lvCB : Cls := ⟨nB, nA, false, false, [], [], []⟩
def lvCC : Cls := ⟨nC, nA, false, false, [], [], []⟩
def lvP : Prog := ⟨[lvCA, lvCB, lvCC], [], ⟨zS, zS, zS⟩⟩
end Go.Sx
namespace Go.Sx
open Go
abbrev xA (n : Int) : AV := .v (.int .u64 n)
theorem Z4t {n : Int} (h : 0 ≤ n ∧ n < 18446744073709551616) : IntKind.u64.wrap n = n := by
 unfold IntKind.wrap
 simp [IntKind.bits, IntKind.signed]
 omega
theorem Z3c {n : Int} (h : 0 ≤ n ∧ n < 256) : IntKind.u8.wrap n = n := by
 unfold IntKind.wrap
 simp [IntKind.bits, IntKind.signed]
 omega
def LenJ (x y n : Nat) : Prop := y * 2 ^ n ≤ x ∧ (0 < x → 0 < y)
theorem LenJ.start (x : Nat) : LenJ x x 0 := ⟨by simp, id⟩
theorem LenJ.shr {x y n : Nat} (h : LenJ x y n) (s : Nat) (hy : 2 ^ s ≤ y) : LenJ x (y / 2 ^ s) (n + s) := by
 refine ⟨?_, fun _ => Nat.div_pos hy (Nat.two_pow_pos s)⟩
 have h1 : y / 2 ^ s * 2 ^ s ≤ y := Nat.div_mul_le_self y (2 ^ s)
 calc y / 2 ^ s * 2 ^ (n + s) = (y / 2 ^ s * 2 ^ s) * 2 ^ n := by rw [Nat.pow_add]; simp only [Nat.mul_assoc, Nat.mul_comm, Nat.mul_left_comm]
  _ ≤ y * 2 ^ n := Nat.mul_le_mul_right _ h1
  _ ≤ x := h.1
theorem LenJ.fin {x y n t : Nat} (h : LenJ x y n) (ht : 0 < y → 2 ^ t ≤ 2 * y) (hx : 0 < x) : 2 ^ (n + t) ≤ 2 * x := by
 have h1 := ht (h.2 hx)
 calc 2 ^ (n + t) = 2 ^ t * 2 ^ n := by rw [Nat.pow_add, Nat.mul_comm]
  _ ≤ (2 * y) * 2 ^ n := Nat.mul_le_mul_right _ h1
  _ = 2 * (y * 2 ^ n) := by rw [Nat.mul_assoc]
  _ ≤ 2 * x := Nat.mul_le_mul_left _ h.1
theorem Zgb (x k : Nat) (hk : k ≤ 64) : ((x : Int)).fdiv (2 ^ (min ((k : Int)).toNat 64)) = ((x / 2 ^ k : Nat) : Int) := by
 have e : min ((k : Int)).toNat 64 = k := by omega
 rw [e, Int.ofNat_fdiv]; simp
theorem Zge {v : Int} {m : Nat} (h0 : 0 < m) (hm : m ≤ 4611686018427387904) : 0 ≤ IntKind.i64.wrap (bitsI .and .u64 v (IntKind.u64.wrap ((m : Int) - 1))) ∧ IntKind.i64.wrap (bitsI .and .u64 v (IntKind.u64.wrap ((m : Int) - 1))) < m := by
 rw [Z4t (n := (m : Int) - 1) (by omega)]
 have e : (BitVec.ofInt IntKind.u64.bits ((m : Int) - 1)).toNat = m - 1 := by
  rw [BitVec.toNat_ofInt]
  simp [IntKind.bits]
  omega
 have hle : (BitVec.ofInt IntKind.u64.bits v &&& BitVec.ofInt IntKind.u64.bits ((m : Int) - 1)).toNat ≤ m - 1 := by
  rw [BitVec.toNat_and, e]; exact Nat.and_le_right
 unfold bitsI
 simp only
 generalize (BitVec.ofInt IntKind.u64.bits v &&& BitVec.ofInt IntKind.u64.bits ((m : Int) - 1)).toNat = d at hle ⊢
 rw [Z4t (by omega), Z13 (by omega)]
 omega
theorem Zg7 {x k : Nat} (h0 : 0 < x) (hx : x ≤ 140737488355328) (hk : k ≤ 64 ∧ (0 < x → 2 ^ k ≤ 2 * x)) : IntKind.u64.wrap (1 * 2 ^ (min ((k : Int)).toNat IntKind.u64.bits)) = ((2 ^ k : Nat) : Int) := by
 have h := hk.2 h0
 have e : min ((k : Int)).toNat IntKind.u64.bits = k := by simp [IntKind.bits]; omega
 rw [e, Int.one_mul, show ((2 : Int) ^ k) = ((2 ^ k : Nat) : Int) from by simp]
 have h2 : (0 : Int) ≤ ((2 ^ k : Nat) : Int) := Int.natCast_nonneg _
 have h3 : ((2 ^ k : Nat) : Int) ≤ ((2 * x : Nat) : Int) := Int.ofNat_le.2 h
 generalize ((2 ^ k : Nat) : Int) = z at *
 exact Z4t (by omega)
def len8 : ByteArray := ⟨#[0, 1, 2, 2, 3, 3, 3, 3, 4, 4, 4, 4, 4, 4, 4, 4, 5, 5, 5, 5, 5, 5, 5, 5, 5, 5, 5, 5, 5, 5, 5, 5, 6, 6, 6, 6, 6, 6, 6, 6, 6, 6, 6, 6, 6, 6, 6, 6, 6, 6, 6, 6, 6, 6, 6, 6, 6, 6, 6, 6, 6, 6, 6, 6, 7, 7, 7, 7, 7, 7, 7, 7, 7, 7, 7, 7, 7, 7, 7, 7, 7, 7, 7, 7, 7, 7, 7, 7, 7, 7, 7, 7, 7, 7, 7, 7, 7, 7, 7, 7, 7, 7, 7, 7, 7, 7, 7, 7, 7, 7, 7, 7, 7, 7, 7, 7, 7, 7, 7, 7, 7, 7, 7, 7, 7, 7, 7, 7, 8, 8, 8, 8, 8, 8, 8, 8, 8, 8, 8, 8, 8, 8, 8, 8, 8, 8, 8, 8, 8, 8, 8, 8, 8, 8, 8, 8, 8, 8, 8, 8, 8, 8, 8, 8, 8, 8, 8, 8, 8, 8, 8, 8, 8, 8, 8, 8, 8, 8, 8, 8, 8, 8, 8, 8, 8, 8, 8, 8, 8, 8, 8, 8, 8, 8, 8, 8, 8, 8, 8, 8, 8, 8, 8, 8, 8, 8, 8, 8, 8, 8, 8, 8, 8, 8, 8, 8, 8, 8, 8, 8, 8, 8, 8, 8, 8, 8, 8, 8, 8, 8, 8, 8, 8, 8, 8, 8, 8, 8, 8, 8, 8, 8, 8, 8, 8, 8, 8, 8, 8, 8, 8, 8, 8, 8, 8, 8]⟩
theorem Z0c : ∀ y : Fin 256, 0 ≤ byteAt len8 (y.val : Int) ∧ byteAt len8 (y.val : Int) ≤ 8 ∧ (0 < y.val → 2 ^ (byteAt len8 (y.val : Int)).toNat ≤ 2 * y.val) := by decide +kernel
theorem Z1u {u : ByteArray} (h : u = len8) (k : Int) : uA (byteAt u k) = uA (byteAt len8 k) := by rw [h]
theorem Z1c {u : ByteArray} {k : Int} (h : u = len8) (hk : k < 256) : k < u.size := by rw [h, show len8.size = 256 from by decide +kernel]; exact hk
variable {P : Program} {ro : Option Nat} {Q : Exit → St → Prop} {s : St}
theorem Z08 {c : Code} {k : IntKind} {b : Nat} (t : Nat) (ht : lk s.T t = some (.v (.int k (b : Int)))) (h : ∀ d : Nat, d = b → AWp P ro c Q { s with T := (t, .v (.int k (d : Int))) :: s.T }) : AWp P ro c Q s := Z3g (Z5n ht) (h b rfl)
end Go.Sx
namespace Go.Sx
open Go
variable {P : Program} {ro : Option Nat} {Q : Exit → St → Prop} {s : St} {ops : Array Oper} {o : Oper} {rest : List Oper} {T : List (Nat × AV)}
theorem Zbg {t t' : TypeId} {p q : Operand} {k : IntKind} {x y : Int} (ho : o.op = .binOp .andNot t p q t') (hp : ev T p = some (.v (.int k x))) (hq : ev T q = some (.v (.int k y))) : Eff P o T [] (.v (.int k (bitsI .andNot k x y))) [] :=
 Z05 (by intro c; rw [ho]; nofun) fun C H a w hw hn hv => by
  have h2 := VR.val (hv p (by rw [ho]; simp [Op.operands]) _ hp)
  have h3 := VR.val (hv q (by rw [ho]; simp [Op.operands]) _ hq)
  refine ⟨_, ?_, .v _⟩
  simp [execOp, ho, h2, h3, eqGuard, binOp, Op.intBits, bitsI, Sem.run_bind, Result.andThen]
def byteRows (x : ByteArray) : List (List AV) := x.data.toList.map fun b => [.v (.int .u8 b.toNat)]
theorem Z35 (x : ByteArray) : (byteRows x).length = x.size := by
 unfold byteRows
 rw [List.length_map, Array.length_toList]; rfl
theorem Z5p {C : Ctx} {H : AHeap} {w : World} {Z : List Nat} {t tx ty e bytes id id' k : Nat} {v : Value} {x : ByteArray} {xs : List (List AV)} [hu : UD P t (.slice e)] [hux : UD P tx .string] [ha : AP P e 1 bytes]
  (hs : WR C H w) (hH : H[k]? = some (id, .rows e 1 xs)) (hp : VR C (.own id 1 0 xs.length) v)
  (hml : (xs.length + x.size) * bytes ≤ 140737488355328) (hm : xs.length + x.size ≤ maxLen) (hid : id' ∉ C.U) (hidz : id' ∉ Z) :
  ∃ v' w' C', (Builtin.append_ #[t, tx] ty #[v, .string x]).run P w = .ok v' w' ∧ VR C' (.own id' 1 0 (xs.length + x.size)) v' ∧ WR C' (H.set k (id', .rows e 1 (xs ++ byteRows x))) w' ∧ Ext Z C H w C' (H.set k (id', .rows e 1 (xs ++ byteRows x))) w' := by
 obtain ⟨i, z, hi, hz, hsz, hby, hzs, hpos⟩ := AP.open ha.ap
 have hmem := List.mem_of_getElem? hH
 have hown : SlA H 1 (.own id 1 0 xs.length) xs := ⟨rfl, e, xs, hmem, by omega, by simp⟩
 obtain ⟨hu', hlenx, hor⟩ := hs.ids _ _ hmem
 obtain ⟨adp, cp, hv, hnilp, _, hcellsp⟩ := hown.cells hs hp
 have hsrc := Src.ofString (P := P) w hux.ud x
 have hlb := byteCells_length x
 have hlen : ∀ e : List AV, e ∈ byteRows x → e.length = 1 := by
  intro e he; obtain ⟨b, _, rfl⟩ := List.mem_map.1 he; rfl
 have hav : ∀ x, ∀ z, z ∈ Z → z ∉ C.U → z ∉ (C.bindO id' x).U := by
  intro x z hz' hn
  simp only [Ctx.bindO, List.mem_cons, not_or]
  exact ⟨fun e => hidz (e ▸ hz'), hn⟩
 have hle : ∀ x, C.Le (C.bindO id' x) := fun x => Ctx.le_bindO hid
 have hn4 : ∀ (i : Nat) (e : List AV) (j : Nat) (cc : AV), (byteRows x)[i]? = some e → e[j]? = some cc → ∃ u, (byteCells x)[i * 1 + j]? = some u ∧ ∀ C : Ctx, VR C cc u := by
  intro i e j cc h1 h2
  unfold byteRows at h1
  rw [List.getElem?_map] at h1
  cases h3 : x.data.toList[i]? with
  | none => rw [h3] at h1; cases h1
  | some b =>
   rw [h3] at h1; simp at h1; subst h1
   have hj := Z0f h2
   simp at hj; subst hj
   simp at h2; subst h2
   refine ⟨.int .u8 b.toNat, ?_, fun C => .v _⟩
   unfold byteCells
   rw [Nat.mul_one, Nat.add_zero, List.getElem?_map, h3]; rfl
 have grow : ∀ (olds zs : List Value) (N : Nat), olds.length = xs.length * 1 → (olds ++ byteCells x ++ zs).length = N →
   (∀ (i : Nat) (e : List AV) (j : Nat) (cc : AV), xs[i]? = some e → e[j]? = some cc → ∃ u, olds[i * 1 + j]? = some u ∧ VR C cc u) →
   (∀ u, u ∈ olds → u.oneCell' = true) →
   WR (C.bindO id' (some (w.heap.size, N))) (H.set k (id', .rows e 1 (xs ++ byteRows x))) (w.drew.alloc (.cells (olds ++ byteCells x ++ zs).toArray e)) ∧
    Ext Z C H w (C.bindO id' (some (w.heap.size, N))) (H.set k (id', .rows e 1 (xs ++ byteRows x))) (w.drew.alloc (.cells (olds ++ byteCells x ++ zs).toArray e)) := by
  intro olds zs N h1 h3 h4 h6
  have hal : ∀ b, b < w.heap.size → (w.drew.alloc (.cells (olds ++ byteCells x ++ zs).toArray e)).heap[b]? = w.heap[b]? := fun b hb => heap_alloc_old w.drew _ (h := hb)
  refine Z10 hs hH (hle _) rfl (.inr hid) List.mem_cons_self (hav _) rfl rfl rfl (by simp) (fun b N' hm => .inr ?_) (fun b hb _ => hal b hb) ?_
  ·rw [Ctx.bindO_m] at hm; cases hm; exact Nat.le_refl _
  ·exact Zf9 (w := w) (Ctx.bindO_m ..) (heap_alloc_new w.drew _) h3 hlenx hlen h1 (by rw [hlb, Z35, Nat.mul_one]) (fun i e' j cc a b => let ⟨u, x, y⟩ := h4 i e' j cc a b; ⟨u, x, y.mono (hle _)⟩) (fun i e' j cc a b => let ⟨u, x, y⟩ := hn4 i e' j cc a b; ⟨u, x, y _⟩) h6 hsrc.one
 have hvgrow : ∀ cap, xs.length + x.size ≤ cap → cap ≤ maxLen → VR (C.bindO id' (some (w.heap.size, cap * 1))) (.own id' 1 0 (xs.length + x.size)) (.slice (some ⟨w.heap.size, 0, none⟩) (xs.length + x.size) cap) := by
  intro cap h1 h2
  have := VR.own (C := C.bindO id' (some (w.heap.size, cap * 1))) id' 1 0 (xs.length + x.size) w.heap.size (cap * 1) cap (Ctx.bindO_m ..) List.mem_cons_self (by simp) h1 h2
  simpa using this
 have hzc : ∀ m cap, m ≤ cap → m * 1 + (Builtin.zeroCells z.cells (cap - m)).size = cap * 1 := by
  intro m cap h
  rw [size_zeroCells, hzs, ← Nat.add_mul]; congr 1; omega
 have hm63 : ((xs.length + x.size : Nat) : Int) ≤ 9223372036854775807 := by simp only [maxLen] at hm; omega
 -- there is no room
 have nogo : ∀ (base : Option Addr) (cap : Nat) (olds : List Value), (Builtin.firstCells i.size xs.length (.slice base xs.length cap)).run P w.drew = .ok olds.toArray w.drew → cap < xs.length + x.size → olds.length = xs.length * 1 →
   (∀ (i : Nat) (e : List AV) (j : Nat) (cc : AV), xs[i]? = some e → e[j]? = some cc → ∃ u, olds[i * 1 + j]? = some u ∧ VR C cc u) → (∀ u, u ∈ olds → u.oneCell' = true) →
   ∃ v' w' C', (Builtin.append_ #[t, tx] ty #[.slice base xs.length cap, .string x]).run P w = .ok v' w' ∧ VR C' (.own id' 1 0 (xs.length + x.size)) v' ∧ WR C' (H.set k (id', .rows e 1 (xs ++ byteRows x))) w' ∧ Ext Z C H w C' (H.set k (id', .rows e 1 (xs ++ byteRows x))) w' := by
  intro base cap olds hold hg h1 h2 h3
  have hcap1 := grownCap_ge w (xs.length + x.size) cap e
  have hcapm := grownCap_le_maxLen w (xs.length + x.size) cap e hm
  have hrun := run_append_grow_src (P := P) w t tx ty e i z hu.ud hi hz base xs.length cap olds hold (.string x) x.size (byteCells x) (by rw [hsz]; exact hsrc) hg hm63 (by rw [hby]; exact growslice_fits hg hml)
  obtain ⟨h4, h5⟩ := grow olds (Builtin.zeroCells z.cells (grownCap w (xs.length + x.size) cap e - (xs.length + x.size))).toList (grownCap w (xs.length + x.size) cap e * 1) h1
   (by have := hzc (xs.length + x.size) _ hcap1; simp only [List.length_append, Array.length_toList, hlb, h1]; omega) h2 h3
  have e0 : ((olds ++ byteCells x).toArray ++ Builtin.zeroCells z.cells (grownCap w (xs.length + x.size) cap e - (xs.length + x.size))) = (olds ++ byteCells x ++ (Builtin.zeroCells z.cells (grownCap w (xs.length + x.size) cap e - (xs.length + x.size))).toList).toArray := by simp
  rw [e0] at hrun
  exact ⟨_, _, _, hrun, hvgrow _ hcap1 hcapm, h4, h5⟩
 have hp' := hp
 generalize hxn : xs.length = n at hp'
 cases hp' with
 | ownNil _ _ hmn =>
  have hx0 : xs = [] := List.length_eq_zero_iff.1 hxn
  subst hx0
  rcases Nat.eq_zero_or_pos x.size with h0 | h0
  ·have hx : byteRows x = [] := List.length_eq_zero_iff.1 (by rw [Z35]; exact h0)
   refine ⟨.slice none 0 0, w, C.bindO id' (C.m id), ?_, ?_, ?_⟩
   ·have hb : byteCells x = [] := List.length_eq_zero_iff.1 (by rw [hlb]; exact h0)
    have hc := hsrc.cells
    rw [h0] at hc
    rw [hb] at hc
    simp [Builtin.append_, Go.run_underlying hu.ud, Go.run_underlying hux.ud, sizeOf, typeInfo, hi, hsz, Builtin.lenOf, h0, hc, Result.andThen, Sem.run_bind]
   ·have := VR.ownNil (C := C.bindO id' (C.m id)) id' 1 (by rw [Ctx.bindO_m]; exact hmn) List.mem_cons_self
    simpa [h0] using this
   ·rw [hx]
    refine Z10 hs hH (hle _) rfl (.inr hid) List.mem_cons_self (hav _) rfl rfl rfl (Nat.le_refl _) (fun b N hm => .inl ⟨N, by rw [Ctx.bindO_m] at hm; exact hm⟩) (fun _ _ _ => rfl) ?_
    exact ⟨nofun, .inl ⟨by rw [Ctx.bindO_m]; exact hmn, rfl⟩⟩
  ·have := nogo none 0 [] (by simp [Builtin.firstCells]) (by simpa using h0) rfl (by intro i e j cc h; simp at h) nofun
   simpa using this
 | own _ _ _ _ b N cap hmb _ hcap hlc hcm =>
  subst hxn
  rcases hor with ⟨hm0, _⟩ | ⟨b', N', cells, hmb', hh, hsN, hfit, hrow⟩
  ·rw [hmb] at hm0; cases hm0
  ·rw [hmb] at hmb'; cases hmb'
   simp only [Nat.zero_mul, Nat.zero_add] at hcap hv ⊢
   rcases Nat.lt_or_ge cap (xs.length + x.size) with hg | hg
   ·obtain ⟨olds, ho1, ho2, ho3, ho4⟩ := hcellsp ⟨b, 0, none⟩ (by simpa using (by cases hv; rfl : (some (⟨b, 0, none⟩ : Addr)) = adp).symm)
    exact nogo (some ⟨b, 0, none⟩) cap olds (by rw [hsz]; exact run_firstCells_some w.drew 1 xs.length ⟨b, 0, none⟩ xs.length cap olds ho1 (by simpa using ho2)) hg ho1 ho4 ho3
   ·have hNs : xs.length + x.size ≤ cells.size := by rw [hsN, ← hcap]; omega
    have hst := run_storeCells_at P b xs.length e (byteCells x) 0 cells w hh (by rw [hlb]; omega) hsrc.one
    simp only [Nat.add_zero] at hst
    have hrun : (Builtin.append_ #[t, tx] ty #[.slice (some ⟨b, 0, none⟩) xs.length cap, .string x]).run P w = .ok (.slice (some ⟨b, 0, none⟩) (xs.length + x.size) cap) (w.setRow b (cells.toList.take xs.length ++ byteCells x ++ cells.toList.drop (xs.length + (byteCells x).length)).toArray) := by
     have hc := hsrc.cells
     simp [Builtin.append_, Go.run_underlying hu.ud, Go.run_underlying hux.ud, sizeOf, typeInfo, hi, hsz, Builtin.lenOf, hg, hc, hst, Z49, Result.andThen, Sem.run_bind]
    refine ⟨_, _, C.bindO id' (C.m id), hrun, ?_, ?_⟩
    ·have := VR.own (C := C.bindO id' (C.m id)) id' 1 0 (xs.length + x.size) b N cap (by rw [Ctx.bindO_m]; exact hmb) List.mem_cons_self (by simpa using hcap) hg hcm
     simpa using this
    ·refine Z10 hs hH (hle _) rfl (.inr hid) List.mem_cons_self (hav _) rfl rfl rfl (by simp) (fun b2 N2 hm2 => .inl ⟨N2, by rw [Ctx.bindO_m] at hm2; exact hm2⟩) (fun b2 hb2 hne => setRow_other w b b2 _ (by rintro rfl; exact hne N hmb)) ?_
     refine ⟨?_, .inr ⟨b, N, _, by rw [Ctx.bindO_m]; exact hmb, setRow_heap w b cells _ e (0, 0) hh, ?_, ?_, ?_⟩⟩
     ·intro e' he'
      rcases List.mem_append.1 he' with h | h
      ·exact hlenx e' h
      ·exact hlen e' h
     ·simp only [List.size_toArray, List.length_append, List.length_take, List.length_drop, Array.length_toList, hlb]
      omega
     ·rw [List.length_append, Z35]; omega
     ·intro i' e' j cc he' hcc
      rw [List.getElem?_toArray, Z1a _ _ _ _ (by rw [hlb, Array.length_toList]; exact hNs), hlb]
      rw [List.getElem?_append] at he'
      split at he'
      ·rename_i hlt
       have hj : j < 1 := by rw [← hlenx e' (List.mem_of_getElem? he')]; exact Z0f hcc
       rw [if_pos (by omega), Array.getElem?_toList]
       obtain ⟨u, h1, h2, h3⟩ := hrow i' e' j cc he' hcc
       exact ⟨u, h1, h2.mono (hle _), h3⟩
      ·rename_i hge
       obtain ⟨u, h1, h2⟩ := hn4 (i' - xs.length) e' j cc he' hcc
       have hlt := Z0f h1
       rw [hlb] at hlt
       rw [if_neg (by omega), if_pos (by omega)]
       refine ⟨u, ?_, h2 _, hsrc.one u (List.mem_of_getElem? h1)⟩
       rw [← h1]; congr 1; omega
end Go.Sx
namespace Go.Sx
open Go
variable {P : Program} {ro : Option Nat} {Q : Exit → St → Prop} {s : St} {ops : Array Oper} {o : Oper} {rest : List Oper} {T : List (Nat × AV)}
end Go.Sx
namespace Go.Sx
open Go
section
variable {P : Program} {T : List (Nat × AV)} {o : Oper}
end
section
variable {P : Program} {ro : Option Nat} {Q : Exit → St → Prop} {s : St} {ops : Array Oper} {o : Oper} {rest : List Oper}
end
end Go.Sx
namespace Go.Sx
open Go
section
variable {P : Program} {ro : Option Nat} {Q : Exit → St → Prop} {s : St}
end
section
variable {P : Program} {T : List (Nat × AV)} {o : Oper}
theorem Z2h {t t' : TypeId} {p q : Operand} {x y : ByteArray} (ho : o.op = .binOp .add t p q t') (hp : ev T p = some (.v (.string x))) (hq : ev T q = some (.v (.string y))) (hz : x.size + y.size ≤ 9223372036854775807) : Eff P o T [] (.v (.string (x ++ y))) [] :=
 Z05 (by intro c; rw [ho]; nofun) fun C H a w hw hn hv => by
  have h2 := VR.val (hv p (by rw [ho]; simp [Op.operands]) _ hp)
  have h3 := VR.val (hv q (by rw [ho]; simp [Op.operands]) _ hq)
  refine ⟨.string (x ++ y), ?_, .v _⟩
  have hm : ¬ ((x.size + y.size : Nat) : Int) > IntKind.i64.max := by
   have : IntKind.i64.max = 9223372036854775807 := rfl
   omega
  simp [execOp, ho, h2, h3, eqGuard, binOp, Op.stringOp, Sem.run_bind, Result.andThen]
  rw [if_neg (by simpa using hm)]
end
def pull : AHeap → List Nat → Option (AHeap × AHeap)
 | H, [] => some ([], H)
 | H, k :: ks => match H[k]? with
  | some p => match pull (H.eraseIdx k) ks with
   | some (A, B) => some (p :: A, B)
   | none => none
  | none => none
end Go.Sx
namespace Go.Sx
open Go
def ARounds (P : Program) (ro : Option Nat) (c : Code) (Q : Exit → St → Prop) : Nat → St → Prop
 | 0, _ => False
 | m + 1, s => AWp P ro c (thenQ (ARounds P ro c Q m) Q) s
end Go.Sx
namespace Go.Sx
open Go
class Con (P : Program) (f : Nat) (xs : List AV) (x : outParam AV) : Prop where
 c : ACalls P f xs [] (Gives x)
structure Wk (A : Prop) : Prop where
 x : A
theorem wY {ops : Array Oper} {o : Oper} {T : List (Nat × AV)} {g t : Nat} {b : Bool} {og : Oper} (h : o.guard = some (g, b)) (h1 : ops[g]? = some og) (h2 : og.dst = some t) (h3 : lk T t = some (.v (.bool b))) : Wanted ops T o true := by
 cases b
 ·exact wF h h1 h2 h3
 ·exact wT h h1 h2 h3
theorem wZ {ops : Array Oper} {o : Oper} {T : List (Nat × AV)} {g t : Nat} {b : Bool} {og : Oper} (h : o.guard = some (g, b)) (h1 : ops[g]? = some og) (h2 : og.dst = some t) (h3 : lk T t = some (.v (.bool (!b)))) : Wanted ops T o false := by
 cases b
 ·exact wF h h1 h2 h3
 ·exact wT h h1 h2 h3
section
variable {P : Program} {t : TypeId} {r : List AV}
theorem Z5d {x1 x2 : AV} [h : TK P t true 2] : Ld P t (x1 :: x2 :: r) (.agg [x1, x2]) := .inr ⟨2, h.tk, by simp, rfl⟩
theorem Zem {x1 x2 x3 : AV} [h : TK P t true 3] : Ld P t (x1 :: x2 :: x3 :: r) (.agg [x1, x2, x3]) := .inr ⟨3, h.tk, by simp, rfl⟩
theorem Zen {x1 x2 x3 x4 : AV} [h : TK P t true 4] : Ld P t (x1 :: x2 :: x3 :: x4 :: r) (.agg [x1, x2, x3, x4]) := .inr ⟨4, h.tk, by simp, rfl⟩
theorem Zeo {x1 x2 x3 x4 x5 : AV} [h : TK P t true 5] : Ld P t (x1 :: x2 :: x3 :: x4 :: x5 :: r) (.agg [x1, x2, x3, x4, x5]) := .inr ⟨5, h.tk, by simp, rfl⟩
theorem Zep {x1 x2 x3 x4 x5 x6 x7 : AV} [h : TK P t true 7] : Ld P t (x1 :: x2 :: x3 :: x4 :: x5 :: x6 :: x7 :: r) (.agg [x1, x2, x3, x4, x5, x6, x7]) := .inr ⟨7, h.tk, by simp, rfl⟩
end
def maskOf (ms : List Nat) (o : Oper) : Nat := o.after.foldl (fun m e => bif Region.binds .any e then m ||| (1 <<< e.on) ||| ms.getD e.on 0 else m) 0
def masksOf (l : List Oper) : List Nat := l.foldl (fun ms o => ms ++ [maskOf ms o]) []
section
variable {P : Program} {ro : Option Nat} {Q : Exit → St → Prop} {ops : Array Oper} {rest : List Oper} {T : List (Nat × AV)} {H : AHeap} {D : List Nat} {n d ty : Nat} {po : String} {af : Array Edge} {p q : Operand} {x y : AV} {t t' : TypeId} {H0 : AHeap} {KK : St → Prop} {kk : Nat} {M : List (Nat × (Nat × AObj))}
theorem zM  (h : AOps P ro ops rest Q ⟨(d, x) :: T, H, D, n⟩) (hp : ev T p = some x := by rfl) (hd : Nat.blt d n = true := by rfl) : AOps P ro ops ({ dst := some d, op := .move p, type := ty, pos := po, after := af, guard := none } :: rest) Q ⟨T, H, D, n⟩ := Z2 (w0 rfl) hd (Z0 rfl hp) h
theorem zcM  (h : Calm P ops H0 KK (kk + 1) rest M ⟨(d, x) :: T, H, D, n⟩) (hp : ev T p = some x := by rfl) (hd : Nat.blt d n = true := by rfl) : Calm P ops H0 KK kk ({ dst := some d, op := .move p, type := ty, pos := po, after := af, guard := none } :: rest) M ⟨T, H, D, n⟩ := Za (w0 rfl) hd (Z0 rfl hp) h
theorem Z2q  {g gt : Nat} {gb : Bool} {og : Oper} (h : Calm P ops H0 KK (kk + 1) rest M ⟨(d, x) :: T, H, D, n⟩) (g1 : ops[g]? = some og := by rfl) (g2 : og.dst = some gt := by rfl) (g3 : lk T gt = some (.v (.bool gb)) := by rfl) (hp : ev T p = some x := by rfl) (hd : Nat.blt d n = true := by rfl) : Calm P ops H0 KK kk ({ dst := some d, op := .move p, type := ty, pos := po, after := af, guard := some (g, gb) } :: rest) M ⟨T, H, D, n⟩ := Za (wY rfl g1 g2 g3) hd (Z0 rfl hp) h
theorem zgM  {g gt : Nat} {gb : Bool} {og : Oper} (h : AOps P ro ops rest Q ⟨(d, x) :: T, H, D, n⟩) (g1 : ops[g]? = some og := by rfl) (g2 : og.dst = some gt := by rfl) (g3 : lk T gt = some (.v (.bool gb)) := by rfl) (hp : ev T p = some x := by rfl) (hd : Nat.blt d n = true := by rfl) : AOps P ro ops ({ dst := some d, op := .move p, type := ty, pos := po, after := af, guard := some (g, gb) } :: rest) Q ⟨T, H, D, n⟩ := Z2 (wY rfl g1 g2 g3) hd (Z0 rfl hp) h
theorem zA  (h : AOps P ro ops rest Q ⟨(d, x) :: T, H, D, n⟩) (hp : ev T p = some x := by rfl) (hd : Nat.blt d n = true := by rfl) : AOps P ro ops ({ dst := some d, op := .assign p, type := ty, pos := po, after := af, guard := none } :: rest) Q ⟨T, H, D, n⟩ := Z2 (w0 rfl) hd (Z4 rfl hp) h
theorem zcA  (h : Calm P ops H0 KK (kk + 1) rest M ⟨(d, x) :: T, H, D, n⟩) (hp : ev T p = some x := by rfl) (hd : Nat.blt d n = true := by rfl) : Calm P ops H0 KK kk ({ dst := some d, op := .assign p, type := ty, pos := po, after := af, guard := none } :: rest) M ⟨T, H, D, n⟩ := Za (w0 rfl) hd (Z4 rfl hp) h
theorem Ziu  {g gt : Nat} {gb : Bool} {og : Oper} (h : Calm P ops H0 KK (kk + 1) rest M ⟨(d, x) :: T, H, D, n⟩) (g1 : ops[g]? = some og := by rfl) (g2 : og.dst = some gt := by rfl) (g3 : lk T gt = some (.v (.bool gb)) := by rfl) (hp : ev T p = some x := by rfl) (hd : Nat.blt d n = true := by rfl) : Calm P ops H0 KK kk ({ dst := some d, op := .assign p, type := ty, pos := po, after := af, guard := some (g, gb) } :: rest) M ⟨T, H, D, n⟩ := Za (wY rfl g1 g2 g3) hd (Z4 rfl hp) h
theorem zgA  {g gt : Nat} {gb : Bool} {og : Oper} (h : AOps P ro ops rest Q ⟨(d, x) :: T, H, D, n⟩) (g1 : ops[g]? = some og := by rfl) (g2 : og.dst = some gt := by rfl) (g3 : lk T gt = some (.v (.bool gb)) := by rfl) (hp : ev T p = some x := by rfl) (hd : Nat.blt d n = true := by rfl) : AOps P ro ops ({ dst := some d, op := .assign p, type := ty, pos := po, after := af, guard := some (g, gb) } :: rest) Q ⟨T, H, D, n⟩ := Z2 (wY rfl g1 g2 g3) hd (Z4 rfl hp) h
theorem zI {b : BinOp} {k : IntKind} {u v : Int} {z : Bool} (h : AOps P ro ops rest Q ⟨(d, .v (.bool z)) :: T, H, D, n⟩) (hp : ev T p = some (.v (.int k u)) := by rfl) (hq : ev T q = some (.v (.int k v)) := by rfl) (hz : icmp b u v = some z := by rfl) (hd : Nat.blt d n = true := by rfl) : AOps P ro ops ({ dst := some d, op := .binOp b t p q t', type := ty, pos := po, after := af, guard := none } :: rest) Q ⟨T, H, D, n⟩ := Z2 (w0 rfl) hd (Zf rfl hp hq hz) h
theorem zcI {b : BinOp} {k : IntKind} {u v : Int} {z : Bool} (h : Calm P ops H0 KK (kk + 1) rest M ⟨(d, .v (.bool z)) :: T, H, D, n⟩) (hp : ev T p = some (.v (.int k u)) := by rfl) (hq : ev T q = some (.v (.int k v)) := by rfl) (hz : icmp b u v = some z := by rfl) (hd : Nat.blt d n = true := by rfl) : Calm P ops H0 KK kk ({ dst := some d, op := .binOp b t p q t', type := ty, pos := po, after := af, guard := none } :: rest) M ⟨T, H, D, n⟩ := Za (w0 rfl) hd (Zf rfl hp hq hz) h
theorem Ziv {b : BinOp} {k : IntKind} {u v : Int} {z : Bool} {g gt : Nat} {gb : Bool} {og : Oper} (h : Calm P ops H0 KK (kk + 1) rest M ⟨(d, .v (.bool z)) :: T, H, D, n⟩) (g1 : ops[g]? = some og := by rfl) (g2 : og.dst = some gt := by rfl) (g3 : lk T gt = some (.v (.bool gb)) := by rfl) (hp : ev T p = some (.v (.int k u)) := by rfl) (hq : ev T q = some (.v (.int k v)) := by rfl) (hz : icmp b u v = some z := by rfl) (hd : Nat.blt d n = true := by rfl) : Calm P ops H0 KK kk ({ dst := some d, op := .binOp b t p q t', type := ty, pos := po, after := af, guard := some (g, gb) } :: rest) M ⟨T, H, D, n⟩ := Za (wY rfl g1 g2 g3) hd (Zf rfl hp hq hz) h
theorem zgI {b : BinOp} {k : IntKind} {u v : Int} {z : Bool} {g gt : Nat} {gb : Bool} {og : Oper} (h : AOps P ro ops rest Q ⟨(d, .v (.bool z)) :: T, H, D, n⟩) (g1 : ops[g]? = some og := by rfl) (g2 : og.dst = some gt := by rfl) (g3 : lk T gt = some (.v (.bool gb)) := by rfl) (hp : ev T p = some (.v (.int k u)) := by rfl) (hq : ev T q = some (.v (.int k v)) := by rfl) (hz : icmp b u v = some z := by rfl) (hd : Nat.blt d n = true := by rfl) : AOps P ro ops ({ dst := some d, op := .binOp b t p q t', type := ty, pos := po, after := af, guard := some (g, gb) } :: rest) Q ⟨T, H, D, n⟩ := Z2 (wY rfl g1 g2 g3) hd (Zf rfl hp hq hz) h
theorem zU {b : BinOp} {u v : ByteArray} {z : Bool} (h : AOps P ro ops rest Q ⟨(d, .v (.bool z)) :: T, H, D, n⟩) (hp : ev T p = some (.v (.string u)) := by rfl) (hq : ev T q = some (.v (.string v)) := by rfl) (hz : scmp b u v = some z := by rfl) (hd : Nat.blt d n = true := by rfl) : AOps P ro ops ({ dst := some d, op := .binOp b t p q t', type := ty, pos := po, after := af, guard := none } :: rest) Q ⟨T, H, D, n⟩ := Z2 (w0 rfl) hd (Z0u rfl hp hq hz) h
theorem zcU {b : BinOp} {u v : ByteArray} {z : Bool} (h : Calm P ops H0 KK (kk + 1) rest M ⟨(d, .v (.bool z)) :: T, H, D, n⟩) (hp : ev T p = some (.v (.string u)) := by rfl) (hq : ev T q = some (.v (.string v)) := by rfl) (hz : scmp b u v = some z := by rfl) (hd : Nat.blt d n = true := by rfl) : Calm P ops H0 KK kk ({ dst := some d, op := .binOp b t p q t', type := ty, pos := po, after := af, guard := none } :: rest) M ⟨T, H, D, n⟩ := Za (w0 rfl) hd (Z0u rfl hp hq hz) h
theorem Zi6 {b : BinOp} {u v : ByteArray} {z : Bool} {g gt : Nat} {gb : Bool} {og : Oper} (h : Calm P ops H0 KK (kk + 1) rest M ⟨(d, .v (.bool z)) :: T, H, D, n⟩) (g1 : ops[g]? = some og := by rfl) (g2 : og.dst = some gt := by rfl) (g3 : lk T gt = some (.v (.bool gb)) := by rfl) (hp : ev T p = some (.v (.string u)) := by rfl) (hq : ev T q = some (.v (.string v)) := by rfl) (hz : scmp b u v = some z := by rfl) (hd : Nat.blt d n = true := by rfl) : Calm P ops H0 KK kk ({ dst := some d, op := .binOp b t p q t', type := ty, pos := po, after := af, guard := some (g, gb) } :: rest) M ⟨T, H, D, n⟩ := Za (wY rfl g1 g2 g3) hd (Z0u rfl hp hq hz) h
theorem zgU {b : BinOp} {u v : ByteArray} {z : Bool} {g gt : Nat} {gb : Bool} {og : Oper} (h : AOps P ro ops rest Q ⟨(d, .v (.bool z)) :: T, H, D, n⟩) (g1 : ops[g]? = some og := by rfl) (g2 : og.dst = some gt := by rfl) (g3 : lk T gt = some (.v (.bool gb)) := by rfl) (hp : ev T p = some (.v (.string u)) := by rfl) (hq : ev T q = some (.v (.string v)) := by rfl) (hz : scmp b u v = some z := by rfl) (hd : Nat.blt d n = true := by rfl) : AOps P ro ops ({ dst := some d, op := .binOp b t p q t', type := ty, pos := po, after := af, guard := some (g, gb) } :: rest) Q ⟨T, H, D, n⟩ := Z2 (wY rfl g1 g2 g3) hd (Z0u rfl hp hq hz) h
theorem zUt {b : BinOp} {u v : ByteArray} (h : AOps P ro ops rest Q ⟨(d, .v (.bool true)) :: T, H, D, n⟩) (hp : ev T p = some (.v (.string u)) := by rfl) (hq : ev T q = some (.v (.string v)) := by rfl) (hz : scmp b u v = some true := by decide +kernel) (hd : Nat.blt d n = true := by rfl) : AOps P ro ops ({ dst := some d, op := .binOp b t p q t', type := ty, pos := po, after := af, guard := none } :: rest) Q ⟨T, H, D, n⟩ := Z2 (w0 rfl) hd (Z0u rfl hp hq hz) h
theorem Zit {b : BinOp} {u v : ByteArray} (h : Calm P ops H0 KK (kk + 1) rest M ⟨(d, .v (.bool true)) :: T, H, D, n⟩) (hp : ev T p = some (.v (.string u)) := by rfl) (hq : ev T q = some (.v (.string v)) := by rfl) (hz : scmp b u v = some true := by decide +kernel) (hd : Nat.blt d n = true := by rfl) : Calm P ops H0 KK kk ({ dst := some d, op := .binOp b t p q t', type := ty, pos := po, after := af, guard := none } :: rest) M ⟨T, H, D, n⟩ := Za (w0 rfl) hd (Z0u rfl hp hq hz) h
theorem Zhy {b : BinOp} {u v : ByteArray} {g gt : Nat} {gb : Bool} {og : Oper} (h : Calm P ops H0 KK (kk + 1) rest M ⟨(d, .v (.bool true)) :: T, H, D, n⟩) (g1 : ops[g]? = some og := by rfl) (g2 : og.dst = some gt := by rfl) (g3 : lk T gt = some (.v (.bool gb)) := by rfl) (hp : ev T p = some (.v (.string u)) := by rfl) (hq : ev T q = some (.v (.string v)) := by rfl) (hz : scmp b u v = some true := by decide +kernel) (hd : Nat.blt d n = true := by rfl) : Calm P ops H0 KK kk ({ dst := some d, op := .binOp b t p q t', type := ty, pos := po, after := af, guard := some (g, gb) } :: rest) M ⟨T, H, D, n⟩ := Za (wY rfl g1 g2 g3) hd (Z0u rfl hp hq hz) h
theorem Zjm {b : BinOp} {u v : ByteArray} {g gt : Nat} {gb : Bool} {og : Oper} (h : AOps P ro ops rest Q ⟨(d, .v (.bool true)) :: T, H, D, n⟩) (g1 : ops[g]? = some og := by rfl) (g2 : og.dst = some gt := by rfl) (g3 : lk T gt = some (.v (.bool gb)) := by rfl) (hp : ev T p = some (.v (.string u)) := by rfl) (hq : ev T q = some (.v (.string v)) := by rfl) (hz : scmp b u v = some true := by decide +kernel) (hd : Nat.blt d n = true := by rfl) : AOps P ro ops ({ dst := some d, op := .binOp b t p q t', type := ty, pos := po, after := af, guard := some (g, gb) } :: rest) Q ⟨T, H, D, n⟩ := Z2 (wY rfl g1 g2 g3) hd (Z0u rfl hp hq hz) h
theorem zUf {b : BinOp} {u v : ByteArray} (h : AOps P ro ops rest Q ⟨(d, .v (.bool false)) :: T, H, D, n⟩) (hp : ev T p = some (.v (.string u)) := by rfl) (hq : ev T q = some (.v (.string v)) := by rfl) (hz : scmp b u v = some false := by decide +kernel) (hd : Nat.blt d n = true := by rfl) : AOps P ro ops ({ dst := some d, op := .binOp b t p q t', type := ty, pos := po, after := af, guard := none } :: rest) Q ⟨T, H, D, n⟩ := Z2 (w0 rfl) hd (Z0u rfl hp hq hz) h
theorem Zis {b : BinOp} {u v : ByteArray} (h : Calm P ops H0 KK (kk + 1) rest M ⟨(d, .v (.bool false)) :: T, H, D, n⟩) (hp : ev T p = some (.v (.string u)) := by rfl) (hq : ev T q = some (.v (.string v)) := by rfl) (hz : scmp b u v = some false := by decide +kernel) (hd : Nat.blt d n = true := by rfl) : Calm P ops H0 KK kk ({ dst := some d, op := .binOp b t p q t', type := ty, pos := po, after := af, guard := none } :: rest) M ⟨T, H, D, n⟩ := Za (w0 rfl) hd (Z0u rfl hp hq hz) h
theorem Zhx {b : BinOp} {u v : ByteArray} {g gt : Nat} {gb : Bool} {og : Oper} (h : Calm P ops H0 KK (kk + 1) rest M ⟨(d, .v (.bool false)) :: T, H, D, n⟩) (g1 : ops[g]? = some og := by rfl) (g2 : og.dst = some gt := by rfl) (g3 : lk T gt = some (.v (.bool gb)) := by rfl) (hp : ev T p = some (.v (.string u)) := by rfl) (hq : ev T q = some (.v (.string v)) := by rfl) (hz : scmp b u v = some false := by decide +kernel) (hd : Nat.blt d n = true := by rfl) : Calm P ops H0 KK kk ({ dst := some d, op := .binOp b t p q t', type := ty, pos := po, after := af, guard := some (g, gb) } :: rest) M ⟨T, H, D, n⟩ := Za (wY rfl g1 g2 g3) hd (Z0u rfl hp hq hz) h
theorem Zjl {b : BinOp} {u v : ByteArray} {g gt : Nat} {gb : Bool} {og : Oper} (h : AOps P ro ops rest Q ⟨(d, .v (.bool false)) :: T, H, D, n⟩) (g1 : ops[g]? = some og := by rfl) (g2 : og.dst = some gt := by rfl) (g3 : lk T gt = some (.v (.bool gb)) := by rfl) (hp : ev T p = some (.v (.string u)) := by rfl) (hq : ev T q = some (.v (.string v)) := by rfl) (hz : scmp b u v = some false := by decide +kernel) (hd : Nat.blt d n = true := by rfl) : AOps P ro ops ({ dst := some d, op := .binOp b t p q t', type := ty, pos := po, after := af, guard := some (g, gb) } :: rest) Q ⟨T, H, D, n⟩ := Z2 (wY rfl g1 g2 g3) hd (Z0u rfl hp hq hz) h
theorem zK {b : BinOp} {z : Bool} {e : Nat} (h : AOps P ro ops rest Q ⟨(d, .v (.bool z)) :: T, H, D, n⟩) (hp : ev T p = some (.v (.pointer none)) := by rfl) (hq : ev T q = some (.v (.pointer none)) := by rfl) (hb : pcmp b true = some z := by rfl) [hu : UD P t (.pointer e)] (hd : Nat.blt d n = true := by rfl) : AOps P ro ops ({ dst := some d, op := .binOp b t p q t', type := ty, pos := po, after := af, guard := none } :: rest) Q ⟨T, H, D, n⟩ := Z2 (w0 rfl) hd (Z8g rfl hp hq hb) h
theorem zcK {b : BinOp} {z : Bool} {e : Nat} (h : Calm P ops H0 KK (kk + 1) rest M ⟨(d, .v (.bool z)) :: T, H, D, n⟩) (hp : ev T p = some (.v (.pointer none)) := by rfl) (hq : ev T q = some (.v (.pointer none)) := by rfl) (hb : pcmp b true = some z := by rfl) [hu : UD P t (.pointer e)] (hd : Nat.blt d n = true := by rfl) : Calm P ops H0 KK kk ({ dst := some d, op := .binOp b t p q t', type := ty, pos := po, after := af, guard := none } :: rest) M ⟨T, H, D, n⟩ := Za (w0 rfl) hd (Z8g rfl hp hq hb) h
theorem Zix {b : BinOp} {z : Bool} {e : Nat} {g gt : Nat} {gb : Bool} {og : Oper} (h : Calm P ops H0 KK (kk + 1) rest M ⟨(d, .v (.bool z)) :: T, H, D, n⟩) (g1 : ops[g]? = some og := by rfl) (g2 : og.dst = some gt := by rfl) (g3 : lk T gt = some (.v (.bool gb)) := by rfl) (hp : ev T p = some (.v (.pointer none)) := by rfl) (hq : ev T q = some (.v (.pointer none)) := by rfl) (hb : pcmp b true = some z := by rfl) [hu : UD P t (.pointer e)] (hd : Nat.blt d n = true := by rfl) : Calm P ops H0 KK kk ({ dst := some d, op := .binOp b t p q t', type := ty, pos := po, after := af, guard := some (g, gb) } :: rest) M ⟨T, H, D, n⟩ := Za (wY rfl g1 g2 g3) hd (Z8g rfl hp hq hb) h
theorem zgK {b : BinOp} {z : Bool} {e : Nat} {g gt : Nat} {gb : Bool} {og : Oper} (h : AOps P ro ops rest Q ⟨(d, .v (.bool z)) :: T, H, D, n⟩) (g1 : ops[g]? = some og := by rfl) (g2 : og.dst = some gt := by rfl) (g3 : lk T gt = some (.v (.bool gb)) := by rfl) (hp : ev T p = some (.v (.pointer none)) := by rfl) (hq : ev T q = some (.v (.pointer none)) := by rfl) (hb : pcmp b true = some z := by rfl) [hu : UD P t (.pointer e)] (hd : Nat.blt d n = true := by rfl) : AOps P ro ops ({ dst := some d, op := .binOp b t p q t', type := ty, pos := po, after := af, guard := some (g, gb) } :: rest) Q ⟨T, H, D, n⟩ := Z2 (wY rfl g1 g2 g3) hd (Z8g rfl hp hq hb) h
theorem zJ {b : BinOp} {z : Bool} {e id sz i c : Nat} (h : AOps P ro ops rest Q ⟨(d, .v (.bool z)) :: T, H, D, n⟩) (hp : ev T p = some (.ptr id sz i c) := by rfl) (hq : ev T q = some (.v (.pointer none)) := by rfl) (hb : pcmp b false = some z := by rfl) [hu : UD P t (.pointer e)] (hd : Nat.blt d n = true := by rfl) : AOps P ro ops ({ dst := some d, op := .binOp b t p q t', type := ty, pos := po, after := af, guard := none } :: rest) Q ⟨T, H, D, n⟩ := Z2 (w0 rfl) hd (Z8h rfl hp hq hb) h
theorem zcJ {b : BinOp} {z : Bool} {e id sz i c : Nat} (h : Calm P ops H0 KK (kk + 1) rest M ⟨(d, .v (.bool z)) :: T, H, D, n⟩) (hp : ev T p = some (.ptr id sz i c) := by rfl) (hq : ev T q = some (.v (.pointer none)) := by rfl) (hb : pcmp b false = some z := by rfl) [hu : UD P t (.pointer e)] (hd : Nat.blt d n = true := by rfl) : Calm P ops H0 KK kk ({ dst := some d, op := .binOp b t p q t', type := ty, pos := po, after := af, guard := none } :: rest) M ⟨T, H, D, n⟩ := Za (w0 rfl) hd (Z8h rfl hp hq hb) h
theorem Ziw {b : BinOp} {z : Bool} {e id sz i c : Nat} {g gt : Nat} {gb : Bool} {og : Oper} (h : Calm P ops H0 KK (kk + 1) rest M ⟨(d, .v (.bool z)) :: T, H, D, n⟩) (g1 : ops[g]? = some og := by rfl) (g2 : og.dst = some gt := by rfl) (g3 : lk T gt = some (.v (.bool gb)) := by rfl) (hp : ev T p = some (.ptr id sz i c) := by rfl) (hq : ev T q = some (.v (.pointer none)) := by rfl) (hb : pcmp b false = some z := by rfl) [hu : UD P t (.pointer e)] (hd : Nat.blt d n = true := by rfl) : Calm P ops H0 KK kk ({ dst := some d, op := .binOp b t p q t', type := ty, pos := po, after := af, guard := some (g, gb) } :: rest) M ⟨T, H, D, n⟩ := Za (wY rfl g1 g2 g3) hd (Z8h rfl hp hq hb) h
theorem zgJ {b : BinOp} {z : Bool} {e id sz i c : Nat} {g gt : Nat} {gb : Bool} {og : Oper} (h : AOps P ro ops rest Q ⟨(d, .v (.bool z)) :: T, H, D, n⟩) (g1 : ops[g]? = some og := by rfl) (g2 : og.dst = some gt := by rfl) (g3 : lk T gt = some (.v (.bool gb)) := by rfl) (hp : ev T p = some (.ptr id sz i c) := by rfl) (hq : ev T q = some (.v (.pointer none)) := by rfl) (hb : pcmp b false = some z := by rfl) [hu : UD P t (.pointer e)] (hd : Nat.blt d n = true := by rfl) : AOps P ro ops ({ dst := some d, op := .binOp b t p q t', type := ty, pos := po, after := af, guard := some (g, gb) } :: rest) Q ⟨T, H, D, n⟩ := Z2 (wY rfl g1 g2 g3) hd (Z8h rfl hp hq hb) h
theorem zP {u v : Int} (h : AOps P ro ops rest Q ⟨(d, .v (.int .i64 (u + v))) :: T, H, D, n⟩) (hp : ev T p = some (.v (.int .i64 u)) := by rfl) (hq : ev T q = some (.v (.int .i64 v)) := by rfl) (hz : -9223372036854775808 ≤ u + v ∧ u + v ≤ 9223372036854775807 := by first | omega | decide +kernel) (hd : Nat.blt d n = true := by rfl) : AOps P ro ops ({ dst := some d, op := .binOp .add t p q t', type := ty, pos := po, after := af, guard := none } :: rest) Q ⟨T, H, D, n⟩ := Z2 (w0 rfl) hd (Z8 rfl hp hq (Zb hz)) h
theorem zcP {u v : Int} (h : Calm P ops H0 KK (kk + 1) rest M ⟨(d, .v (.int .i64 (u + v))) :: T, H, D, n⟩) (hp : ev T p = some (.v (.int .i64 u)) := by rfl) (hq : ev T q = some (.v (.int .i64 v)) := by rfl) (hz : -9223372036854775808 ≤ u + v ∧ u + v ≤ 9223372036854775807 := by first | omega | decide +kernel) (hd : Nat.blt d n = true := by rfl) : Calm P ops H0 KK kk ({ dst := some d, op := .binOp .add t p q t', type := ty, pos := po, after := af, guard := none } :: rest) M ⟨T, H, D, n⟩ := Za (w0 rfl) hd (Z8 rfl hp hq (Zb hz)) h
theorem Ziz {u v : Int} {g gt : Nat} {gb : Bool} {og : Oper} (h : Calm P ops H0 KK (kk + 1) rest M ⟨(d, .v (.int .i64 (u + v))) :: T, H, D, n⟩) (g1 : ops[g]? = some og := by rfl) (g2 : og.dst = some gt := by rfl) (g3 : lk T gt = some (.v (.bool gb)) := by rfl) (hp : ev T p = some (.v (.int .i64 u)) := by rfl) (hq : ev T q = some (.v (.int .i64 v)) := by rfl) (hz : -9223372036854775808 ≤ u + v ∧ u + v ≤ 9223372036854775807 := by first | omega | decide +kernel) (hd : Nat.blt d n = true := by rfl) : Calm P ops H0 KK kk ({ dst := some d, op := .binOp .add t p q t', type := ty, pos := po, after := af, guard := some (g, gb) } :: rest) M ⟨T, H, D, n⟩ := Za (wY rfl g1 g2 g3) hd (Z8 rfl hp hq (Zb hz)) h
theorem zgP {u v : Int} {g gt : Nat} {gb : Bool} {og : Oper} (h : AOps P ro ops rest Q ⟨(d, .v (.int .i64 (u + v))) :: T, H, D, n⟩) (g1 : ops[g]? = some og := by rfl) (g2 : og.dst = some gt := by rfl) (g3 : lk T gt = some (.v (.bool gb)) := by rfl) (hp : ev T p = some (.v (.int .i64 u)) := by rfl) (hq : ev T q = some (.v (.int .i64 v)) := by rfl) (hz : -9223372036854775808 ≤ u + v ∧ u + v ≤ 9223372036854775807 := by first | omega | decide +kernel) (hd : Nat.blt d n = true := by rfl) : AOps P ro ops ({ dst := some d, op := .binOp .add t p q t', type := ty, pos := po, after := af, guard := some (g, gb) } :: rest) Q ⟨T, H, D, n⟩ := Z2 (wY rfl g1 g2 g3) hd (Z8 rfl hp hq (Zb hz)) h
theorem zL {u v : Int} (h : AOps P ro ops rest Q ⟨(d, .v (.int .i64 (u - v))) :: T, H, D, n⟩) (hp : ev T p = some (.v (.int .i64 u)) := by rfl) (hq : ev T q = some (.v (.int .i64 v)) := by rfl) (hz : -9223372036854775808 ≤ u - v ∧ u - v ≤ 9223372036854775807 := by first | omega | decide +kernel) (hd : Nat.blt d n = true := by rfl) : AOps P ro ops ({ dst := some d, op := .binOp .sub t p q t', type := ty, pos := po, after := af, guard := none } :: rest) Q ⟨T, H, D, n⟩ := Z2 (w0 rfl) hd (Z8 rfl hp hq (Ze hz)) h
theorem zcL {u v : Int} (h : Calm P ops H0 KK (kk + 1) rest M ⟨(d, .v (.int .i64 (u - v))) :: T, H, D, n⟩) (hp : ev T p = some (.v (.int .i64 u)) := by rfl) (hq : ev T q = some (.v (.int .i64 v)) := by rfl) (hz : -9223372036854775808 ≤ u - v ∧ u - v ≤ 9223372036854775807 := by first | omega | decide +kernel) (hd : Nat.blt d n = true := by rfl) : Calm P ops H0 KK kk ({ dst := some d, op := .binOp .sub t p q t', type := ty, pos := po, after := af, guard := none } :: rest) M ⟨T, H, D, n⟩ := Za (w0 rfl) hd (Z8 rfl hp hq (Ze hz)) h
theorem Ziy {u v : Int} {g gt : Nat} {gb : Bool} {og : Oper} (h : Calm P ops H0 KK (kk + 1) rest M ⟨(d, .v (.int .i64 (u - v))) :: T, H, D, n⟩) (g1 : ops[g]? = some og := by rfl) (g2 : og.dst = some gt := by rfl) (g3 : lk T gt = some (.v (.bool gb)) := by rfl) (hp : ev T p = some (.v (.int .i64 u)) := by rfl) (hq : ev T q = some (.v (.int .i64 v)) := by rfl) (hz : -9223372036854775808 ≤ u - v ∧ u - v ≤ 9223372036854775807 := by first | omega | decide +kernel) (hd : Nat.blt d n = true := by rfl) : Calm P ops H0 KK kk ({ dst := some d, op := .binOp .sub t p q t', type := ty, pos := po, after := af, guard := some (g, gb) } :: rest) M ⟨T, H, D, n⟩ := Za (wY rfl g1 g2 g3) hd (Z8 rfl hp hq (Ze hz)) h
theorem zgL {u v : Int} {g gt : Nat} {gb : Bool} {og : Oper} (h : AOps P ro ops rest Q ⟨(d, .v (.int .i64 (u - v))) :: T, H, D, n⟩) (g1 : ops[g]? = some og := by rfl) (g2 : og.dst = some gt := by rfl) (g3 : lk T gt = some (.v (.bool gb)) := by rfl) (hp : ev T p = some (.v (.int .i64 u)) := by rfl) (hq : ev T q = some (.v (.int .i64 v)) := by rfl) (hz : -9223372036854775808 ≤ u - v ∧ u - v ≤ 9223372036854775807 := by first | omega | decide +kernel) (hd : Nat.blt d n = true := by rfl) : AOps P ro ops ({ dst := some d, op := .binOp .sub t p q t', type := ty, pos := po, after := af, guard := some (g, gb) } :: rest) Q ⟨T, H, D, n⟩ := Z2 (wY rfl g1 g2 g3) hd (Z8 rfl hp hq (Ze hz)) h
theorem zNt {u : Bool} (h : AOps P ro ops rest Q ⟨(d, .v (.bool (!u))) :: T, H, D, n⟩) (hp : ev T p = some (.v (.bool u)) := by rfl) (hd : Nat.blt d n = true := by rfl) : AOps P ro ops ({ dst := some d, op := .unOp .not t p, type := ty, pos := po, after := af, guard := none } :: rest) Q ⟨T, H, D, n⟩ := Z2 (w0 rfl) hd (Z0l rfl hp) h
theorem Zgd {u : Bool} (h : Calm P ops H0 KK (kk + 1) rest M ⟨(d, .v (.bool (!u))) :: T, H, D, n⟩) (hp : ev T p = some (.v (.bool u)) := by rfl) (hd : Nat.blt d n = true := by rfl) : Calm P ops H0 KK kk ({ dst := some d, op := .unOp .not t p, type := ty, pos := po, after := af, guard := none } :: rest) M ⟨T, H, D, n⟩ := Za (w0 rfl) hd (Z0l rfl hp) h
theorem Zab {u : Bool} {g gt : Nat} {gb : Bool} {og : Oper} (h : Calm P ops H0 KK (kk + 1) rest M ⟨(d, .v (.bool (!u))) :: T, H, D, n⟩) (g1 : ops[g]? = some og := by rfl) (g2 : og.dst = some gt := by rfl) (g3 : lk T gt = some (.v (.bool gb)) := by rfl) (hp : ev T p = some (.v (.bool u)) := by rfl) (hd : Nat.blt d n = true := by rfl) : Calm P ops H0 KK kk ({ dst := some d, op := .unOp .not t p, type := ty, pos := po, after := af, guard := some (g, gb) } :: rest) M ⟨T, H, D, n⟩ := Za (wY rfl g1 g2 g3) hd (Z0l rfl hp) h
theorem Zjh {u : Bool} {g gt : Nat} {gb : Bool} {og : Oper} (h : AOps P ro ops rest Q ⟨(d, .v (.bool (!u))) :: T, H, D, n⟩) (g1 : ops[g]? = some og := by rfl) (g2 : og.dst = some gt := by rfl) (g3 : lk T gt = some (.v (.bool gb)) := by rfl) (hp : ev T p = some (.v (.bool u)) := by rfl) (hd : Nat.blt d n = true := by rfl) : AOps P ro ops ({ dst := some d, op := .unOp .not t p, type := ty, pos := po, after := af, guard := some (g, gb) } :: rest) Q ⟨T, H, D, n⟩ := Z2 (wY rfl g1 g2 g3) hd (Z0l rfl hp) h
theorem zPT {c : Operand} (h : AOps P ro ops rest Q ⟨(d, x) :: T, H, D, n⟩) (hc : ev T c = some (.v (.bool true)) := by rfl) (hp : ev T p = some x := by rfl) (hq : ev T q = some y := by rfl) (hd : Nat.blt d n = true := by rfl) : AOps P ro ops ({ dst := some d, op := .pick c p q, type := ty, pos := po, after := af, guard := none } :: rest) Q ⟨T, H, D, n⟩ := Z2 (w0 rfl) hd (Z17 (t := true) rfl hc hp hq) h
theorem Z6o {c : Operand} (h : Calm P ops H0 KK (kk + 1) rest M ⟨(d, x) :: T, H, D, n⟩) (hc : ev T c = some (.v (.bool true)) := by rfl) (hp : ev T p = some x := by rfl) (hq : ev T q = some y := by rfl) (hd : Nat.blt d n = true := by rfl) : Calm P ops H0 KK kk ({ dst := some d, op := .pick c p q, type := ty, pos := po, after := af, guard := none } :: rest) M ⟨T, H, D, n⟩ := Za (w0 rfl) hd (Z17 (t := true) rfl hc hp hq) h
theorem Z29 {c : Operand} {g gt : Nat} {gb : Bool} {og : Oper} (h : Calm P ops H0 KK (kk + 1) rest M ⟨(d, x) :: T, H, D, n⟩) (g1 : ops[g]? = some og := by rfl) (g2 : og.dst = some gt := by rfl) (g3 : lk T gt = some (.v (.bool gb)) := by rfl) (hc : ev T c = some (.v (.bool true)) := by rfl) (hp : ev T p = some x := by rfl) (hq : ev T q = some y := by rfl) (hd : Nat.blt d n = true := by rfl) : Calm P ops H0 KK kk ({ dst := some d, op := .pick c p q, type := ty, pos := po, after := af, guard := some (g, gb) } :: rest) M ⟨T, H, D, n⟩ := Za (wY rfl g1 g2 g3) hd (Z17 (t := true) rfl hc hp hq) h
theorem Zjj {c : Operand} {g gt : Nat} {gb : Bool} {og : Oper} (h : AOps P ro ops rest Q ⟨(d, x) :: T, H, D, n⟩) (g1 : ops[g]? = some og := by rfl) (g2 : og.dst = some gt := by rfl) (g3 : lk T gt = some (.v (.bool gb)) := by rfl) (hc : ev T c = some (.v (.bool true)) := by rfl) (hp : ev T p = some x := by rfl) (hq : ev T q = some y := by rfl) (hd : Nat.blt d n = true := by rfl) : AOps P ro ops ({ dst := some d, op := .pick c p q, type := ty, pos := po, after := af, guard := some (g, gb) } :: rest) Q ⟨T, H, D, n⟩ := Z2 (wY rfl g1 g2 g3) hd (Z17 (t := true) rfl hc hp hq) h
theorem zPF {c : Operand} (h : AOps P ro ops rest Q ⟨(d, x) :: T, H, D, n⟩) (hc : ev T c = some (.v (.bool false)) := by rfl) (hp : ev T p = some y := by rfl) (hq : ev T q = some x := by rfl) (hd : Nat.blt d n = true := by rfl) : AOps P ro ops ({ dst := some d, op := .pick c p q, type := ty, pos := po, after := af, guard := none } :: rest) Q ⟨T, H, D, n⟩ := Z2 (w0 rfl) hd (Z17 (t := false) rfl hc hp hq) h
theorem Z6m {c : Operand} (h : Calm P ops H0 KK (kk + 1) rest M ⟨(d, x) :: T, H, D, n⟩) (hc : ev T c = some (.v (.bool false)) := by rfl) (hp : ev T p = some y := by rfl) (hq : ev T q = some x := by rfl) (hd : Nat.blt d n = true := by rfl) : Calm P ops H0 KK kk ({ dst := some d, op := .pick c p q, type := ty, pos := po, after := af, guard := none } :: rest) M ⟨T, H, D, n⟩ := Za (w0 rfl) hd (Z17 (t := false) rfl hc hp hq) h
theorem Z28 {c : Operand} {g gt : Nat} {gb : Bool} {og : Oper} (h : Calm P ops H0 KK (kk + 1) rest M ⟨(d, x) :: T, H, D, n⟩) (g1 : ops[g]? = some og := by rfl) (g2 : og.dst = some gt := by rfl) (g3 : lk T gt = some (.v (.bool gb)) := by rfl) (hc : ev T c = some (.v (.bool false)) := by rfl) (hp : ev T p = some y := by rfl) (hq : ev T q = some x := by rfl) (hd : Nat.blt d n = true := by rfl) : Calm P ops H0 KK kk ({ dst := some d, op := .pick c p q, type := ty, pos := po, after := af, guard := some (g, gb) } :: rest) M ⟨T, H, D, n⟩ := Za (wY rfl g1 g2 g3) hd (Z17 (t := false) rfl hc hp hq) h
theorem Zji {c : Operand} {g gt : Nat} {gb : Bool} {og : Oper} (h : AOps P ro ops rest Q ⟨(d, x) :: T, H, D, n⟩) (g1 : ops[g]? = some og := by rfl) (g2 : og.dst = some gt := by rfl) (g3 : lk T gt = some (.v (.bool gb)) := by rfl) (hc : ev T c = some (.v (.bool false)) := by rfl) (hp : ev T p = some y := by rfl) (hq : ev T q = some x := by rfl) (hd : Nat.blt d n = true := by rfl) : AOps P ro ops ({ dst := some d, op := .pick c p q, type := ty, pos := po, after := af, guard := some (g, gb) } :: rest) Q ⟨T, H, D, n⟩ := Z2 (wY rfl g1 g2 g3) hd (Z17 (t := false) rfl hc hp hq) h
theorem zLn {td : TypeDesc} {m : Nat} (h : AOps P ro ops rest Q ⟨(d, .v (.int .i64 (m : Int))) :: T, H, D, n⟩) (hp : ev T p = some x := by rfl) (hx : lenA x = some m := by rfl) [hu : UD P t td] (hlt : lenT x td = true := by rfl) (hd : Nat.blt d n = true := by rfl) : AOps P ro ops ({ dst := some d, op := .call { callee := .builtin .len, args := #[p], argTypes := #[t] }, type := ty, pos := po, after := af, guard := none } :: rest) Q ⟨T, H, D, n⟩ := Z2 (w0 rfl) hd (Z38 rfl hp hx hlt) h
theorem Zip {td : TypeDesc} {m : Nat} (h : Calm P ops H0 KK (kk + 1) rest M ⟨(d, .v (.int .i64 (m : Int))) :: T, H, D, n⟩) (hp : ev T p = some x := by rfl) (hx : lenA x = some m := by rfl) [hu : UD P t td] (hlt : lenT x td = true := by rfl) (hd : Nat.blt d n = true := by rfl) : Calm P ops H0 KK kk ({ dst := some d, op := .call { callee := .builtin .len, args := #[p], argTypes := #[t] }, type := ty, pos := po, after := af, guard := none } :: rest) M ⟨T, H, D, n⟩ := Za (w0 rfl) hd (Z38 rfl hp hx hlt) h
theorem Zht {td : TypeDesc} {m : Nat} {g gt : Nat} {gb : Bool} {og : Oper} (h : Calm P ops H0 KK (kk + 1) rest M ⟨(d, .v (.int .i64 (m : Int))) :: T, H, D, n⟩) (g1 : ops[g]? = some og := by rfl) (g2 : og.dst = some gt := by rfl) (g3 : lk T gt = some (.v (.bool gb)) := by rfl) (hp : ev T p = some x := by rfl) (hx : lenA x = some m := by rfl) [hu : UD P t td] (hlt : lenT x td = true := by rfl) (hd : Nat.blt d n = true := by rfl) : Calm P ops H0 KK kk ({ dst := some d, op := .call { callee := .builtin .len, args := #[p], argTypes := #[t] }, type := ty, pos := po, after := af, guard := some (g, gb) } :: rest) M ⟨T, H, D, n⟩ := Za (wY rfl g1 g2 g3) hd (Z38 rfl hp hx hlt) h
theorem Z6n {td : TypeDesc} {m : Nat} {g gt : Nat} {gb : Bool} {og : Oper} (h : AOps P ro ops rest Q ⟨(d, .v (.int .i64 (m : Int))) :: T, H, D, n⟩) (g1 : ops[g]? = some og := by rfl) (g2 : og.dst = some gt := by rfl) (g3 : lk T gt = some (.v (.bool gb)) := by rfl) (hp : ev T p = some x := by rfl) (hx : lenA x = some m := by rfl) [hu : UD P t td] (hlt : lenT x td = true := by rfl) (hd : Nat.blt d n = true := by rfl) : AOps P ro ops ({ dst := some d, op := .call { callee := .builtin .len, args := #[p], argTypes := #[t] }, type := ty, pos := po, after := af, guard := some (g, gb) } :: rest) Q ⟨T, H, D, n⟩ := Z2 (wY rfl g1 g2 g3) hd (Z38 rfl hp hx hlt) h
theorem zEq {ks : List CK} {us vs : List AV} (h : AOps P ro ops rest Q ⟨(d, .v (.bool (ceqs us vs))) :: T, H, D, n⟩) (hp : ev T p = some (.agg us) := by rfl) (hq : ev T q = some (.agg vs) := by rfl) [hq' : EQ P t ks] (hx : us.map ckA = ks.map some := by rfl) (hy : vs.map ckA = ks.map some := by rfl) (hd : Nat.blt d n = true := by rfl) : AOps P ro ops ({ dst := some d, op := .binOp .eql t p q t', type := ty, pos := po, after := af, guard := none } :: rest) Q ⟨T, H, D, n⟩ := Z2 (w0 rfl) hd (Z1q rfl hp hq hx hy) h
theorem Zio {ks : List CK} {us vs : List AV} (h : Calm P ops H0 KK (kk + 1) rest M ⟨(d, .v (.bool (ceqs us vs))) :: T, H, D, n⟩) (hp : ev T p = some (.agg us) := by rfl) (hq : ev T q = some (.agg vs) := by rfl) [hq' : EQ P t ks] (hx : us.map ckA = ks.map some := by rfl) (hy : vs.map ckA = ks.map some := by rfl) (hd : Nat.blt d n = true := by rfl) : Calm P ops H0 KK kk ({ dst := some d, op := .binOp .eql t p q t', type := ty, pos := po, after := af, guard := none } :: rest) M ⟨T, H, D, n⟩ := Za (w0 rfl) hd (Z1q rfl hp hq hx hy) h
theorem Zhs {ks : List CK} {us vs : List AV} {g gt : Nat} {gb : Bool} {og : Oper} (h : Calm P ops H0 KK (kk + 1) rest M ⟨(d, .v (.bool (ceqs us vs))) :: T, H, D, n⟩) (g1 : ops[g]? = some og := by rfl) (g2 : og.dst = some gt := by rfl) (g3 : lk T gt = some (.v (.bool gb)) := by rfl) (hp : ev T p = some (.agg us) := by rfl) (hq : ev T q = some (.agg vs) := by rfl) [hq' : EQ P t ks] (hx : us.map ckA = ks.map some := by rfl) (hy : vs.map ckA = ks.map some := by rfl) (hd : Nat.blt d n = true := by rfl) : Calm P ops H0 KK kk ({ dst := some d, op := .binOp .eql t p q t', type := ty, pos := po, after := af, guard := some (g, gb) } :: rest) M ⟨T, H, D, n⟩ := Za (wY rfl g1 g2 g3) hd (Z1q rfl hp hq hx hy) h
theorem Zje {ks : List CK} {us vs : List AV} {g gt : Nat} {gb : Bool} {og : Oper} (h : AOps P ro ops rest Q ⟨(d, .v (.bool (ceqs us vs))) :: T, H, D, n⟩) (g1 : ops[g]? = some og := by rfl) (g2 : og.dst = some gt := by rfl) (g3 : lk T gt = some (.v (.bool gb)) := by rfl) (hp : ev T p = some (.agg us) := by rfl) (hq : ev T q = some (.agg vs) := by rfl) [hq' : EQ P t ks] (hx : us.map ckA = ks.map some := by rfl) (hy : vs.map ckA = ks.map some := by rfl) (hd : Nat.blt d n = true := by rfl) : AOps P ro ops ({ dst := some d, op := .binOp .eql t p q t', type := ty, pos := po, after := af, guard := some (g, gb) } :: rest) Q ⟨T, H, D, n⟩ := Z2 (wY rfl g1 g2 g3) hd (Z1q rfl hp hq hx hy) h
theorem Zic {ks : List CK} {us vs : List AV} (h : AOps P ro ops rest Q ⟨(d, .v (.bool true)) :: T, H, D, n⟩) (hp : ev T p = some (.agg us) := by rfl) (hq : ev T q = some (.agg vs) := by rfl) [hq' : EQ P t ks] (hx : us.map ckA = ks.map some := by rfl) (hy : vs.map ckA = ks.map some := by rfl) (hz : ceqs us vs = true := by decide +kernel) (hd : Nat.blt d n = true := by rfl) : AOps P ro ops ({ dst := some d, op := .binOp .eql t p q t', type := ty, pos := po, after := af, guard := none } :: rest) Q ⟨T, H, D, n⟩ := Z2 (w0 rfl) hd (hz ▸ Z1q rfl hp hq hx hy) h
theorem Zhe {ks : List CK} {us vs : List AV} (h : Calm P ops H0 KK (kk + 1) rest M ⟨(d, .v (.bool true)) :: T, H, D, n⟩) (hp : ev T p = some (.agg us) := by rfl) (hq : ev T q = some (.agg vs) := by rfl) [hq' : EQ P t ks] (hx : us.map ckA = ks.map some := by rfl) (hy : vs.map ckA = ks.map some := by rfl) (hz : ceqs us vs = true := by decide +kernel) (hd : Nat.blt d n = true := by rfl) : Calm P ops H0 KK kk ({ dst := some d, op := .binOp .eql t p q t', type := ty, pos := po, after := af, guard := none } :: rest) M ⟨T, H, D, n⟩ := Za (w0 rfl) hd (hz ▸ Z1q rfl hp hq hx hy) h
theorem Zh6 {ks : List CK} {us vs : List AV} {g gt : Nat} {gb : Bool} {og : Oper} (h : Calm P ops H0 KK (kk + 1) rest M ⟨(d, .v (.bool true)) :: T, H, D, n⟩) (g1 : ops[g]? = some og := by rfl) (g2 : og.dst = some gt := by rfl) (g3 : lk T gt = some (.v (.bool gb)) := by rfl) (hp : ev T p = some (.agg us) := by rfl) (hq : ev T q = some (.agg vs) := by rfl) [hq' : EQ P t ks] (hx : us.map ckA = ks.map some := by rfl) (hy : vs.map ckA = ks.map some := by rfl) (hz : ceqs us vs = true := by decide +kernel) (hd : Nat.blt d n = true := by rfl) : Calm P ops H0 KK kk ({ dst := some d, op := .binOp .eql t p q t', type := ty, pos := po, after := af, guard := some (g, gb) } :: rest) M ⟨T, H, D, n⟩ := Za (wY rfl g1 g2 g3) hd (hz ▸ Z1q rfl hp hq hx hy) h
theorem Zi2 {ks : List CK} {us vs : List AV} {g gt : Nat} {gb : Bool} {og : Oper} (h : AOps P ro ops rest Q ⟨(d, .v (.bool true)) :: T, H, D, n⟩) (g1 : ops[g]? = some og := by rfl) (g2 : og.dst = some gt := by rfl) (g3 : lk T gt = some (.v (.bool gb)) := by rfl) (hp : ev T p = some (.agg us) := by rfl) (hq : ev T q = some (.agg vs) := by rfl) [hq' : EQ P t ks] (hx : us.map ckA = ks.map some := by rfl) (hy : vs.map ckA = ks.map some := by rfl) (hz : ceqs us vs = true := by decide +kernel) (hd : Nat.blt d n = true := by rfl) : AOps P ro ops ({ dst := some d, op := .binOp .eql t p q t', type := ty, pos := po, after := af, guard := some (g, gb) } :: rest) Q ⟨T, H, D, n⟩ := Z2 (wY rfl g1 g2 g3) hd (hz ▸ Z1q rfl hp hq hx hy) h
theorem Zib {ks : List CK} {us vs : List AV} (h : AOps P ro ops rest Q ⟨(d, .v (.bool false)) :: T, H, D, n⟩) (hp : ev T p = some (.agg us) := by rfl) (hq : ev T q = some (.agg vs) := by rfl) [hq' : EQ P t ks] (hx : us.map ckA = ks.map some := by rfl) (hy : vs.map ckA = ks.map some := by rfl) (hz : ceqs us vs = false := by decide +kernel) (hd : Nat.blt d n = true := by rfl) : AOps P ro ops ({ dst := some d, op := .binOp .eql t p q t', type := ty, pos := po, after := af, guard := none } :: rest) Q ⟨T, H, D, n⟩ := Z2 (w0 rfl) hd (hz ▸ Z1q rfl hp hq hx hy) h
theorem Zhd {ks : List CK} {us vs : List AV} (h : Calm P ops H0 KK (kk + 1) rest M ⟨(d, .v (.bool false)) :: T, H, D, n⟩) (hp : ev T p = some (.agg us) := by rfl) (hq : ev T q = some (.agg vs) := by rfl) [hq' : EQ P t ks] (hx : us.map ckA = ks.map some := by rfl) (hy : vs.map ckA = ks.map some := by rfl) (hz : ceqs us vs = false := by decide +kernel) (hd : Nat.blt d n = true := by rfl) : Calm P ops H0 KK kk ({ dst := some d, op := .binOp .eql t p q t', type := ty, pos := po, after := af, guard := none } :: rest) M ⟨T, H, D, n⟩ := Za (w0 rfl) hd (hz ▸ Z1q rfl hp hq hx hy) h
theorem Zh5 {ks : List CK} {us vs : List AV} {g gt : Nat} {gb : Bool} {og : Oper} (h : Calm P ops H0 KK (kk + 1) rest M ⟨(d, .v (.bool false)) :: T, H, D, n⟩) (g1 : ops[g]? = some og := by rfl) (g2 : og.dst = some gt := by rfl) (g3 : lk T gt = some (.v (.bool gb)) := by rfl) (hp : ev T p = some (.agg us) := by rfl) (hq : ev T q = some (.agg vs) := by rfl) [hq' : EQ P t ks] (hx : us.map ckA = ks.map some := by rfl) (hy : vs.map ckA = ks.map some := by rfl) (hz : ceqs us vs = false := by decide +kernel) (hd : Nat.blt d n = true := by rfl) : Calm P ops H0 KK kk ({ dst := some d, op := .binOp .eql t p q t', type := ty, pos := po, after := af, guard := some (g, gb) } :: rest) M ⟨T, H, D, n⟩ := Za (wY rfl g1 g2 g3) hd (hz ▸ Z1q rfl hp hq hx hy) h
theorem Zi1 {ks : List CK} {us vs : List AV} {g gt : Nat} {gb : Bool} {og : Oper} (h : AOps P ro ops rest Q ⟨(d, .v (.bool false)) :: T, H, D, n⟩) (g1 : ops[g]? = some og := by rfl) (g2 : og.dst = some gt := by rfl) (g3 : lk T gt = some (.v (.bool gb)) := by rfl) (hp : ev T p = some (.agg us) := by rfl) (hq : ev T q = some (.agg vs) := by rfl) [hq' : EQ P t ks] (hx : us.map ckA = ks.map some := by rfl) (hy : vs.map ckA = ks.map some := by rfl) (hz : ceqs us vs = false := by decide +kernel) (hd : Nat.blt d n = true := by rfl) : AOps P ro ops ({ dst := some d, op := .binOp .eql t p q t', type := ty, pos := po, after := af, guard := some (g, gb) } :: rest) Q ⟨T, H, D, n⟩ := Z2 (wY rfl g1 g2 g3) hd (hz ▸ Z1q rfl hp hq hx hy) h
theorem Zia {u v : ByteArray} (h : AOps P ro ops rest Q ⟨(d, .v (.string (u ++ v))) :: T, H, D, n⟩) (hp : ev T p = some (.v (.string u)) := by rfl) (hq : ev T q = some (.v (.string v)) := by rfl) (hz : u.size + v.size ≤ 9223372036854775807 := by decide +kernel) (hd : Nat.blt d n = true := by rfl) : AOps P ro ops ({ dst := some d, op := .binOp .add t p q t', type := ty, pos := po, after := af, guard := none } :: rest) Q ⟨T, H, D, n⟩ := Z2 (w0 rfl) hd (Z2h rfl hp hq hz) h
theorem Zhc {u v : ByteArray} (h : Calm P ops H0 KK (kk + 1) rest M ⟨(d, .v (.string (u ++ v))) :: T, H, D, n⟩) (hp : ev T p = some (.v (.string u)) := by rfl) (hq : ev T q = some (.v (.string v)) := by rfl) (hz : u.size + v.size ≤ 9223372036854775807 := by decide +kernel) (hd : Nat.blt d n = true := by rfl) : Calm P ops H0 KK kk ({ dst := some d, op := .binOp .add t p q t', type := ty, pos := po, after := af, guard := none } :: rest) M ⟨T, H, D, n⟩ := Za (w0 rfl) hd (Z2h rfl hp hq hz) h
theorem Zh4 {u v : ByteArray} {g gt : Nat} {gb : Bool} {og : Oper} (h : Calm P ops H0 KK (kk + 1) rest M ⟨(d, .v (.string (u ++ v))) :: T, H, D, n⟩) (g1 : ops[g]? = some og := by rfl) (g2 : og.dst = some gt := by rfl) (g3 : lk T gt = some (.v (.bool gb)) := by rfl) (hp : ev T p = some (.v (.string u)) := by rfl) (hq : ev T q = some (.v (.string v)) := by rfl) (hz : u.size + v.size ≤ 9223372036854775807 := by decide +kernel) (hd : Nat.blt d n = true := by rfl) : Calm P ops H0 KK kk ({ dst := some d, op := .binOp .add t p q t', type := ty, pos := po, after := af, guard := some (g, gb) } :: rest) M ⟨T, H, D, n⟩ := Za (wY rfl g1 g2 g3) hd (Z2h rfl hp hq hz) h
theorem Zi0 {u v : ByteArray} {g gt : Nat} {gb : Bool} {og : Oper} (h : AOps P ro ops rest Q ⟨(d, .v (.string (u ++ v))) :: T, H, D, n⟩) (g1 : ops[g]? = some og := by rfl) (g2 : og.dst = some gt := by rfl) (g3 : lk T gt = some (.v (.bool gb)) := by rfl) (hp : ev T p = some (.v (.string u)) := by rfl) (hq : ev T q = some (.v (.string v)) := by rfl) (hz : u.size + v.size ≤ 9223372036854775807 := by decide +kernel) (hd : Nat.blt d n = true := by rfl) : AOps P ro ops ({ dst := some d, op := .binOp .add t p q t', type := ty, pos := po, after := af, guard := some (g, gb) } :: rest) Q ⟨T, H, D, n⟩ := Z2 (wY rfl g1 g2 g3) hd (Z2h rfl hp hq hz) h
theorem zCv {k k' : IntKind} {u : Int} {td : TypeDesc} (h : AOps P ro ops rest Q ⟨(d, .v (.int k' u)) :: T, H, D, n⟩) (hp : ev T p = some (.v (.int k u)) := by rfl) [hu : UD P t td] [hu' : UD P t' (.int k')] (hz : k'.wrap u = u := by first | decide +kernel | rfl) (hd : Nat.blt d n = true := by rfl) : AOps P ro ops ({ dst := some d, op := .convert t t' p, type := ty, pos := po, after := af, guard := none } :: rest) Q ⟨T, H, D, n⟩ := Z2 (w0 rfl) hd (hz.symm ▸ Z02 rfl hp) h
theorem Zin {k k' : IntKind} {u : Int} {td : TypeDesc} (h : Calm P ops H0 KK (kk + 1) rest M ⟨(d, .v (.int k' u)) :: T, H, D, n⟩) (hp : ev T p = some (.v (.int k u)) := by rfl) [hu : UD P t td] [hu' : UD P t' (.int k')] (hz : k'.wrap u = u := by first | decide +kernel | rfl) (hd : Nat.blt d n = true := by rfl) : Calm P ops H0 KK kk ({ dst := some d, op := .convert t t' p, type := ty, pos := po, after := af, guard := none } :: rest) M ⟨T, H, D, n⟩ := Za (w0 rfl) hd (hz.symm ▸ Z02 rfl hp) h
theorem Zhr {k k' : IntKind} {u : Int} {td : TypeDesc} {g gt : Nat} {gb : Bool} {og : Oper} (h : Calm P ops H0 KK (kk + 1) rest M ⟨(d, .v (.int k' u)) :: T, H, D, n⟩) (g1 : ops[g]? = some og := by rfl) (g2 : og.dst = some gt := by rfl) (g3 : lk T gt = some (.v (.bool gb)) := by rfl) (hp : ev T p = some (.v (.int k u)) := by rfl) [hu : UD P t td] [hu' : UD P t' (.int k')] (hz : k'.wrap u = u := by first | decide +kernel | rfl) (hd : Nat.blt d n = true := by rfl) : Calm P ops H0 KK kk ({ dst := some d, op := .convert t t' p, type := ty, pos := po, after := af, guard := some (g, gb) } :: rest) M ⟨T, H, D, n⟩ := Za (wY rfl g1 g2 g3) hd (hz.symm ▸ Z02 rfl hp) h
theorem Zjd {k k' : IntKind} {u : Int} {td : TypeDesc} {g gt : Nat} {gb : Bool} {og : Oper} (h : AOps P ro ops rest Q ⟨(d, .v (.int k' u)) :: T, H, D, n⟩) (g1 : ops[g]? = some og := by rfl) (g2 : og.dst = some gt := by rfl) (g3 : lk T gt = some (.v (.bool gb)) := by rfl) (hp : ev T p = some (.v (.int k u)) := by rfl) [hu : UD P t td] [hu' : UD P t' (.int k')] (hz : k'.wrap u = u := by first | decide +kernel | rfl) (hd : Nat.blt d n = true := by rfl) : AOps P ro ops ({ dst := some d, op := .convert t t' p, type := ty, pos := po, after := af, guard := some (g, gb) } :: rest) Q ⟨T, H, D, n⟩ := Z2 (wY rfl g1 g2 g3) hd (hz.symm ▸ Z02 rfl hp) h
theorem zSx {k : IntKind} {u : ByteArray} {i : Int} (h : AOps P ro ops rest Q ⟨(d, .v (.int .u8 (byteAt u i))) :: T, H, D, n⟩) (hp : ev T p = some (.v (.string u)) := by rfl) (hq : ev T q = some (.v (.int k i)) := by rfl) [hu : UD P t .string] (h0 : 0 ≤ i := by first | decide +kernel | omega) (h1 : i < u.size := by first | decide +kernel | omega) (hd : Nat.blt d n = true := by rfl) : AOps P ro ops ({ dst := some d, op := .index t p q, type := ty, pos := po, after := af, guard := none } :: rest) Q ⟨T, H, D, n⟩ := Z2 (w0 rfl) hd (Z18 rfl hp hq h0 h1) h
theorem Zir {k : IntKind} {u : ByteArray} {i : Int} (h : Calm P ops H0 KK (kk + 1) rest M ⟨(d, .v (.int .u8 (byteAt u i))) :: T, H, D, n⟩) (hp : ev T p = some (.v (.string u)) := by rfl) (hq : ev T q = some (.v (.int k i)) := by rfl) [hu : UD P t .string] (h0 : 0 ≤ i := by first | decide +kernel | omega) (h1 : i < u.size := by first | decide +kernel | omega) (hd : Nat.blt d n = true := by rfl) : Calm P ops H0 KK kk ({ dst := some d, op := .index t p q, type := ty, pos := po, after := af, guard := none } :: rest) M ⟨T, H, D, n⟩ := Za (w0 rfl) hd (Z18 rfl hp hq h0 h1) h
theorem Zhw {k : IntKind} {u : ByteArray} {i : Int} {g gt : Nat} {gb : Bool} {og : Oper} (h : Calm P ops H0 KK (kk + 1) rest M ⟨(d, .v (.int .u8 (byteAt u i))) :: T, H, D, n⟩) (g1 : ops[g]? = some og := by rfl) (g2 : og.dst = some gt := by rfl) (g3 : lk T gt = some (.v (.bool gb)) := by rfl) (hp : ev T p = some (.v (.string u)) := by rfl) (hq : ev T q = some (.v (.int k i)) := by rfl) [hu : UD P t .string] (h0 : 0 ≤ i := by first | decide +kernel | omega) (h1 : i < u.size := by first | decide +kernel | omega) (hd : Nat.blt d n = true := by rfl) : Calm P ops H0 KK kk ({ dst := some d, op := .index t p q, type := ty, pos := po, after := af, guard := some (g, gb) } :: rest) M ⟨T, H, D, n⟩ := Za (wY rfl g1 g2 g3) hd (Z18 rfl hp hq h0 h1) h
theorem Zjk {k : IntKind} {u : ByteArray} {i : Int} {g gt : Nat} {gb : Bool} {og : Oper} (h : AOps P ro ops rest Q ⟨(d, .v (.int .u8 (byteAt u i))) :: T, H, D, n⟩) (g1 : ops[g]? = some og := by rfl) (g2 : og.dst = some gt := by rfl) (g3 : lk T gt = some (.v (.bool gb)) := by rfl) (hp : ev T p = some (.v (.string u)) := by rfl) (hq : ev T q = some (.v (.int k i)) := by rfl) [hu : UD P t .string] (h0 : 0 ≤ i := by first | decide +kernel | omega) (h1 : i < u.size := by first | decide +kernel | omega) (hd : Nat.blt d n = true := by rfl) : AOps P ro ops ({ dst := some d, op := .index t p q, type := ty, pos := po, after := af, guard := some (g, gb) } :: rest) Q ⟨T, H, D, n⟩ := Z2 (wY rfl g1 g2 g3) hd (Z18 rfl hp hq h0 h1) h
theorem zNe {ks : List CK} {us vs : List AV} (h : AOps P ro ops rest Q ⟨(d, .v (.bool (!(ceqs us vs)))) :: T, H, D, n⟩) (hp : ev T p = some (.agg us) := by rfl) (hq : ev T q = some (.agg vs) := by rfl) [hq' : EQ P t ks] (hx : us.map ckA = ks.map some := by rfl) (hy : vs.map ckA = ks.map some := by rfl) (hd : Nat.blt d n = true := by rfl) : AOps P ro ops ({ dst := some d, op := .binOp .neq t p q t', type := ty, pos := po, after := af, guard := none } :: rest) Q ⟨T, H, D, n⟩ := Z2 (w0 rfl) hd (Z5y rfl hp hq hx hy) h
theorem Zhf {ks : List CK} {us vs : List AV} (h : Calm P ops H0 KK (kk + 1) rest M ⟨(d, .v (.bool (!(ceqs us vs)))) :: T, H, D, n⟩) (hp : ev T p = some (.agg us) := by rfl) (hq : ev T q = some (.agg vs) := by rfl) [hq' : EQ P t ks] (hx : us.map ckA = ks.map some := by rfl) (hy : vs.map ckA = ks.map some := by rfl) (hd : Nat.blt d n = true := by rfl) : Calm P ops H0 KK kk ({ dst := some d, op := .binOp .neq t p q t', type := ty, pos := po, after := af, guard := none } :: rest) M ⟨T, H, D, n⟩ := Za (w0 rfl) hd (Z5y rfl hp hq hx hy) h
theorem Zhv {ks : List CK} {us vs : List AV} {g gt : Nat} {gb : Bool} {og : Oper} (h : Calm P ops H0 KK (kk + 1) rest M ⟨(d, .v (.bool (!(ceqs us vs)))) :: T, H, D, n⟩) (g1 : ops[g]? = some og := by rfl) (g2 : og.dst = some gt := by rfl) (g3 : lk T gt = some (.v (.bool gb)) := by rfl) (hp : ev T p = some (.agg us) := by rfl) (hq : ev T q = some (.agg vs) := by rfl) [hq' : EQ P t ks] (hx : us.map ckA = ks.map some := by rfl) (hy : vs.map ckA = ks.map some := by rfl) (hd : Nat.blt d n = true := by rfl) : Calm P ops H0 KK kk ({ dst := some d, op := .binOp .neq t p q t', type := ty, pos := po, after := af, guard := some (g, gb) } :: rest) M ⟨T, H, D, n⟩ := Za (wY rfl g1 g2 g3) hd (Z5y rfl hp hq hx hy) h
theorem Zjg {ks : List CK} {us vs : List AV} {g gt : Nat} {gb : Bool} {og : Oper} (h : AOps P ro ops rest Q ⟨(d, .v (.bool (!(ceqs us vs)))) :: T, H, D, n⟩) (g1 : ops[g]? = some og := by rfl) (g2 : og.dst = some gt := by rfl) (g3 : lk T gt = some (.v (.bool gb)) := by rfl) (hp : ev T p = some (.agg us) := by rfl) (hq : ev T q = some (.agg vs) := by rfl) [hq' : EQ P t ks] (hx : us.map ckA = ks.map some := by rfl) (hy : vs.map ckA = ks.map some := by rfl) (hd : Nat.blt d n = true := by rfl) : AOps P ro ops ({ dst := some d, op := .binOp .neq t p q t', type := ty, pos := po, after := af, guard := some (g, gb) } :: rest) Q ⟨T, H, D, n⟩ := Z2 (wY rfl g1 g2 g3) hd (Z5y rfl hp hq hx hy) h
theorem zX {i : Nat} {cs : List AV} (h : AOps P ro ops rest Q ⟨(d, x) :: T, H, D, n⟩) (hp : ev T p = some (.tup cs) := by rfl) (hx : cs[i]? = some x := by rfl) (hd : Nat.blt d n = true := by rfl) : AOps P ro ops ({ dst := some d, op := .extract p i, type := ty, pos := po, after := af, guard := none } :: rest) Q ⟨T, H, D, n⟩ := Z2 (w0 rfl) hd (Zs rfl hp hx) h
theorem zcX {i : Nat} {cs : List AV} (h : Calm P ops H0 KK (kk + 1) rest M ⟨(d, x) :: T, H, D, n⟩) (hp : ev T p = some (.tup cs) := by rfl) (hx : cs[i]? = some x := by rfl) (hd : Nat.blt d n = true := by rfl) : Calm P ops H0 KK kk ({ dst := some d, op := .extract p i, type := ty, pos := po, after := af, guard := none } :: rest) M ⟨T, H, D, n⟩ := Za (w0 rfl) hd (Zs rfl hp hx) h
theorem Zj0 {i : Nat} {cs : List AV} {g gt : Nat} {gb : Bool} {og : Oper} (h : Calm P ops H0 KK (kk + 1) rest M ⟨(d, x) :: T, H, D, n⟩) (g1 : ops[g]? = some og := by rfl) (g2 : og.dst = some gt := by rfl) (g3 : lk T gt = some (.v (.bool gb)) := by rfl) (hp : ev T p = some (.tup cs) := by rfl) (hx : cs[i]? = some x := by rfl) (hd : Nat.blt d n = true := by rfl) : Calm P ops H0 KK kk ({ dst := some d, op := .extract p i, type := ty, pos := po, after := af, guard := some (g, gb) } :: rest) M ⟨T, H, D, n⟩ := Za (wY rfl g1 g2 g3) hd (Zs rfl hp hx) h
theorem zgX {i : Nat} {cs : List AV} {g gt : Nat} {gb : Bool} {og : Oper} (h : AOps P ro ops rest Q ⟨(d, x) :: T, H, D, n⟩) (g1 : ops[g]? = some og := by rfl) (g2 : og.dst = some gt := by rfl) (g3 : lk T gt = some (.v (.bool gb)) := by rfl) (hp : ev T p = some (.tup cs) := by rfl) (hx : cs[i]? = some x := by rfl) (hd : Nat.blt d n = true := by rfl) : AOps P ro ops ({ dst := some d, op := .extract p i, type := ty, pos := po, after := af, guard := some (g, gb) } :: rest) Q ⟨T, H, D, n⟩ := Z2 (wY rfl g1 g2 g3) hd (Zs rfl hp hx) h
theorem zF {f off ft : Nat} (h : AOps P ro ops rest Q ⟨(d, x) :: T, H, D, n⟩) (hp : ev T p = some y := by rfl) [hf : FO P t f off ft] (hz : plus y off = some x := by rfl) (hd : Nat.blt d n = true := by rfl) : AOps P ro ops ({ dst := some d, op := .fieldAddr t p f, type := ty, pos := po, after := af, guard := none } :: rest) Q ⟨T, H, D, n⟩ := Z2 (w0 rfl) hd (Z1k rfl hp hz) h
theorem zcF {f off ft : Nat} (h : Calm P ops H0 KK (kk + 1) rest M ⟨(d, x) :: T, H, D, n⟩) (hp : ev T p = some y := by rfl) [hf : FO P t f off ft] (hz : plus y off = some x := by rfl) (hd : Nat.blt d n = true := by rfl) : Calm P ops H0 KK kk ({ dst := some d, op := .fieldAddr t p f, type := ty, pos := po, after := af, guard := none } :: rest) M ⟨T, H, D, n⟩ := Za (w0 rfl) hd (Z1k rfl hp hz) h
theorem Zaa {f off ft : Nat} {g gt : Nat} {gb : Bool} {og : Oper} (h : Calm P ops H0 KK (kk + 1) rest M ⟨(d, x) :: T, H, D, n⟩) (g1 : ops[g]? = some og := by rfl) (g2 : og.dst = some gt := by rfl) (g3 : lk T gt = some (.v (.bool gb)) := by rfl) (hp : ev T p = some y := by rfl) [hf : FO P t f off ft] (hz : plus y off = some x := by rfl) (hd : Nat.blt d n = true := by rfl) : Calm P ops H0 KK kk ({ dst := some d, op := .fieldAddr t p f, type := ty, pos := po, after := af, guard := some (g, gb) } :: rest) M ⟨T, H, D, n⟩ := Za (wY rfl g1 g2 g3) hd (Z1k rfl hp hz) h
theorem zgF {f off ft : Nat} {g gt : Nat} {gb : Bool} {og : Oper} (h : AOps P ro ops rest Q ⟨(d, x) :: T, H, D, n⟩) (g1 : ops[g]? = some og := by rfl) (g2 : og.dst = some gt := by rfl) (g3 : lk T gt = some (.v (.bool gb)) := by rfl) (hp : ev T p = some y := by rfl) [hf : FO P t f off ft] (hz : plus y off = some x := by rfl) (hd : Nat.blt d n = true := by rfl) : AOps P ro ops ({ dst := some d, op := .fieldAddr t p f, type := ty, pos := po, after := af, guard := some (g, gb) } :: rest) Q ⟨T, H, D, n⟩ := Z2 (wY rfl g1 g2 g3) hd (Z1k rfl hp hz) h
theorem zNc  (h : AOps P ro ops rest Q ⟨(d, x) :: T, H, D, n⟩) (hp : ev T p = some x := by rfl) (hx : isPtr x = true := by rfl) (hd : Nat.blt d n = true := by rfl) : AOps P ro ops ({ dst := some d, op := .nilCheck p, type := ty, pos := po, after := af, guard := none } :: rest) Q ⟨T, H, D, n⟩ := Z2 (w0 rfl) hd (Z0d rfl hp hx) h
theorem Ziq  (h : Calm P ops H0 KK (kk + 1) rest M ⟨(d, x) :: T, H, D, n⟩) (hp : ev T p = some x := by rfl) (hx : isPtr x = true := by rfl) (hd : Nat.blt d n = true := by rfl) : Calm P ops H0 KK kk ({ dst := some d, op := .nilCheck p, type := ty, pos := po, after := af, guard := none } :: rest) M ⟨T, H, D, n⟩ := Za (w0 rfl) hd (Z0d rfl hp hx) h
theorem Zhu  {g gt : Nat} {gb : Bool} {og : Oper} (h : Calm P ops H0 KK (kk + 1) rest M ⟨(d, x) :: T, H, D, n⟩) (g1 : ops[g]? = some og := by rfl) (g2 : og.dst = some gt := by rfl) (g3 : lk T gt = some (.v (.bool gb)) := by rfl) (hp : ev T p = some x := by rfl) (hx : isPtr x = true := by rfl) (hd : Nat.blt d n = true := by rfl) : Calm P ops H0 KK kk ({ dst := some d, op := .nilCheck p, type := ty, pos := po, after := af, guard := some (g, gb) } :: rest) M ⟨T, H, D, n⟩ := Za (wY rfl g1 g2 g3) hd (Z0d rfl hp hx) h
theorem Zjf  {g gt : Nat} {gb : Bool} {og : Oper} (h : AOps P ro ops rest Q ⟨(d, x) :: T, H, D, n⟩) (g1 : ops[g]? = some og := by rfl) (g2 : og.dst = some gt := by rfl) (g3 : lk T gt = some (.v (.bool gb)) := by rfl) (hp : ev T p = some x := by rfl) (hx : isPtr x = true := by rfl) (hd : Nat.blt d n = true := by rfl) : AOps P ro ops ({ dst := some d, op := .nilCheck p, type := ty, pos := po, after := af, guard := some (g, gb) } :: rest) Q ⟨T, H, D, n⟩ := Z2 (wY rfl g1 g2 g3) hd (Z0d rfl hp hx) h
theorem zB1 [tk : TK P t true 1] {c1 : AV} {pl : List (Nat × Nat)} {zs : List Value} {ps : Array (Nat × Operand)} {xs : List AV} (h : AOps P ro ops rest Q ⟨(d, .agg [c1]) :: T, H, D, n⟩) (hxs : evs T (ps.toList.map Prod.snd) = some xs := by rfl) [hl : PL P t pl] [hz : ZC P t zs] (hc : fillA (fun i => pl[i]?) (zs.map .v) ((ps.toList.map Prod.fst).zip xs) = some [c1] := by rfl) (hd : Nat.blt d n = true := by rfl) : AOps P ro ops ({ dst := some d, op := .build t ps, type := ty, pos := po, after := af, guard := none } :: rest) Q ⟨T, H, D, n⟩ := Z2 (w0 rfl) hd (Z04 rfl hxs hc) h
theorem Zid [tk : TK P t true 1] {c1 : AV} {pl : List (Nat × Nat)} {zs : List Value} {ps : Array (Nat × Operand)} {xs : List AV} (h : Calm P ops H0 KK (kk + 1) rest M ⟨(d, .agg [c1]) :: T, H, D, n⟩) (hxs : evs T (ps.toList.map Prod.snd) = some xs := by rfl) [hl : PL P t pl] [hz : ZC P t zs] (hc : fillA (fun i => pl[i]?) (zs.map .v) ((ps.toList.map Prod.fst).zip xs) = some [c1] := by rfl) (hd : Nat.blt d n = true := by rfl) : Calm P ops H0 KK kk ({ dst := some d, op := .build t ps, type := ty, pos := po, after := af, guard := none } :: rest) M ⟨T, H, D, n⟩ := Za (w0 rfl) hd (Z04 rfl hxs hc) h
theorem Zhg [tk : TK P t true 1] {c1 : AV} {pl : List (Nat × Nat)} {zs : List Value} {ps : Array (Nat × Operand)} {xs : List AV} {g gt : Nat} {gb : Bool} {og : Oper} (h : Calm P ops H0 KK (kk + 1) rest M ⟨(d, .agg [c1]) :: T, H, D, n⟩) (g1 : ops[g]? = some og := by rfl) (g2 : og.dst = some gt := by rfl) (g3 : lk T gt = some (.v (.bool gb)) := by rfl) (hxs : evs T (ps.toList.map Prod.snd) = some xs := by rfl) [hl : PL P t pl] [hz : ZC P t zs] (hc : fillA (fun i => pl[i]?) (zs.map .v) ((ps.toList.map Prod.fst).zip xs) = some [c1] := by rfl) (hd : Nat.blt d n = true := by rfl) : Calm P ops H0 KK kk ({ dst := some d, op := .build t ps, type := ty, pos := po, after := af, guard := some (g, gb) } :: rest) M ⟨T, H, D, n⟩ := Za (wY rfl g1 g2 g3) hd (Z04 rfl hxs hc) h
theorem Zj1 [tk : TK P t true 1] {c1 : AV} {pl : List (Nat × Nat)} {zs : List Value} {ps : Array (Nat × Operand)} {xs : List AV} {g gt : Nat} {gb : Bool} {og : Oper} (h : AOps P ro ops rest Q ⟨(d, .agg [c1]) :: T, H, D, n⟩) (g1 : ops[g]? = some og := by rfl) (g2 : og.dst = some gt := by rfl) (g3 : lk T gt = some (.v (.bool gb)) := by rfl) (hxs : evs T (ps.toList.map Prod.snd) = some xs := by rfl) [hl : PL P t pl] [hz : ZC P t zs] (hc : fillA (fun i => pl[i]?) (zs.map .v) ((ps.toList.map Prod.fst).zip xs) = some [c1] := by rfl) (hd : Nat.blt d n = true := by rfl) : AOps P ro ops ({ dst := some d, op := .build t ps, type := ty, pos := po, after := af, guard := some (g, gb) } :: rest) Q ⟨T, H, D, n⟩ := Z2 (wY rfl g1 g2 g3) hd (Z04 rfl hxs hc) h
theorem zB2 [tk : TK P t true 2] {c1 c2 : AV} {pl : List (Nat × Nat)} {zs : List Value} {ps : Array (Nat × Operand)} {xs : List AV} (h : AOps P ro ops rest Q ⟨(d, .agg [c1, c2]) :: T, H, D, n⟩) (hxs : evs T (ps.toList.map Prod.snd) = some xs := by rfl) [hl : PL P t pl] [hz : ZC P t zs] (hc : fillA (fun i => pl[i]?) (zs.map .v) ((ps.toList.map Prod.fst).zip xs) = some [c1, c2] := by rfl) (hd : Nat.blt d n = true := by rfl) : AOps P ro ops ({ dst := some d, op := .build t ps, type := ty, pos := po, after := af, guard := none } :: rest) Q ⟨T, H, D, n⟩ := Z2 (w0 rfl) hd (Z04 rfl hxs hc) h
theorem Zie [tk : TK P t true 2] {c1 c2 : AV} {pl : List (Nat × Nat)} {zs : List Value} {ps : Array (Nat × Operand)} {xs : List AV} (h : Calm P ops H0 KK (kk + 1) rest M ⟨(d, .agg [c1, c2]) :: T, H, D, n⟩) (hxs : evs T (ps.toList.map Prod.snd) = some xs := by rfl) [hl : PL P t pl] [hz : ZC P t zs] (hc : fillA (fun i => pl[i]?) (zs.map .v) ((ps.toList.map Prod.fst).zip xs) = some [c1, c2] := by rfl) (hd : Nat.blt d n = true := by rfl) : Calm P ops H0 KK kk ({ dst := some d, op := .build t ps, type := ty, pos := po, after := af, guard := none } :: rest) M ⟨T, H, D, n⟩ := Za (w0 rfl) hd (Z04 rfl hxs hc) h
theorem Zhh [tk : TK P t true 2] {c1 c2 : AV} {pl : List (Nat × Nat)} {zs : List Value} {ps : Array (Nat × Operand)} {xs : List AV} {g gt : Nat} {gb : Bool} {og : Oper} (h : Calm P ops H0 KK (kk + 1) rest M ⟨(d, .agg [c1, c2]) :: T, H, D, n⟩) (g1 : ops[g]? = some og := by rfl) (g2 : og.dst = some gt := by rfl) (g3 : lk T gt = some (.v (.bool gb)) := by rfl) (hxs : evs T (ps.toList.map Prod.snd) = some xs := by rfl) [hl : PL P t pl] [hz : ZC P t zs] (hc : fillA (fun i => pl[i]?) (zs.map .v) ((ps.toList.map Prod.fst).zip xs) = some [c1, c2] := by rfl) (hd : Nat.blt d n = true := by rfl) : Calm P ops H0 KK kk ({ dst := some d, op := .build t ps, type := ty, pos := po, after := af, guard := some (g, gb) } :: rest) M ⟨T, H, D, n⟩ := Za (wY rfl g1 g2 g3) hd (Z04 rfl hxs hc) h
theorem Zj2 [tk : TK P t true 2] {c1 c2 : AV} {pl : List (Nat × Nat)} {zs : List Value} {ps : Array (Nat × Operand)} {xs : List AV} {g gt : Nat} {gb : Bool} {og : Oper} (h : AOps P ro ops rest Q ⟨(d, .agg [c1, c2]) :: T, H, D, n⟩) (g1 : ops[g]? = some og := by rfl) (g2 : og.dst = some gt := by rfl) (g3 : lk T gt = some (.v (.bool gb)) := by rfl) (hxs : evs T (ps.toList.map Prod.snd) = some xs := by rfl) [hl : PL P t pl] [hz : ZC P t zs] (hc : fillA (fun i => pl[i]?) (zs.map .v) ((ps.toList.map Prod.fst).zip xs) = some [c1, c2] := by rfl) (hd : Nat.blt d n = true := by rfl) : AOps P ro ops ({ dst := some d, op := .build t ps, type := ty, pos := po, after := af, guard := some (g, gb) } :: rest) Q ⟨T, H, D, n⟩ := Z2 (wY rfl g1 g2 g3) hd (Z04 rfl hxs hc) h
theorem zB3 [tk : TK P t true 3] {c1 c2 c3 : AV} {pl : List (Nat × Nat)} {zs : List Value} {ps : Array (Nat × Operand)} {xs : List AV} (h : AOps P ro ops rest Q ⟨(d, .agg [c1, c2, c3]) :: T, H, D, n⟩) (hxs : evs T (ps.toList.map Prod.snd) = some xs := by rfl) [hl : PL P t pl] [hz : ZC P t zs] (hc : fillA (fun i => pl[i]?) (zs.map .v) ((ps.toList.map Prod.fst).zip xs) = some [c1, c2, c3] := by rfl) (hd : Nat.blt d n = true := by rfl) : AOps P ro ops ({ dst := some d, op := .build t ps, type := ty, pos := po, after := af, guard := none } :: rest) Q ⟨T, H, D, n⟩ := Z2 (w0 rfl) hd (Z04 rfl hxs hc) h
theorem Zif [tk : TK P t true 3] {c1 c2 c3 : AV} {pl : List (Nat × Nat)} {zs : List Value} {ps : Array (Nat × Operand)} {xs : List AV} (h : Calm P ops H0 KK (kk + 1) rest M ⟨(d, .agg [c1, c2, c3]) :: T, H, D, n⟩) (hxs : evs T (ps.toList.map Prod.snd) = some xs := by rfl) [hl : PL P t pl] [hz : ZC P t zs] (hc : fillA (fun i => pl[i]?) (zs.map .v) ((ps.toList.map Prod.fst).zip xs) = some [c1, c2, c3] := by rfl) (hd : Nat.blt d n = true := by rfl) : Calm P ops H0 KK kk ({ dst := some d, op := .build t ps, type := ty, pos := po, after := af, guard := none } :: rest) M ⟨T, H, D, n⟩ := Za (w0 rfl) hd (Z04 rfl hxs hc) h
theorem Zhi [tk : TK P t true 3] {c1 c2 c3 : AV} {pl : List (Nat × Nat)} {zs : List Value} {ps : Array (Nat × Operand)} {xs : List AV} {g gt : Nat} {gb : Bool} {og : Oper} (h : Calm P ops H0 KK (kk + 1) rest M ⟨(d, .agg [c1, c2, c3]) :: T, H, D, n⟩) (g1 : ops[g]? = some og := by rfl) (g2 : og.dst = some gt := by rfl) (g3 : lk T gt = some (.v (.bool gb)) := by rfl) (hxs : evs T (ps.toList.map Prod.snd) = some xs := by rfl) [hl : PL P t pl] [hz : ZC P t zs] (hc : fillA (fun i => pl[i]?) (zs.map .v) ((ps.toList.map Prod.fst).zip xs) = some [c1, c2, c3] := by rfl) (hd : Nat.blt d n = true := by rfl) : Calm P ops H0 KK kk ({ dst := some d, op := .build t ps, type := ty, pos := po, after := af, guard := some (g, gb) } :: rest) M ⟨T, H, D, n⟩ := Za (wY rfl g1 g2 g3) hd (Z04 rfl hxs hc) h
theorem Zj3 [tk : TK P t true 3] {c1 c2 c3 : AV} {pl : List (Nat × Nat)} {zs : List Value} {ps : Array (Nat × Operand)} {xs : List AV} {g gt : Nat} {gb : Bool} {og : Oper} (h : AOps P ro ops rest Q ⟨(d, .agg [c1, c2, c3]) :: T, H, D, n⟩) (g1 : ops[g]? = some og := by rfl) (g2 : og.dst = some gt := by rfl) (g3 : lk T gt = some (.v (.bool gb)) := by rfl) (hxs : evs T (ps.toList.map Prod.snd) = some xs := by rfl) [hl : PL P t pl] [hz : ZC P t zs] (hc : fillA (fun i => pl[i]?) (zs.map .v) ((ps.toList.map Prod.fst).zip xs) = some [c1, c2, c3] := by rfl) (hd : Nat.blt d n = true := by rfl) : AOps P ro ops ({ dst := some d, op := .build t ps, type := ty, pos := po, after := af, guard := some (g, gb) } :: rest) Q ⟨T, H, D, n⟩ := Z2 (wY rfl g1 g2 g3) hd (Z04 rfl hxs hc) h
theorem zB4 [tk : TK P t true 4] {c1 c2 c3 c4 : AV} {pl : List (Nat × Nat)} {zs : List Value} {ps : Array (Nat × Operand)} {xs : List AV} (h : AOps P ro ops rest Q ⟨(d, .agg [c1, c2, c3, c4]) :: T, H, D, n⟩) (hxs : evs T (ps.toList.map Prod.snd) = some xs := by rfl) [hl : PL P t pl] [hz : ZC P t zs] (hc : fillA (fun i => pl[i]?) (zs.map .v) ((ps.toList.map Prod.fst).zip xs) = some [c1, c2, c3, c4] := by rfl) (hd : Nat.blt d n = true := by rfl) : AOps P ro ops ({ dst := some d, op := .build t ps, type := ty, pos := po, after := af, guard := none } :: rest) Q ⟨T, H, D, n⟩ := Z2 (w0 rfl) hd (Z04 rfl hxs hc) h
theorem Zig [tk : TK P t true 4] {c1 c2 c3 c4 : AV} {pl : List (Nat × Nat)} {zs : List Value} {ps : Array (Nat × Operand)} {xs : List AV} (h : Calm P ops H0 KK (kk + 1) rest M ⟨(d, .agg [c1, c2, c3, c4]) :: T, H, D, n⟩) (hxs : evs T (ps.toList.map Prod.snd) = some xs := by rfl) [hl : PL P t pl] [hz : ZC P t zs] (hc : fillA (fun i => pl[i]?) (zs.map .v) ((ps.toList.map Prod.fst).zip xs) = some [c1, c2, c3, c4] := by rfl) (hd : Nat.blt d n = true := by rfl) : Calm P ops H0 KK kk ({ dst := some d, op := .build t ps, type := ty, pos := po, after := af, guard := none } :: rest) M ⟨T, H, D, n⟩ := Za (w0 rfl) hd (Z04 rfl hxs hc) h
theorem Zhj [tk : TK P t true 4] {c1 c2 c3 c4 : AV} {pl : List (Nat × Nat)} {zs : List Value} {ps : Array (Nat × Operand)} {xs : List AV} {g gt : Nat} {gb : Bool} {og : Oper} (h : Calm P ops H0 KK (kk + 1) rest M ⟨(d, .agg [c1, c2, c3, c4]) :: T, H, D, n⟩) (g1 : ops[g]? = some og := by rfl) (g2 : og.dst = some gt := by rfl) (g3 : lk T gt = some (.v (.bool gb)) := by rfl) (hxs : evs T (ps.toList.map Prod.snd) = some xs := by rfl) [hl : PL P t pl] [hz : ZC P t zs] (hc : fillA (fun i => pl[i]?) (zs.map .v) ((ps.toList.map Prod.fst).zip xs) = some [c1, c2, c3, c4] := by rfl) (hd : Nat.blt d n = true := by rfl) : Calm P ops H0 KK kk ({ dst := some d, op := .build t ps, type := ty, pos := po, after := af, guard := some (g, gb) } :: rest) M ⟨T, H, D, n⟩ := Za (wY rfl g1 g2 g3) hd (Z04 rfl hxs hc) h
theorem Zj4 [tk : TK P t true 4] {c1 c2 c3 c4 : AV} {pl : List (Nat × Nat)} {zs : List Value} {ps : Array (Nat × Operand)} {xs : List AV} {g gt : Nat} {gb : Bool} {og : Oper} (h : AOps P ro ops rest Q ⟨(d, .agg [c1, c2, c3, c4]) :: T, H, D, n⟩) (g1 : ops[g]? = some og := by rfl) (g2 : og.dst = some gt := by rfl) (g3 : lk T gt = some (.v (.bool gb)) := by rfl) (hxs : evs T (ps.toList.map Prod.snd) = some xs := by rfl) [hl : PL P t pl] [hz : ZC P t zs] (hc : fillA (fun i => pl[i]?) (zs.map .v) ((ps.toList.map Prod.fst).zip xs) = some [c1, c2, c3, c4] := by rfl) (hd : Nat.blt d n = true := by rfl) : AOps P ro ops ({ dst := some d, op := .build t ps, type := ty, pos := po, after := af, guard := some (g, gb) } :: rest) Q ⟨T, H, D, n⟩ := Z2 (wY rfl g1 g2 g3) hd (Z04 rfl hxs hc) h
theorem zB5 [tk : TK P t true 5] {c1 c2 c3 c4 c5 : AV} {pl : List (Nat × Nat)} {zs : List Value} {ps : Array (Nat × Operand)} {xs : List AV} (h : AOps P ro ops rest Q ⟨(d, .agg [c1, c2, c3, c4, c5]) :: T, H, D, n⟩) (hxs : evs T (ps.toList.map Prod.snd) = some xs := by rfl) [hl : PL P t pl] [hz : ZC P t zs] (hc : fillA (fun i => pl[i]?) (zs.map .v) ((ps.toList.map Prod.fst).zip xs) = some [c1, c2, c3, c4, c5] := by rfl) (hd : Nat.blt d n = true := by rfl) : AOps P ro ops ({ dst := some d, op := .build t ps, type := ty, pos := po, after := af, guard := none } :: rest) Q ⟨T, H, D, n⟩ := Z2 (w0 rfl) hd (Z04 rfl hxs hc) h
theorem Zih [tk : TK P t true 5] {c1 c2 c3 c4 c5 : AV} {pl : List (Nat × Nat)} {zs : List Value} {ps : Array (Nat × Operand)} {xs : List AV} (h : Calm P ops H0 KK (kk + 1) rest M ⟨(d, .agg [c1, c2, c3, c4, c5]) :: T, H, D, n⟩) (hxs : evs T (ps.toList.map Prod.snd) = some xs := by rfl) [hl : PL P t pl] [hz : ZC P t zs] (hc : fillA (fun i => pl[i]?) (zs.map .v) ((ps.toList.map Prod.fst).zip xs) = some [c1, c2, c3, c4, c5] := by rfl) (hd : Nat.blt d n = true := by rfl) : Calm P ops H0 KK kk ({ dst := some d, op := .build t ps, type := ty, pos := po, after := af, guard := none } :: rest) M ⟨T, H, D, n⟩ := Za (w0 rfl) hd (Z04 rfl hxs hc) h
theorem Zhk [tk : TK P t true 5] {c1 c2 c3 c4 c5 : AV} {pl : List (Nat × Nat)} {zs : List Value} {ps : Array (Nat × Operand)} {xs : List AV} {g gt : Nat} {gb : Bool} {og : Oper} (h : Calm P ops H0 KK (kk + 1) rest M ⟨(d, .agg [c1, c2, c3, c4, c5]) :: T, H, D, n⟩) (g1 : ops[g]? = some og := by rfl) (g2 : og.dst = some gt := by rfl) (g3 : lk T gt = some (.v (.bool gb)) := by rfl) (hxs : evs T (ps.toList.map Prod.snd) = some xs := by rfl) [hl : PL P t pl] [hz : ZC P t zs] (hc : fillA (fun i => pl[i]?) (zs.map .v) ((ps.toList.map Prod.fst).zip xs) = some [c1, c2, c3, c4, c5] := by rfl) (hd : Nat.blt d n = true := by rfl) : Calm P ops H0 KK kk ({ dst := some d, op := .build t ps, type := ty, pos := po, after := af, guard := some (g, gb) } :: rest) M ⟨T, H, D, n⟩ := Za (wY rfl g1 g2 g3) hd (Z04 rfl hxs hc) h
theorem Zj5 [tk : TK P t true 5] {c1 c2 c3 c4 c5 : AV} {pl : List (Nat × Nat)} {zs : List Value} {ps : Array (Nat × Operand)} {xs : List AV} {g gt : Nat} {gb : Bool} {og : Oper} (h : AOps P ro ops rest Q ⟨(d, .agg [c1, c2, c3, c4, c5]) :: T, H, D, n⟩) (g1 : ops[g]? = some og := by rfl) (g2 : og.dst = some gt := by rfl) (g3 : lk T gt = some (.v (.bool gb)) := by rfl) (hxs : evs T (ps.toList.map Prod.snd) = some xs := by rfl) [hl : PL P t pl] [hz : ZC P t zs] (hc : fillA (fun i => pl[i]?) (zs.map .v) ((ps.toList.map Prod.fst).zip xs) = some [c1, c2, c3, c4, c5] := by rfl) (hd : Nat.blt d n = true := by rfl) : AOps P ro ops ({ dst := some d, op := .build t ps, type := ty, pos := po, after := af, guard := some (g, gb) } :: rest) Q ⟨T, H, D, n⟩ := Z2 (wY rfl g1 g2 g3) hd (Z04 rfl hxs hc) h
theorem zB7 [tk : TK P t true 7] {c1 c2 c3 c4 c5 c6 c7 : AV} {pl : List (Nat × Nat)} {zs : List Value} {ps : Array (Nat × Operand)} {xs : List AV} (h : AOps P ro ops rest Q ⟨(d, .agg [c1, c2, c3, c4, c5, c6, c7]) :: T, H, D, n⟩) (hxs : evs T (ps.toList.map Prod.snd) = some xs := by rfl) [hl : PL P t pl] [hz : ZC P t zs] (hc : fillA (fun i => pl[i]?) (zs.map .v) ((ps.toList.map Prod.fst).zip xs) = some [c1, c2, c3, c4, c5, c6, c7] := by rfl) (hd : Nat.blt d n = true := by rfl) : AOps P ro ops ({ dst := some d, op := .build t ps, type := ty, pos := po, after := af, guard := none } :: rest) Q ⟨T, H, D, n⟩ := Z2 (w0 rfl) hd (Z04 rfl hxs hc) h
theorem Zii [tk : TK P t true 7] {c1 c2 c3 c4 c5 c6 c7 : AV} {pl : List (Nat × Nat)} {zs : List Value} {ps : Array (Nat × Operand)} {xs : List AV} (h : Calm P ops H0 KK (kk + 1) rest M ⟨(d, .agg [c1, c2, c3, c4, c5, c6, c7]) :: T, H, D, n⟩) (hxs : evs T (ps.toList.map Prod.snd) = some xs := by rfl) [hl : PL P t pl] [hz : ZC P t zs] (hc : fillA (fun i => pl[i]?) (zs.map .v) ((ps.toList.map Prod.fst).zip xs) = some [c1, c2, c3, c4, c5, c6, c7] := by rfl) (hd : Nat.blt d n = true := by rfl) : Calm P ops H0 KK kk ({ dst := some d, op := .build t ps, type := ty, pos := po, after := af, guard := none } :: rest) M ⟨T, H, D, n⟩ := Za (w0 rfl) hd (Z04 rfl hxs hc) h
theorem Zhl [tk : TK P t true 7] {c1 c2 c3 c4 c5 c6 c7 : AV} {pl : List (Nat × Nat)} {zs : List Value} {ps : Array (Nat × Operand)} {xs : List AV} {g gt : Nat} {gb : Bool} {og : Oper} (h : Calm P ops H0 KK (kk + 1) rest M ⟨(d, .agg [c1, c2, c3, c4, c5, c6, c7]) :: T, H, D, n⟩) (g1 : ops[g]? = some og := by rfl) (g2 : og.dst = some gt := by rfl) (g3 : lk T gt = some (.v (.bool gb)) := by rfl) (hxs : evs T (ps.toList.map Prod.snd) = some xs := by rfl) [hl : PL P t pl] [hz : ZC P t zs] (hc : fillA (fun i => pl[i]?) (zs.map .v) ((ps.toList.map Prod.fst).zip xs) = some [c1, c2, c3, c4, c5, c6, c7] := by rfl) (hd : Nat.blt d n = true := by rfl) : Calm P ops H0 KK kk ({ dst := some d, op := .build t ps, type := ty, pos := po, after := af, guard := some (g, gb) } :: rest) M ⟨T, H, D, n⟩ := Za (wY rfl g1 g2 g3) hd (Z04 rfl hxs hc) h
theorem Zj6 [tk : TK P t true 7] {c1 c2 c3 c4 c5 c6 c7 : AV} {pl : List (Nat × Nat)} {zs : List Value} {ps : Array (Nat × Operand)} {xs : List AV} {g gt : Nat} {gb : Bool} {og : Oper} (h : AOps P ro ops rest Q ⟨(d, .agg [c1, c2, c3, c4, c5, c6, c7]) :: T, H, D, n⟩) (g1 : ops[g]? = some og := by rfl) (g2 : og.dst = some gt := by rfl) (g3 : lk T gt = some (.v (.bool gb)) := by rfl) (hxs : evs T (ps.toList.map Prod.snd) = some xs := by rfl) [hl : PL P t pl] [hz : ZC P t zs] (hc : fillA (fun i => pl[i]?) (zs.map .v) ((ps.toList.map Prod.fst).zip xs) = some [c1, c2, c3, c4, c5, c6, c7] := by rfl) (hd : Nat.blt d n = true := by rfl) : AOps P ro ops ({ dst := some d, op := .build t ps, type := ty, pos := po, after := af, guard := some (g, gb) } :: rest) Q ⟨T, H, D, n⟩ := Z2 (wY rfl g1 g2 g3) hd (Z04 rfl hxs hc) h
theorem zB9 [tk : TK P t true 9] {c1 c2 c3 c4 c5 c6 c7 c8 c9 : AV} {pl : List (Nat × Nat)} {zs : List Value} {ps : Array (Nat × Operand)} {xs : List AV} (h : AOps P ro ops rest Q ⟨(d, .agg [c1, c2, c3, c4, c5, c6, c7, c8, c9]) :: T, H, D, n⟩) (hxs : evs T (ps.toList.map Prod.snd) = some xs := by rfl) [hl : PL P t pl] [hz : ZC P t zs] (hc : fillA (fun i => pl[i]?) (zs.map .v) ((ps.toList.map Prod.fst).zip xs) = some [c1, c2, c3, c4, c5, c6, c7, c8, c9] := by rfl) (hd : Nat.blt d n = true := by rfl) : AOps P ro ops ({ dst := some d, op := .build t ps, type := ty, pos := po, after := af, guard := none } :: rest) Q ⟨T, H, D, n⟩ := Z2 (w0 rfl) hd (Z04 rfl hxs hc) h
theorem Zij [tk : TK P t true 9] {c1 c2 c3 c4 c5 c6 c7 c8 c9 : AV} {pl : List (Nat × Nat)} {zs : List Value} {ps : Array (Nat × Operand)} {xs : List AV} (h : Calm P ops H0 KK (kk + 1) rest M ⟨(d, .agg [c1, c2, c3, c4, c5, c6, c7, c8, c9]) :: T, H, D, n⟩) (hxs : evs T (ps.toList.map Prod.snd) = some xs := by rfl) [hl : PL P t pl] [hz : ZC P t zs] (hc : fillA (fun i => pl[i]?) (zs.map .v) ((ps.toList.map Prod.fst).zip xs) = some [c1, c2, c3, c4, c5, c6, c7, c8, c9] := by rfl) (hd : Nat.blt d n = true := by rfl) : Calm P ops H0 KK kk ({ dst := some d, op := .build t ps, type := ty, pos := po, after := af, guard := none } :: rest) M ⟨T, H, D, n⟩ := Za (w0 rfl) hd (Z04 rfl hxs hc) h
theorem Zhm [tk : TK P t true 9] {c1 c2 c3 c4 c5 c6 c7 c8 c9 : AV} {pl : List (Nat × Nat)} {zs : List Value} {ps : Array (Nat × Operand)} {xs : List AV} {g gt : Nat} {gb : Bool} {og : Oper} (h : Calm P ops H0 KK (kk + 1) rest M ⟨(d, .agg [c1, c2, c3, c4, c5, c6, c7, c8, c9]) :: T, H, D, n⟩) (g1 : ops[g]? = some og := by rfl) (g2 : og.dst = some gt := by rfl) (g3 : lk T gt = some (.v (.bool gb)) := by rfl) (hxs : evs T (ps.toList.map Prod.snd) = some xs := by rfl) [hl : PL P t pl] [hz : ZC P t zs] (hc : fillA (fun i => pl[i]?) (zs.map .v) ((ps.toList.map Prod.fst).zip xs) = some [c1, c2, c3, c4, c5, c6, c7, c8, c9] := by rfl) (hd : Nat.blt d n = true := by rfl) : Calm P ops H0 KK kk ({ dst := some d, op := .build t ps, type := ty, pos := po, after := af, guard := some (g, gb) } :: rest) M ⟨T, H, D, n⟩ := Za (wY rfl g1 g2 g3) hd (Z04 rfl hxs hc) h
theorem Zj7 [tk : TK P t true 9] {c1 c2 c3 c4 c5 c6 c7 c8 c9 : AV} {pl : List (Nat × Nat)} {zs : List Value} {ps : Array (Nat × Operand)} {xs : List AV} {g gt : Nat} {gb : Bool} {og : Oper} (h : AOps P ro ops rest Q ⟨(d, .agg [c1, c2, c3, c4, c5, c6, c7, c8, c9]) :: T, H, D, n⟩) (g1 : ops[g]? = some og := by rfl) (g2 : og.dst = some gt := by rfl) (g3 : lk T gt = some (.v (.bool gb)) := by rfl) (hxs : evs T (ps.toList.map Prod.snd) = some xs := by rfl) [hl : PL P t pl] [hz : ZC P t zs] (hc : fillA (fun i => pl[i]?) (zs.map .v) ((ps.toList.map Prod.fst).zip xs) = some [c1, c2, c3, c4, c5, c6, c7, c8, c9] := by rfl) (hd : Nat.blt d n = true := by rfl) : AOps P ro ops ({ dst := some d, op := .build t ps, type := ty, pos := po, after := af, guard := some (g, gb) } :: rest) Q ⟨T, H, D, n⟩ := Z2 (wY rfl g1 g2 g3) hd (Z04 rfl hxs hc) h
theorem Zi9 [tk : TK P t true 10] {c1 c2 c3 c4 c5 c6 c7 c8 c9 c10 : AV} {pl : List (Nat × Nat)} {zs : List Value} {ps : Array (Nat × Operand)} {xs : List AV} (h : AOps P ro ops rest Q ⟨(d, .agg [c1, c2, c3, c4, c5, c6, c7, c8, c9, c10]) :: T, H, D, n⟩) (hxs : evs T (ps.toList.map Prod.snd) = some xs := by rfl) [hl : PL P t pl] [hz : ZC P t zs] (hc : fillA (fun i => pl[i]?) (zs.map .v) ((ps.toList.map Prod.fst).zip xs) = some [c1, c2, c3, c4, c5, c6, c7, c8, c9, c10] := by rfl) (hd : Nat.blt d n = true := by rfl) : AOps P ro ops ({ dst := some d, op := .build t ps, type := ty, pos := po, after := af, guard := none } :: rest) Q ⟨T, H, D, n⟩ := Z2 (w0 rfl) hd (Z04 rfl hxs hc) h
theorem Zhb [tk : TK P t true 10] {c1 c2 c3 c4 c5 c6 c7 c8 c9 c10 : AV} {pl : List (Nat × Nat)} {zs : List Value} {ps : Array (Nat × Operand)} {xs : List AV} (h : Calm P ops H0 KK (kk + 1) rest M ⟨(d, .agg [c1, c2, c3, c4, c5, c6, c7, c8, c9, c10]) :: T, H, D, n⟩) (hxs : evs T (ps.toList.map Prod.snd) = some xs := by rfl) [hl : PL P t pl] [hz : ZC P t zs] (hc : fillA (fun i => pl[i]?) (zs.map .v) ((ps.toList.map Prod.fst).zip xs) = some [c1, c2, c3, c4, c5, c6, c7, c8, c9, c10] := by rfl) (hd : Nat.blt d n = true := by rfl) : Calm P ops H0 KK kk ({ dst := some d, op := .build t ps, type := ty, pos := po, after := af, guard := none } :: rest) M ⟨T, H, D, n⟩ := Za (w0 rfl) hd (Z04 rfl hxs hc) h
theorem Zh3 [tk : TK P t true 10] {c1 c2 c3 c4 c5 c6 c7 c8 c9 c10 : AV} {pl : List (Nat × Nat)} {zs : List Value} {ps : Array (Nat × Operand)} {xs : List AV} {g gt : Nat} {gb : Bool} {og : Oper} (h : Calm P ops H0 KK (kk + 1) rest M ⟨(d, .agg [c1, c2, c3, c4, c5, c6, c7, c8, c9, c10]) :: T, H, D, n⟩) (g1 : ops[g]? = some og := by rfl) (g2 : og.dst = some gt := by rfl) (g3 : lk T gt = some (.v (.bool gb)) := by rfl) (hxs : evs T (ps.toList.map Prod.snd) = some xs := by rfl) [hl : PL P t pl] [hz : ZC P t zs] (hc : fillA (fun i => pl[i]?) (zs.map .v) ((ps.toList.map Prod.fst).zip xs) = some [c1, c2, c3, c4, c5, c6, c7, c8, c9, c10] := by rfl) (hd : Nat.blt d n = true := by rfl) : Calm P ops H0 KK kk ({ dst := some d, op := .build t ps, type := ty, pos := po, after := af, guard := some (g, gb) } :: rest) M ⟨T, H, D, n⟩ := Za (wY rfl g1 g2 g3) hd (Z04 rfl hxs hc) h
theorem Zhz [tk : TK P t true 10] {c1 c2 c3 c4 c5 c6 c7 c8 c9 c10 : AV} {pl : List (Nat × Nat)} {zs : List Value} {ps : Array (Nat × Operand)} {xs : List AV} {g gt : Nat} {gb : Bool} {og : Oper} (h : AOps P ro ops rest Q ⟨(d, .agg [c1, c2, c3, c4, c5, c6, c7, c8, c9, c10]) :: T, H, D, n⟩) (g1 : ops[g]? = some og := by rfl) (g2 : og.dst = some gt := by rfl) (g3 : lk T gt = some (.v (.bool gb)) := by rfl) (hxs : evs T (ps.toList.map Prod.snd) = some xs := by rfl) [hl : PL P t pl] [hz : ZC P t zs] (hc : fillA (fun i => pl[i]?) (zs.map .v) ((ps.toList.map Prod.fst).zip xs) = some [c1, c2, c3, c4, c5, c6, c7, c8, c9, c10] := by rfl) (hd : Nat.blt d n = true := by rfl) : AOps P ro ops ({ dst := some d, op := .build t ps, type := ty, pos := po, after := af, guard := some (g, gb) } :: rest) Q ⟨T, H, D, n⟩ := Z2 (wY rfl g1 g2 g3) hd (Z04 rfl hxs hc) h
theorem zC0 {ats : Array TypeId} {f : Nat} (h : AOps P ro ops rest Q ⟨(d, x) :: T, H, D, n⟩)  [hc : Con P f [] x] (hd : Nat.blt d n = true := by rfl) : AOps P ro ops ({ dst := some d, op := .call { callee := .value (.func f), args := #[], argTypes := ats }, type := ty, pos := po, after := af, guard := none } :: rest) Q ⟨T, H, D, n⟩ := Z2 (w0 rfl) hd (Zu (caps := []) [] rfl rfl Z0e hc.c List.nodup_nil) h
theorem Zh7 {ats : Array TypeId} {f : Nat} (h : Calm P ops H0 KK (kk + 1) rest M ⟨(d, x) :: T, H, D, n⟩)  [hc : Con P f [] x] (hd : Nat.blt d n = true := by rfl) : Calm P ops H0 KK kk ({ dst := some d, op := .call { callee := .value (.func f), args := #[], argTypes := ats }, type := ty, pos := po, after := af, guard := none } :: rest) M ⟨T, H, D, n⟩ := Za (w0 rfl) hd (Zu (caps := []) [] rfl rfl Z0e hc.c List.nodup_nil) h
theorem Zhn {ats : Array TypeId} {f : Nat} {g gt : Nat} {gb : Bool} {og : Oper} (h : Calm P ops H0 KK (kk + 1) rest M ⟨(d, x) :: T, H, D, n⟩) (g1 : ops[g]? = some og := by rfl) (g2 : og.dst = some gt := by rfl) (g3 : lk T gt = some (.v (.bool gb)) := by rfl)  [hc : Con P f [] x] (hd : Nat.blt d n = true := by rfl) : Calm P ops H0 KK kk ({ dst := some d, op := .call { callee := .value (.func f), args := #[], argTypes := ats }, type := ty, pos := po, after := af, guard := some (g, gb) } :: rest) M ⟨T, H, D, n⟩ := Za (wY rfl g1 g2 g3) hd (Zu (caps := []) [] rfl rfl Z0e hc.c List.nodup_nil) h
theorem Zj8 {ats : Array TypeId} {f : Nat} {g gt : Nat} {gb : Bool} {og : Oper} (h : AOps P ro ops rest Q ⟨(d, x) :: T, H, D, n⟩) (g1 : ops[g]? = some og := by rfl) (g2 : og.dst = some gt := by rfl) (g3 : lk T gt = some (.v (.bool gb)) := by rfl)  [hc : Con P f [] x] (hd : Nat.blt d n = true := by rfl) : AOps P ro ops ({ dst := some d, op := .call { callee := .value (.func f), args := #[], argTypes := ats }, type := ty, pos := po, after := af, guard := some (g, gb) } :: rest) Q ⟨T, H, D, n⟩ := Z2 (wY rfl g1 g2 g3) hd (Zu (caps := []) [] rfl rfl Z0e hc.c List.nodup_nil) h
theorem zC1 {ats : Array TypeId} {f : Nat} {p1 : Operand} {x1 : AV} (h : AOps P ro ops rest Q ⟨(d, x) :: T, H, D, n⟩) (h1 : ev T p1 = some x1 := by rfl) [hc : Con P f [x1] x] (hd : Nat.blt d n = true := by rfl) : AOps P ro ops ({ dst := some d, op := .call { callee := .value (.func f), args := #[p1], argTypes := ats }, type := ty, pos := po, after := af, guard := none } :: rest) Q ⟨T, H, D, n⟩ := Z2 (w0 rfl) hd (Zu (caps := []) [] rfl rfl (Zn h1 Z0e) hc.c List.nodup_nil) h
theorem Zik {ats : Array TypeId} {f : Nat} {p1 : Operand} {x1 : AV} (h : Calm P ops H0 KK (kk + 1) rest M ⟨(d, x) :: T, H, D, n⟩) (h1 : ev T p1 = some x1 := by rfl) [hc : Con P f [x1] x] (hd : Nat.blt d n = true := by rfl) : Calm P ops H0 KK kk ({ dst := some d, op := .call { callee := .value (.func f), args := #[p1], argTypes := ats }, type := ty, pos := po, after := af, guard := none } :: rest) M ⟨T, H, D, n⟩ := Za (w0 rfl) hd (Zu (caps := []) [] rfl rfl (Zn h1 Z0e) hc.c List.nodup_nil) h
theorem Zho {ats : Array TypeId} {f : Nat} {p1 : Operand} {x1 : AV} {g gt : Nat} {gb : Bool} {og : Oper} (h : Calm P ops H0 KK (kk + 1) rest M ⟨(d, x) :: T, H, D, n⟩) (g1 : ops[g]? = some og := by rfl) (g2 : og.dst = some gt := by rfl) (g3 : lk T gt = some (.v (.bool gb)) := by rfl) (h1 : ev T p1 = some x1 := by rfl) [hc : Con P f [x1] x] (hd : Nat.blt d n = true := by rfl) : Calm P ops H0 KK kk ({ dst := some d, op := .call { callee := .value (.func f), args := #[p1], argTypes := ats }, type := ty, pos := po, after := af, guard := some (g, gb) } :: rest) M ⟨T, H, D, n⟩ := Za (wY rfl g1 g2 g3) hd (Zu (caps := []) [] rfl rfl (Zn h1 Z0e) hc.c List.nodup_nil) h
theorem Zj9 {ats : Array TypeId} {f : Nat} {p1 : Operand} {x1 : AV} {g gt : Nat} {gb : Bool} {og : Oper} (h : AOps P ro ops rest Q ⟨(d, x) :: T, H, D, n⟩) (g1 : ops[g]? = some og := by rfl) (g2 : og.dst = some gt := by rfl) (g3 : lk T gt = some (.v (.bool gb)) := by rfl) (h1 : ev T p1 = some x1 := by rfl) [hc : Con P f [x1] x] (hd : Nat.blt d n = true := by rfl) : AOps P ro ops ({ dst := some d, op := .call { callee := .value (.func f), args := #[p1], argTypes := ats }, type := ty, pos := po, after := af, guard := some (g, gb) } :: rest) Q ⟨T, H, D, n⟩ := Z2 (wY rfl g1 g2 g3) hd (Zu (caps := []) [] rfl rfl (Zn h1 Z0e) hc.c List.nodup_nil) h
theorem zC2 {ats : Array TypeId} {f : Nat} {p1 p2 : Operand} {x1 x2 : AV} (h : AOps P ro ops rest Q ⟨(d, x) :: T, H, D, n⟩) (h1 : ev T p1 = some x1 := by rfl) (h2 : ev T p2 = some x2 := by rfl) [hc : Con P f [x1, x2] x] (hd : Nat.blt d n = true := by rfl) : AOps P ro ops ({ dst := some d, op := .call { callee := .value (.func f), args := #[p1, p2], argTypes := ats }, type := ty, pos := po, after := af, guard := none } :: rest) Q ⟨T, H, D, n⟩ := Z2 (w0 rfl) hd (Zu (caps := []) [] rfl rfl (Zn h1 (Zn h2 Z0e)) hc.c List.nodup_nil) h
theorem Z5e {ats : Array TypeId} {f : Nat} {p1 p2 : Operand} {x1 x2 : AV} (h : Calm P ops H0 KK (kk + 1) rest M ⟨(d, x) :: T, H, D, n⟩) (h1 : ev T p1 = some x1 := by rfl) (h2 : ev T p2 = some x2 := by rfl) [hc : Con P f [x1, x2] x] (hd : Nat.blt d n = true := by rfl) : Calm P ops H0 KK kk ({ dst := some d, op := .call { callee := .value (.func f), args := #[p1, p2], argTypes := ats }, type := ty, pos := po, after := af, guard := none } :: rest) M ⟨T, H, D, n⟩ := Za (w0 rfl) hd (Zu (caps := []) [] rfl rfl (Zn h1 (Zn h2 Z0e)) hc.c List.nodup_nil) h
theorem Z1x {ats : Array TypeId} {f : Nat} {p1 p2 : Operand} {x1 x2 : AV} {g gt : Nat} {gb : Bool} {og : Oper} (h : Calm P ops H0 KK (kk + 1) rest M ⟨(d, x) :: T, H, D, n⟩) (g1 : ops[g]? = some og := by rfl) (g2 : og.dst = some gt := by rfl) (g3 : lk T gt = some (.v (.bool gb)) := by rfl) (h1 : ev T p1 = some x1 := by rfl) (h2 : ev T p2 = some x2 := by rfl) [hc : Con P f [x1, x2] x] (hd : Nat.blt d n = true := by rfl) : Calm P ops H0 KK kk ({ dst := some d, op := .call { callee := .value (.func f), args := #[p1, p2], argTypes := ats }, type := ty, pos := po, after := af, guard := some (g, gb) } :: rest) M ⟨T, H, D, n⟩ := Za (wY rfl g1 g2 g3) hd (Zu (caps := []) [] rfl rfl (Zn h1 (Zn h2 Z0e)) hc.c List.nodup_nil) h
theorem Zja {ats : Array TypeId} {f : Nat} {p1 p2 : Operand} {x1 x2 : AV} {g gt : Nat} {gb : Bool} {og : Oper} (h : AOps P ro ops rest Q ⟨(d, x) :: T, H, D, n⟩) (g1 : ops[g]? = some og := by rfl) (g2 : og.dst = some gt := by rfl) (g3 : lk T gt = some (.v (.bool gb)) := by rfl) (h1 : ev T p1 = some x1 := by rfl) (h2 : ev T p2 = some x2 := by rfl) [hc : Con P f [x1, x2] x] (hd : Nat.blt d n = true := by rfl) : AOps P ro ops ({ dst := some d, op := .call { callee := .value (.func f), args := #[p1, p2], argTypes := ats }, type := ty, pos := po, after := af, guard := some (g, gb) } :: rest) Q ⟨T, H, D, n⟩ := Z2 (wY rfl g1 g2 g3) hd (Zu (caps := []) [] rfl rfl (Zn h1 (Zn h2 Z0e)) hc.c List.nodup_nil) h
theorem zC3 {ats : Array TypeId} {f : Nat} {p1 p2 p3 : Operand} {x1 x2 x3 : AV} (h : AOps P ro ops rest Q ⟨(d, x) :: T, H, D, n⟩) (h1 : ev T p1 = some x1 := by rfl) (h2 : ev T p2 = some x2 := by rfl) (h3 : ev T p3 = some x3 := by rfl) [hc : Con P f [x1, x2, x3] x] (hd : Nat.blt d n = true := by rfl) : AOps P ro ops ({ dst := some d, op := .call { callee := .value (.func f), args := #[p1, p2, p3], argTypes := ats }, type := ty, pos := po, after := af, guard := none } :: rest) Q ⟨T, H, D, n⟩ := Z2 (w0 rfl) hd (Zu (caps := []) [] rfl rfl (Zn h1 (Zn h2 (Zn h3 Z0e))) hc.c List.nodup_nil) h
theorem Zil {ats : Array TypeId} {f : Nat} {p1 p2 p3 : Operand} {x1 x2 x3 : AV} (h : Calm P ops H0 KK (kk + 1) rest M ⟨(d, x) :: T, H, D, n⟩) (h1 : ev T p1 = some x1 := by rfl) (h2 : ev T p2 = some x2 := by rfl) (h3 : ev T p3 = some x3 := by rfl) [hc : Con P f [x1, x2, x3] x] (hd : Nat.blt d n = true := by rfl) : Calm P ops H0 KK kk ({ dst := some d, op := .call { callee := .value (.func f), args := #[p1, p2, p3], argTypes := ats }, type := ty, pos := po, after := af, guard := none } :: rest) M ⟨T, H, D, n⟩ := Za (w0 rfl) hd (Zu (caps := []) [] rfl rfl (Zn h1 (Zn h2 (Zn h3 Z0e))) hc.c List.nodup_nil) h
theorem Zhp {ats : Array TypeId} {f : Nat} {p1 p2 p3 : Operand} {x1 x2 x3 : AV} {g gt : Nat} {gb : Bool} {og : Oper} (h : Calm P ops H0 KK (kk + 1) rest M ⟨(d, x) :: T, H, D, n⟩) (g1 : ops[g]? = some og := by rfl) (g2 : og.dst = some gt := by rfl) (g3 : lk T gt = some (.v (.bool gb)) := by rfl) (h1 : ev T p1 = some x1 := by rfl) (h2 : ev T p2 = some x2 := by rfl) (h3 : ev T p3 = some x3 := by rfl) [hc : Con P f [x1, x2, x3] x] (hd : Nat.blt d n = true := by rfl) : Calm P ops H0 KK kk ({ dst := some d, op := .call { callee := .value (.func f), args := #[p1, p2, p3], argTypes := ats }, type := ty, pos := po, after := af, guard := some (g, gb) } :: rest) M ⟨T, H, D, n⟩ := Za (wY rfl g1 g2 g3) hd (Zu (caps := []) [] rfl rfl (Zn h1 (Zn h2 (Zn h3 Z0e))) hc.c List.nodup_nil) h
theorem Zjb {ats : Array TypeId} {f : Nat} {p1 p2 p3 : Operand} {x1 x2 x3 : AV} {g gt : Nat} {gb : Bool} {og : Oper} (h : AOps P ro ops rest Q ⟨(d, x) :: T, H, D, n⟩) (g1 : ops[g]? = some og := by rfl) (g2 : og.dst = some gt := by rfl) (g3 : lk T gt = some (.v (.bool gb)) := by rfl) (h1 : ev T p1 = some x1 := by rfl) (h2 : ev T p2 = some x2 := by rfl) (h3 : ev T p3 = some x3 := by rfl) [hc : Con P f [x1, x2, x3] x] (hd : Nat.blt d n = true := by rfl) : AOps P ro ops ({ dst := some d, op := .call { callee := .value (.func f), args := #[p1, p2, p3], argTypes := ats }, type := ty, pos := po, after := af, guard := some (g, gb) } :: rest) Q ⟨T, H, D, n⟩ := Z2 (wY rfl g1 g2 g3) hd (Zu (caps := []) [] rfl rfl (Zn h1 (Zn h2 (Zn h3 Z0e))) hc.c List.nodup_nil) h
theorem zC4 {ats : Array TypeId} {f : Nat} {p1 p2 p3 p4 : Operand} {x1 x2 x3 x4 : AV} (h : AOps P ro ops rest Q ⟨(d, x) :: T, H, D, n⟩) (h1 : ev T p1 = some x1 := by rfl) (h2 : ev T p2 = some x2 := by rfl) (h3 : ev T p3 = some x3 := by rfl) (h4 : ev T p4 = some x4 := by rfl) [hc : Con P f [x1, x2, x3, x4] x] (hd : Nat.blt d n = true := by rfl) : AOps P ro ops ({ dst := some d, op := .call { callee := .value (.func f), args := #[p1, p2, p3, p4], argTypes := ats }, type := ty, pos := po, after := af, guard := none } :: rest) Q ⟨T, H, D, n⟩ := Z2 (w0 rfl) hd (Zu (caps := []) [] rfl rfl (Zn h1 (Zn h2 (Zn h3 (Zn h4 Z0e)))) hc.c List.nodup_nil) h
theorem Zim {ats : Array TypeId} {f : Nat} {p1 p2 p3 p4 : Operand} {x1 x2 x3 x4 : AV} (h : Calm P ops H0 KK (kk + 1) rest M ⟨(d, x) :: T, H, D, n⟩) (h1 : ev T p1 = some x1 := by rfl) (h2 : ev T p2 = some x2 := by rfl) (h3 : ev T p3 = some x3 := by rfl) (h4 : ev T p4 = some x4 := by rfl) [hc : Con P f [x1, x2, x3, x4] x] (hd : Nat.blt d n = true := by rfl) : Calm P ops H0 KK kk ({ dst := some d, op := .call { callee := .value (.func f), args := #[p1, p2, p3, p4], argTypes := ats }, type := ty, pos := po, after := af, guard := none } :: rest) M ⟨T, H, D, n⟩ := Za (w0 rfl) hd (Zu (caps := []) [] rfl rfl (Zn h1 (Zn h2 (Zn h3 (Zn h4 Z0e)))) hc.c List.nodup_nil) h
theorem Zhq {ats : Array TypeId} {f : Nat} {p1 p2 p3 p4 : Operand} {x1 x2 x3 x4 : AV} {g gt : Nat} {gb : Bool} {og : Oper} (h : Calm P ops H0 KK (kk + 1) rest M ⟨(d, x) :: T, H, D, n⟩) (g1 : ops[g]? = some og := by rfl) (g2 : og.dst = some gt := by rfl) (g3 : lk T gt = some (.v (.bool gb)) := by rfl) (h1 : ev T p1 = some x1 := by rfl) (h2 : ev T p2 = some x2 := by rfl) (h3 : ev T p3 = some x3 := by rfl) (h4 : ev T p4 = some x4 := by rfl) [hc : Con P f [x1, x2, x3, x4] x] (hd : Nat.blt d n = true := by rfl) : Calm P ops H0 KK kk ({ dst := some d, op := .call { callee := .value (.func f), args := #[p1, p2, p3, p4], argTypes := ats }, type := ty, pos := po, after := af, guard := some (g, gb) } :: rest) M ⟨T, H, D, n⟩ := Za (wY rfl g1 g2 g3) hd (Zu (caps := []) [] rfl rfl (Zn h1 (Zn h2 (Zn h3 (Zn h4 Z0e)))) hc.c List.nodup_nil) h
theorem Zjc {ats : Array TypeId} {f : Nat} {p1 p2 p3 p4 : Operand} {x1 x2 x3 x4 : AV} {g gt : Nat} {gb : Bool} {og : Oper} (h : AOps P ro ops rest Q ⟨(d, x) :: T, H, D, n⟩) (g1 : ops[g]? = some og := by rfl) (g2 : og.dst = some gt := by rfl) (g3 : lk T gt = some (.v (.bool gb)) := by rfl) (h1 : ev T p1 = some x1 := by rfl) (h2 : ev T p2 = some x2 := by rfl) (h3 : ev T p3 = some x3 := by rfl) (h4 : ev T p4 = some x4 := by rfl) [hc : Con P f [x1, x2, x3, x4] x] (hd : Nat.blt d n = true := by rfl) : AOps P ro ops ({ dst := some d, op := .call { callee := .value (.func f), args := #[p1, p2, p3, p4], argTypes := ats }, type := ty, pos := po, after := af, guard := some (g, gb) } :: rest) Q ⟨T, H, D, n⟩ := Z2 (wY rfl g1 g2 g3) hd (Zu (caps := []) [] rfl rfl (Zn h1 (Zn h2 (Zn h3 (Zn h4 Z0e)))) hc.c List.nodup_nil) h
theorem zD {g gt : Nat} {gb : Bool} {og : Oper} {op : Op} (h : AOps P ro ops rest Q ⟨(d, .v undef) :: T, H, D, n⟩) (g1 : ops[g]? = some og := by rfl) (g2 : og.dst = some gt := by rfl) (g3 : lk T gt = some (.v (.bool (!gb))) := by rfl) (hd : Nat.blt d n = true := by rfl) : AOps P ro ops ({ dst := some d, op := op, type := ty, pos := po, after := af, guard := some (g, gb) } :: rest) Q ⟨T, H, D, n⟩ := Z1i (x := .v undef) (wZ rfl g1 g2 g3) hd nofun h
theorem Z48 {m : Nat} {b : Bool} {l : List AV} (h : ∀ id, AOps P ro ops rest Q ⟨(d, .ptr id m 0 0) :: T, (id, .rows t m [l]) :: H, D, n⟩) (hp : ev T p = some x := by rfl) [k : TK P t b m] (hl : cellsA x = l := by rfl) (hn : l.length = m := by rfl) (h1 : l.all one = true := by rfl) (hd : Nat.blt d n = true := by rfl) : AOps P ro ops ({ dst := some d, op := .box t p, type := ty, pos := po, after := af, guard := none } :: rest) Q ⟨T, H, D, n⟩ := Z11 (w0 rfl) hd (fun id => Z5w id rfl hp hl hn h1) h
theorem zLd {id sz i c el : Nat} {es : List (List AV)} {ee : List AV} (j : Nat) (h : AOps P ro ops rest Q ⟨(d, x) :: T, H, D, n⟩) (hp : ev T p = some (.ptr id sz i c) := by rfl) (hH : H[j]? = some (id, .rows el sz es) := by rfl) (he : es[i]? = some ee := by rfl) (hl : Ld P t (ee.drop c) x := by first | exact Zq | exact Z5d | exact Zem | exact Zen | exact Zeo | exact Zep) (hd : Nat.blt d n = true := by rfl) : AOps P ro ops ({ dst := some d, op := .load t p, type := ty, pos := po, after := af, guard := none } :: rest) Q ⟨T, H, D, n⟩ := Z0b j (w0 rfl) hd rfl hp hH he hl h
theorem Z33 {id sz i c el g gt : Nat} {gb : Bool} {og : Oper} {es : List (List AV)} {ee : List AV} (j : Nat) (h : AOps P ro ops rest Q ⟨(d, x) :: T, H, D, n⟩) (g1 : ops[g]? = some og := by rfl) (g2 : og.dst = some gt := by rfl) (g3 : lk T gt = some (.v (.bool gb)) := by rfl) (hp : ev T p = some (.ptr id sz i c) := by rfl) (hH : H[j]? = some (id, .rows el sz es) := by rfl) (he : es[i]? = some ee := by rfl) (hl : Ld P t (ee.drop c) x := by first | exact Zq | exact Z5d | exact Zem | exact Zen | exact Zeo | exact Zep) (hd : Nat.blt d n = true := by rfl) : AOps P ro ops ({ dst := some d, op := .load t p, type := ty, pos := po, after := af, guard := some (g, gb) } :: rest) Q ⟨T, H, D, n⟩ := Z0b j (wY rfl g1 g2 g3) hd rfl hp hH he hl h
theorem zSt {m id sz i c el : Nat} {b : Bool} {es : List (List AV)} {ee : List AV} {H' : AHeap} (j : Nat) [kt : TK P t b m] (h : AOps P ro ops rest Q ⟨T, H', D, n⟩) (hp : ev T p = some (.ptr id sz i c) := by rfl) (hH : H[j]? = some (id, .rows el sz es) := by rfl) (he : es[i]? = some ee := by rfl) (hq : ev T q = some x := by rfl) (hx : (cellsA x).length = m := by rfl) (h1 : (cellsA x).all one = true := by rfl) (hc : Nat.ble (c + m) sz = true := by rfl) (hh : H.set j (id, .rows el sz (es.set i (ee.take c ++ cellsA x ++ ee.drop (c + (cellsA x).length)))) = H' := by rfl) : AOps P ro ops ({ dst := none, op := .store t p q, type := ty, pos := po, after := af, guard := none } :: rest) Q ⟨T, H, D, n⟩ := by subst hh; exact Z0p j (w0 rfl) rfl rfl hp hH he hq hx h1 hc h
theorem Z1w {id sz i c el : Nat} {es : List (List AV)} {ee : List AV} (j : Nat) (h : Calm P ops H0 KK (kk + 1) rest M ⟨(d, x) :: T, H, D, n⟩) (hp : ev T p = some (.ptr id sz i c) := by rfl) (hH : H0[j]? = some (id, .rows el sz es) := by rfl) (he : es[i]? = some ee := by rfl) (hl : Ld P t (ee.drop c) x := by first | exact Zq | exact Z5d | exact Zem | exact Zen | exact Zeo | exact Zep) (hd : Nat.blt d n = true := by rfl) : Calm P ops H0 KK kk ({ dst := some d, op := .load t p, type := ty, pos := po, after := af, guard := none } :: rest) M ⟨T, H, D, n⟩ := Zy j (w0 rfl) hd rfl hp hH he hl h
theorem Z0n {id sz i c el g gt : Nat} {gb : Bool} {og : Oper} {es : List (List AV)} {ee : List AV} (j : Nat) (h : Calm P ops H0 KK (kk + 1) rest M ⟨(d, x) :: T, H, D, n⟩) (g1 : ops[g]? = some og := by rfl) (g2 : og.dst = some gt := by rfl) (g3 : lk T gt = some (.v (.bool gb)) := by rfl) (hp : ev T p = some (.ptr id sz i c) := by rfl) (hH : H0[j]? = some (id, .rows el sz es) := by rfl) (he : es[i]? = some ee := by rfl) (hl : Ld P t (ee.drop c) x := by first | exact Zq | exact Z5d | exact Zem | exact Zen | exact Zeo | exact Zep) (hd : Nat.blt d n = true := by rfl) : Calm P ops H0 KK kk ({ dst := some d, op := .load t p, type := ty, pos := po, after := af, guard := some (g, gb) } :: rest) M ⟨T, H, D, n⟩ := Zy j (wY rfl g1 g2 g3) hd rfl hp hH he hl h
theorem Zdq (h : KK ⟨T, H, D, n⟩) : Calm P ops H0 KK kk [] M ⟨T, H, D, n⟩ := .done h
theorem zcD {g gt : Nat} {gb : Bool} {og : Oper} {op : Op} (h : Calm P ops H0 KK (kk + 1) rest M ⟨(d, .v undef) :: T, H, D, n⟩) (g1 : ops[g]? = some og := by rfl) (g2 : og.dst = some gt := by rfl) (g3 : lk T gt = some (.v (.bool (!gb))) := by rfl) (hd : Nat.blt d n = true := by rfl) : Calm P ops H0 KK kk ({ dst := some d, op := op, type := ty, pos := po, after := af, guard := some (g, gb) } :: rest) M ⟨T, H, D, n⟩ := .off (wZ rfl g1 g2 g3) hd h
theorem Za9 {id : Nat} {l : List Oper} (h : Calm P l.toArray H (AOps P ro l.toArray [] Q) 0 l [] ⟨T, H, D, n⟩) (hm : P.follows .mixedOrders = true := by rfl) (ht : tidyM l.toArray (masksOf l) l.length = true := by kernel_rfl) : AWp P ro (.region id l.toArray true) Q ⟨T, H, D, n⟩ := Z0i (masksOf l) l.length hm (by rw [List.take_length]; exact ht) (by rw [List.take_length, List.drop_length]; exact h)
theorem zN (h : Q .normal ⟨T, H, D, n⟩) : AOps P ro ops [] Q ⟨T, H, D, n⟩ := Z5 h
variable {s : St}
theorem tqR {K : St → Prop} (h : Q .ret s) : thenQ K Q .ret s := h
theorem bqR {i : Nat} (h : Q .ret s) : blockQ i Q .ret s := h
theorem tqN {K : St → Prop} (h : K s) : thenQ K Q .normal s := h
theorem bqN {i : Nat} (h : Q .normal s) : blockQ i Q .normal s := h
theorem tqX {K : St → Prop} {i : Nat} (h : Q (.exit i) s) : thenQ K Q (.exit i) s := h
theorem bqX {i : Nat} (h : Q .normal s) : blockQ i Q (.exit i) s := by simp only [blockQ, if_true]; exact h
theorem qcT {c : Operand} {x y : Code} (h : AWp P ro x Q s) (hc : ev s.T c = some (.v (.bool true)) := by rfl) : AWp P ro (.cond c x y) Q s := Zd hc (fun _ => h) nofun
theorem qcF {c : Operand} {x y : Code} (h : AWp P ro y Q s) (hc : ev s.T c = some (.v (.bool false)) := by rfl) : AWp P ro (.cond c x y) Q s := Zd hc nofun (fun _ => h)
theorem Zi8 (h : Q .ret s) : AWp P ro .ret Q s := Z01 h
theorem st2 {x0 x1 : AV} {c : Code} (h : AWp P ro c Q ⟨[(0, x0), (1, x1)], H, D, n⟩) : AWp P ro c Q ⟨enum [x0, x1] 0, H, D, n⟩ := h
end
theorem wk {A B : Prop} (x : A) (h : Wk A → B := by
 intro h
 repeat (first | refine qS ?_ | refine qR ?_ | refine zN ?_ | refine tqN ?_ | refine tqR ?_ | refine bqN ?_ | refine bqR ?_ | refine tqX ?_ | refine bqX ?_ | refine qB ?_ | refine qK ?_ | refine qcT ?_ | refine qcF ?_ | refine Zi8 ?_ | refine qX ?_ | refine zM ?_ | refine zA ?_ | refine zI ?_ | refine zX ?_ | refine zF ?_ | refine zB1 ?_ | refine zB2 ?_ | refine zB3 ?_ | refine zB4 ?_ | refine zB5 ?_ | refine zB7 ?_ | refine zB9 ?_ | refine Zi9 ?_ | refine zPT ?_ | refine zPF ?_ | refine zK ?_ | refine zJ ?_ | refine zP ?_ | refine zL ?_ | refine zNt ?_ | refine zUt ?_ | refine zUf ?_ | refine zU ?_ | refine zNc ?_ | refine zLn ?_ | refine Zic ?_ | refine Zib ?_ | refine zEq ?_ | refine zNe ?_ | refine Zia ?_ | refine zCv ?_ | refine zSx ?_ | refine zC0 ?_ | refine zC1 ?_ | refine zC2 ?_ | refine zC3 ?_ | refine zC4 ?_ | refine zLd 0 ?_ | refine zLd 1 ?_ | refine zLd 2 ?_ | refine zLd 3 ?_ | refine zSt 0 ?_ | refine zSt 1 ?_ | refine zSt 2 ?_ | refine zSt 3 ?_ | refine zD ?_ | refine zgM ?_ | refine zgA ?_ | refine zgI ?_ | refine zgX ?_ | refine zgF ?_ | refine Zj1 ?_ | refine Zj2 ?_ | refine Zj3 ?_ | refine Zj4 ?_ | refine Zj5 ?_ | refine Zj6 ?_ | refine Zj7 ?_ | refine Zhz ?_ | refine Zjj ?_ | refine Zji ?_ | refine zgK ?_ | refine zgJ ?_ | refine zgP ?_ | refine zgL ?_ | refine Zjh ?_ | refine Zjm ?_ | refine Zjl ?_ | refine zgU ?_ | refine Zjf ?_ | refine Z6n ?_ | refine Zi2 ?_ | refine Zi1 ?_ | refine Zje ?_ | refine Zjg ?_ | refine Zi0 ?_ | refine Zjd ?_ | refine Zjk ?_ | refine Zj8 ?_ | refine Zj9 ?_ | refine Zja ?_ | refine Zjb ?_ | refine Zjc ?_ | refine Z33 0 ?_ | refine Z33 1 ?_ | refine Z33 2 ?_ | refine Z33 3 ?_ | refine Za9 ?_ | refine zcM ?_ | refine zcA ?_ | refine zcI ?_ | refine zcX ?_ | refine zcF ?_ | refine Zid ?_ | refine Zie ?_ | refine Zif ?_ | refine Zig ?_ | refine Zih ?_ | refine Zii ?_ | refine Zij ?_ | refine Zhb ?_ | refine Z6o ?_ | refine Z6m ?_ | refine zcK ?_ | refine zcJ ?_ | refine zcP ?_ | refine zcL ?_ | refine Zgd ?_ | refine Zit ?_ | refine Zis ?_ | refine zcU ?_ | refine Ziq ?_ | refine Zip ?_ | refine Zhe ?_ | refine Zhd ?_ | refine Zio ?_ | refine Zhf ?_ | refine Zhc ?_ | refine Zin ?_ | refine Zir ?_ | refine Zh7 ?_ | refine Zik ?_ | refine Z5e ?_ | refine Zil ?_ | refine Zim ?_ | refine Z2q ?_ | refine Ziu ?_ | refine Ziv ?_ | refine Zj0 ?_ | refine Zaa ?_ | refine Zhg ?_ | refine Zhh ?_ | refine Zhi ?_ | refine Zhj ?_ | refine Zhk ?_ | refine Zhl ?_ | refine Zhm ?_ | refine Zh3 ?_ | refine Z29 ?_ | refine Z28 ?_ | refine Zix ?_ | refine Ziw ?_ | refine Ziz ?_ | refine Ziy ?_ | refine Zab ?_ | refine Zhy ?_ | refine Zhx ?_ | refine Zi6 ?_ | refine Zhu ?_ | refine Zht ?_ | refine Zh6 ?_ | refine Zh5 ?_ | refine Zhs ?_ | refine Zhv ?_ | refine Zh4 ?_ | refine Zhr ?_ | refine Zhw ?_ | refine Zhn ?_ | refine Zho ?_ | refine Z1x ?_ | refine Zhp ?_ | refine Zhq ?_ | refine Z1w 0 ?_ | refine Z1w 1 ?_ | refine Z1w 2 ?_ | refine Z1w 3 ?_ | refine Z0n 0 ?_ | refine Z0n 1 ?_ | refine Z0n 2 ?_ | refine Z0n 3 ?_ | refine Zdq ?_ | refine zcD ?_)
 exact h.x) : B := h ⟨x⟩
end Go.Sx
namespace Go.Sx
open Go
def ltS (a b : Str) : Bool := Op.bytesLess a.toList b.toList
def ddS (o : List Str) (s : Str) : List Str := if inL o s then o else o ++ [s]
def dd (l : List Str) : List Str := l.foldl ddS []
theorem Zca (l : List Str) (s : Str) : s ∈ dd l ↔ s ∈ l := by
 have key : ∀ (l o : List Str), s ∈ l.foldl ddS o ↔ s ∈ o ∨ s ∈ l := by
  intro l
  induction l with
  | nil => intro o; simp
  | cons x l ih =>
   intro o
   rw [List.foldl_cons, ih]
   unfold ddS
   split
   ·rename_i h
    have h := inL_mem.1 h
    constructor
    ·rintro (h1 | h1); exact .inl h1; exact .inr (List.mem_cons_of_mem _ h1)
    ·rintro (h1 | h1); exact .inl h1; rcases List.mem_cons.1 h1 with rfl | h1; exact .inl h; exact .inr h1
   ·simp [or_assoc]
 simpa [dd] using key l []
theorem Z7d (l : List Str) : (dd l).Nodup := by
 have key : ∀ (l o : List Str), o.Nodup → (l.foldl ddS o).Nodup := by
  intro l
  induction l with
  | nil => intro o h; exact h
  | cons x l ih =>
   intro o h
   refine ih _ ?_
   unfold ddS
   split
   ·exact h
   ·rename_i h1
    rw [List.nodup_append]
    refine ⟨h, by simp, fun a ha b hb => ?_⟩
    rw [List.mem_singleton] at hb; subst hb
    rintro rfl; exact h1 (inL_mem.2 ha)
 exact key l [] List.nodup_nil
def swapS (l : List Str) (i j : Nat) : List Str := (l.set i (l.getD j default)).set j (l.getD i default)
def insK : Nat → List Str → List Str
 | 0, l => l
 | k + 1, l => if ltS (l.getD (k + 1) default) (l.getD k default) then insK k (swapS l (k + 1) k) else l
def outF : Nat → Nat → List Str → List Str
 | 0, _, l => l
 | f + 1, i, l => outF f (i + 1) (insK i l)
def risF (l : List Str) : List Str := outF ((dd l).length - 1) 1 (dd l)
theorem Z6g (l : List Str) (i j : Nat) : (swapS l i j).length = l.length := by simp [swapS]
theorem Z7k : ∀ (k : Nat) (l : List Str), (insK k l).length = l.length
 | 0, _ => rfl
 | k + 1, l => by unfold insK; split; rw [Z7k, Z6g]; rfl
theorem Z65 {l : List Str} {i : Nat} (h : i < l.length) : l.getD i default = l[i] := by simp [List.getD, h]
theorem Zbu {l : List Str} {i j : Nat} (hi : i < l.length) (hj : j < l.length) : (swapS l i j).Perm l := by
 unfold swapS
 rw [Z65 hi, Z65 hj]
 exact List.set_set_perm hi hj
theorem Z8t : ∀ (k : Nat) (l : List Str), k < l.length → (insK k l).Perm l
 | 0, _, _ => .refl _
 | k + 1, l, h => by
  unfold insK
  split
  ·exact (Z8t k _ (by rw [Z6g]; omega)).trans (Zbu h (by omega))
  ·exact .refl _
theorem Z8z : ∀ (f i : Nat) (l : List Str), i + f ≤ l.length → (outF f i l).Perm l
 | 0, _, _, _ => .refl _
 | f + 1, i, l, h => by
  unfold outF
  exact (Z8z f (i + 1) _ (by rw [Z7k]; omega)).trans (Z8t i l (by omega))
theorem Z4p (l : List Str) : (risF l).Perm (dd l) := by
 unfold risF
 cases h : (dd l).length with
 | zero => exact .refl _
 | succ n => exact Z8z _ _ _ (by omega)
def hasC (p : Prog) (s : Str) : Bool := (clsFind p s).isSome
def addS (p : Prog) (o : List Str) (u : Str) : List Str := if hasC p u && !inL o u then o ++ [u] else o
def addU (p : Prog) (l o : List Str) : List Str := l.foldl (addS p) o
theorem Zac (p : Prog) : ∀ (l o : List Str), ∃ r, addU p l o = o ++ r
 | [], o => ⟨[], by simp [addU]⟩
 | x :: l, o => by
  obtain ⟨r, h⟩ := Zac p l (addS p o x)
  have h2 : ∃ r2, addS p o x = o ++ r2 := by unfold addS; split; exact ⟨[x], rfl⟩; exact ⟨[], by simp⟩
  obtain ⟨r2, h2⟩ := h2
  exact ⟨r2 ++ r, by rw [show addU p (x :: l) o = addU p l (addS p o x) from rfl, h, h2]; simp⟩
theorem Z3e (p : Prog) (s : Str) : ∀ (l o : List Str), s ∈ addU p l o ↔ s ∈ o ∨ (s ∈ l ∧ hasC p s = true)
 | [], o => by simp [addU]
 | x :: l, o => by
  rw [show addU p (x :: l) o = addU p l (addS p o x) from rfl, Z3e p s l]
  unfold addS
  cases hx : hasC p x with
  | false =>
   simp only [Bool.false_and, Bool.false_eq_true, if_false, List.mem_cons]
   constructor
   ·rintro (h | ⟨h, h2⟩); exact .inl h; exact .inr ⟨.inr h, h2⟩
   ·rintro (h | ⟨rfl | h, h2⟩); exact .inl h; rw [hx] at h2; cases h2; exact .inr ⟨h, h2⟩
  | true =>
   cases hi : inL o x with
   | true =>
    have hi := inL_mem.1 hi
    simp only [Bool.not_true, Bool.and_false, Bool.false_eq_true, if_false, List.mem_cons]
    constructor
    ·rintro (h | ⟨h, h2⟩); exact .inl h; exact .inr ⟨.inr h, h2⟩
    ·rintro (h | ⟨rfl | h, h2⟩); exact .inl h; exact .inl hi; exact .inr ⟨h, h2⟩
   | false =>
    simp only [Bool.not_false, Bool.and_true, if_true, List.mem_append, List.mem_cons, List.not_mem_nil, or_false]
    constructor
    ·rintro ((h | rfl) | ⟨h, h2⟩); exact .inl h; exact .inr ⟨.inl rfl, hx⟩; exact .inr ⟨.inr h, h2⟩
    ·rintro (h | ⟨rfl | h, h2⟩); exact .inl (.inl h); exact .inl (.inr rfl); exact .inr ⟨h, h2⟩
theorem Z6r (p : Prog) : ∀ (l o : List Str), o.Nodup → (addU p l o).Nodup
 | [], o, h => h
 | x :: l, o, h => by
  refine Z6r p l _ ?_
  unfold addS
  split
  ·rename_i h1
   rw [List.nodup_append]
   refine ⟨h, by simp, fun a ha b hb => ?_⟩
   rw [List.mem_singleton] at hb; subst hb
   rintro rfl
   rw [inL_mem.2 ha] at h1; simp at h1
  ·exact h
theorem Z4k {p : Prog} {s : Str} (h : hasC p s = true) : ∃ c, clsFind p s = some c := Option.isSome_iff_exists.1 h
theorem Z7j {p : Prog} {s : Str} (h : hasC p s = true) : s ∈ p.classes.map Cls.name := by
 obtain ⟨c, h⟩ := Z4k h
 obtain ⟨h1, h2⟩ := Z0x h
 exact List.mem_map.2 ⟨c, h2, h1⟩
structure AncB (p : Prog) (nm : Str) (out : List Str) (i : Nat) : Prop where
 nd : out.Nodup
 has : ∀ x, x ∈ out → hasC p x = true
 snd : ∀ x, x ∈ out → Anc p nm x
 st : hasC p nm = true → nm ∈ out
 cl : ∀ j, j < i → ∀ s, out[j]? = some s → ∀ c, clsFind p s = some c → ∀ u, u ∈ upC c → hasC p u = true → u ∈ out
 le : i ≤ out.length
theorem AncB.len {p : Prog} {nm : Str} {out : List Str} {i : Nat} (h : AncB p nm out i) : out.length ≤ p.classes.length := by
 have := Z1n h.nd (fun x hx => Z7j (h.has x hx))
 simpa using this
theorem AncB.step {p : Prog} {nm : Str} {out : List Str} {i : Nat} (h : AncB p nm out i) (hi : i < out.length) {c : Cls} (hc : clsFind p out[i] = some c) : AncB p nm (addU p (upC c) out) (i + 1) := by
 obtain ⟨r, hr⟩ := Zac p (upC c) out
 have ha := h.snd _ (List.getElem_mem hi)
 refine ⟨Z6r p _ _ h.nd, ?_, ?_, fun h2 => (Z3e ..).2 (.inl (h.st h2)), ?_, ?_⟩
 ·intro x hx
  rcases (Z3e ..).1 hx with h1 | h1
  ·exact h.has x h1
  ·exact h1.2
 ·intro x hx
  rcases (Z3e ..).1 hx with h1 | h1
  ·exact h.snd x h1
  ·obtain ⟨d, hd⟩ := Z4k h1.2
   exact .step ha hc h1.1 hd
 ·intro j hj s hs d hd u hu hh
  have hjl : j < out.length := by omega
  have hs' : out[j]? = some s := by rw [hr, List.getElem?_append_left hjl] at hs; exact hs
  rcases Nat.lt_succ_iff_lt_or_eq.1 hj with h1 | h1
  ·exact (Z3e ..).2 (.inl (h.cl j h1 s hs' d hd u hu hh))
  ·subst h1
   rw [List.getElem?_eq_getElem hjl] at hs'; cases hs'
   rw [hc] at hd; cases hd
   exact (Z3e ..).2 (.inr ⟨hu, hh⟩)
 ·rw [hr, List.length_append]; omega
theorem AncB.fin {p : Prog} {nm : Str} {out : List Str} {i : Nat} (h : AncB p nm out i) (hi : ¬ i < out.length) (s : Str) : s ∈ out ↔ Anc p nm s := by
 refine ⟨h.snd s, fun ha => ?_⟩
 induction ha with
 | base hc => exact h.st (by simp [hasC, hc])
 | step _ hc hu hd ih =>
  obtain ⟨j, hj, e⟩ := List.getElem_of_mem ih
  exact h.cl j (by omega) _ (by rw [List.getElem?_eq_getElem hj, e]) _ hc _ hu (by simp [hasC, hd])
noncomputable def chk1 (p : Prog) (c : Cls) : Int :=
 if !beqS c.super zS && !hasC p c.super then 7 else if c.ifaces.any fun s => !hasC p s then 7 else if !beqS c.super zS && ifaceP p c.super then 9 else if c.ifaces.any fun s => !ifaceP p s then 9 else 0
noncomputable def chk2 (p : Prog) (c : Cls) : Bool := (!beqS c.super zS && subP p c.super c.name) || c.ifaces.any fun s => subP p s c.name
noncomputable def checkP (p : Prog) : Int × Str := match p.classes.find? fun c => chk1 p c != 0 with
 | some c => (chk1 p c, c.name)
 | none => match p.classes.find? fun c => chk2 p c with
  | some c => (8, c.name)
  | none => (0, zS)
structure SoundP (p : Prog) : Prop where
 one : ∀ c, c ∈ p.classes → chk1 p c = 0
 two : ∀ c, c ∈ p.classes → chk2 p c = false
noncomputable def f1 (p : Prog) (c : Cls) : Bool := chk1 p c != 0
def nNo : Str := ⟨#[78, 111]⟩
def nearK (k : Int) : Int := (k.tmod 7 + 7).tmod 7
def nearF (p : Prog) (f : Fact) (k : Int) : Fact :=
 ⟨nearK f.kind, if nearK f.kind = 3 ∨ nearK f.kind = 5 then (if 0 < p.classes.length ∧ k < 250 then (p.classes.getD (k.tmod p.classes.length).toNat default).name else nNo) else zS⟩
end Go.Sx
namespace Go.Sx
open Go
theorem Anc.trans {p : Prog} {a b c : Str} (h : Anc p a b) (k : Anc p b c) : Anc p a c := by
 induction k with
 | base _ => exact h
 | step _ hc hu hd ih => exact .step ih hc hu hd
theorem Anc.known {p : Prog} {a b : Str} (h : Anc p a b) : hasC p b = true := by
 cases h with
 | base hc => simp [hasC, hc]
 | step _ _ _ hd => simp [hasC, hd]
theorem subP_iff {p : Prog} {a b : Str} : subP p a b = true ↔ Anc p a b := by unfold subP; simp
theorem Zdj {p : Prog} {a b : Str} (h : subP p a b = false) : ¬ Anc p a b := fun k => by rw [subP_iff.2 k] at h; cases h
theorem beqS_no {a b : Str} : beqS a b = false ↔ a ≠ b := by
 cases h : beqS a b with
 | true => have := beqS_iff.1 h; simp [this]
 | false => simp; intro e; subst e; rw [Z81] at h; cases h
structure UpOK (p : Prog) (c : Cls) : Prop where
 sup : c.super ≠ zS → hasC p c.super = true ∧ ifaceP p c.super = false ∧ ¬ Anc p c.super c.name
 ifs : ∀ s, s ∈ c.ifaces → hasC p s = true ∧ ifaceP p s = true ∧ ¬ Anc p s c.name
theorem SoundP.ok {p : Prog} (h : SoundP p) {c : Cls} (hc : c ∈ p.classes) : UpOK p c := by
 have h1 := h.one c hc
 have h2 := h.two c hc
 unfold chk1 at h1
 unfold chk2 at h2
 have h3 : (!beqS c.super zS && !hasC p c.super) = false ∧ (c.ifaces.any fun s => !hasC p s) = false ∧ (!beqS c.super zS && ifaceP p c.super) = false ∧ (c.ifaces.any fun s => !ifaceP p s) = false := by
  revert h1
  generalize (!beqS c.super zS && !hasC p c.super) = a
  generalize (c.ifaces.any fun s => !hasC p s) = b
  generalize (!beqS c.super zS && ifaceP p c.super) = d
  generalize (c.ifaces.any fun s => !ifaceP p s) = e
  cases a <;> cases b <;> cases d <;> cases e <;> simp
 obtain ⟨a1, a2, a3, a4⟩ := h3
 rw [Bool.or_eq_false_iff] at h2
 obtain ⟨a5, a6⟩ := h2
 rw [List.any_eq_false] at a2 a4 a6
 refine ⟨fun hn => ?_, fun s hs => ⟨by simpa using a2 s hs, by simpa using a4 s hs, Zdj (by simpa using a6 s hs)⟩⟩
 rw [beqS_no.2 hn] at a1 a3 a5
 exact ⟨by simpa using a1, by simpa using a3, Zdj (by simpa using a5)⟩
theorem Zfc {p : Prog} (hs : SoundP p) {s : Str} {c : Cls} (hc : clsFind p s = some c) (hn : c.super ≠ zS) : Anc p s c.super := by
 obtain ⟨d, hd⟩ := Z4k ((hs.ok (Z0x hc).2).sup hn).1
 exact .step (.base hc) hc (by unfold upC; rw [beqS_no.2 hn]; exact List.mem_cons_self) hd
theorem Zi3 {p : Prog} (hs : SoundP p) {s : Str} {c : Cls} (hc : clsFind p s = some c) (hn : c.super ≠ zS) : ¬ Anc p c.super s := by
 have := ((hs.ok (Z0x hc).2).sup hn).2.2
 rwa [(Z0x hc).1] at this
theorem Z8b {α : Type} {q r : α → Bool} : ∀ {l : List α} {a : α}, (∀ z, q z = true → r z = true) → a ∈ l → r a = true → q a = false → l.countP q < l.countP r
 | [], _, _, h, _, _ => nomatch h
 | x :: l, a, hm, h, hr, hq => by
  rw [List.countP_cons, List.countP_cons]
  rcases List.mem_cons.1 h with rfl | h
  ·have := List.countP_mono_left (l := l) (p := q) (q := r) (fun z _ => hm z)
   rw [hr, hq]; simp; omega
  ·have ih := Z8b hm h hr hq
   have : (if q x = true then 1 else 0) ≤ (if r x = true then 1 else 0 : Nat) := by
    cases hqx : q x with
    | false => simp
    | true => rw [hm x hqx]; simp
   omega
noncomputable def mu (p : Prog) (s : Str) : Nat := (p.classes.map Cls.name).countP (subP p s)
theorem Zg4 {p : Prog} (hs : SoundP p) {s : Str} {c : Cls} (hc : clsFind p s = some c) (hn : c.super ≠ zS) : mu p c.super < mu p s := by
 refine Z8b (a := s) (fun z hz => subP_iff.2 ((Zfc hs hc hn).trans (subP_iff.1 hz))) (Z7j (by simp [hasC, hc])) (subP_iff.2 (.base hc)) ?_
 cases h : subP p c.super s with
 | false => rfl
 | true => exact absurd (subP_iff.1 h) (Zi3 hs hc hn)
theorem Zd2 {p : Prog} {s : Str} (h : mu p s = 0) : clsFind p s = none := by
 cases hc : clsFind p s with
 | none => rfl
 | some c =>
  have hm : s ∈ p.classes.map Cls.name := Z7j (by simp [hasC, hc])
  have := List.countP_pos_iff.2 ⟨s, hm, subP_iff.2 (.base hc)⟩
  unfold mu at h; omega
theorem Zha (p : Prog) (s : Str) : mu p s ≤ p.classes.length := by
 have := List.countP_le_length (p := subP p s) (l := p.classes.map Cls.name)
 simpa [mu] using this
def chain (p : Prog) : Nat → Str → List Str
 | 0, _ => []
 | n + 1, s => match clsFind p s with
  | none => []
  | some c => s :: (if beqS c.super zS then [] else chain p n c.super)
theorem Z5s {p : Prog} (hs : SoundP p) : ∀ {n : Nat} {s z : Str}, z ∈ chain p n s → Anc p s z
 | 0, _, _, h => nomatch h
 | n + 1, s, z, h => by
  unfold chain at h
  cases hc : clsFind p s with
  | none => rw [hc] at h; cases h
  | some c =>
   rw [hc] at h
   rcases List.mem_cons.1 h with rfl | h
   ·exact .base hc
   ·cases hb : beqS c.super zS with
    | true => rw [hb] at h; cases h
    | false => rw [hb] at h; exact (Zfc hs hc (beqS_no.1 hb)).trans (Z5s hs h)
theorem Z3p {p : Prog} (hs : SoundP p) : ∀ (n : Nat) (s : Str) (out : List Str), (∀ z, z ∈ out → z ∉ chain p n s) → supF p n s out = out ++ chain p n s
 | 0, _, out, _ => by simp [supF, chain]
 | n + 1, s, out, h => by
  unfold supF chain
  unfold chain at h
  cases hc : clsFind p s with
  | none => simp
  | some c =>
   rw [hc] at h
   simp only at h ⊢
   rw [(Z0x hc).1]
   have hin : inL out s = false := inL_false.2 fun hx => h s hx List.mem_cons_self
   rw [hin]
   cases hb : beqS c.super zS with
   | true => simp
   | false =>
    rw [hb] at h
    simp only [Bool.false_eq_true, if_false] at h ⊢
    rw [Z3p hs n c.super (out ++ [s])]
    ·simp
    ·intro z hz hk
     rcases List.mem_append.1 hz with hz | hz
     ·exact h z hz (List.mem_cons_of_mem _ hk)
     ·rw [List.mem_singleton] at hz; subst hz
      exact Zi3 hs hc (beqS_no.1 hb) (Z5s hs hk)
theorem Z56 {p : Prog} (hs : SoundP p) : ∀ (n m : Nat) (s : Str), mu p s ≤ n → mu p s ≤ m → chain p n s = chain p m s
 | 0, 0, _, _, _ => rfl
 | 0, m + 1, s, h, _ => by unfold chain; rw [Zd2 (by omega)]
 | n + 1, 0, s, _, h => by unfold chain; rw [Zd2 (by omega)]
 | n + 1, m + 1, s, h1, h2 => by
  unfold chain
  cases hc : clsFind p s with
  | none => rfl
  | some c =>
   simp only
   cases hb : beqS c.super zS with
   | true => rfl
   | false =>
    have := Zg4 hs hc (beqS_no.1 hb)
    simp only [Bool.false_eq_true, if_false]
    rw [Z56 hs n m c.super (by omega) (by omega)]
theorem Z6f {p : Prog} {s : Str} (h : clsFind p s = none) : supers p s = [] := by unfold supers supF; rw [h]
theorem Z6d {p : Prog} (hs : SoundP p) {s : Str} {c : Cls} (hc : clsFind p s = some c) : supers p s = s :: (if beqS c.super zS then [] else supers p c.super) := by
 unfold supers
 rw [Z3p hs _ _ _ (fun _ h => absurd h List.not_mem_nil), Z3p hs _ _ _ (fun _ h => absurd h List.not_mem_nil), List.nil_append, List.nil_append]
 conv => lhs; unfold chain
 rw [hc]
 simp only
 cases hb : beqS c.super zS with
 | true => rfl
 | false =>
  have h1 := Zg4 hs hc (beqS_no.1 hb)
  have h2 := Zha p s
  simp only [Bool.false_eq_true, if_false]
  rw [Z56 hs p.classes.length (p.classes.length + 1) c.super (by omega) (by omega)]
theorem Z3q {p : Prog} (hs : SoundP p) : ∀ (n : Nat) (x y : Str), mu p x ≤ n → y ∈ supers p x → ∃ pre, supers p x = pre ++ supers p y
 | 0, x, y, h, hy => by rw [Z6f (Zd2 (by omega))] at hy; cases hy
 | n + 1, x, y, h, hy => by
  cases hc : clsFind p x with
  | none => rw [Z6f hc] at hy; cases hy
  | some c =>
   have e := Z6d hs hc
   rw [e] at hy
   rcases List.mem_cons.1 hy with rfl | hy
   ·exact ⟨[], rfl⟩
   ·cases hb : beqS c.super zS with
    | true => rw [hb] at hy; cases hy
    | false =>
     rw [hb] at hy e
     simp only [Bool.false_eq_true, if_false] at hy e
     have := Zg4 hs hc (beqS_no.1 hb)
     obtain ⟨pre, h2⟩ := Z3q hs n c.super y (by omega) hy
     exact ⟨x :: pre, by rw [e, h2]; rfl⟩
theorem Z97 {p : Prog} (hs : SoundP p) {x y z : Str} (h : y ∈ supers p x) (k : z ∈ supers p y) : z ∈ supers p x := by
 obtain ⟨pre, e⟩ := Z3q hs _ x y (Nat.le_refl _) h
 rw [e]; exact List.mem_append_right _ k
theorem Z73 {p : Prog} (hs : SoundP p) {x y : Str} (h : y ∈ supers p x) : Anc p x y := by
 unfold supers at h
 rw [Z3p hs _ _ _ (fun _ h => absurd h List.not_mem_nil), List.nil_append] at h
 exact Z5s hs h
theorem Z6e {p : Prog} (hs : SoundP p) {x : Str} (h : hasC p x = true) : ∃ r, supers p x = x :: r := by
 obtain ⟨c, hc⟩ := Z4k h
 exact ⟨_, Z6d hs hc⟩
theorem Za7 {p : Prog} (hs : SoundP p) {x y : Str} (h : y ∈ supers p x) (k : x ∈ supers p y) : x = y := by
 obtain ⟨a, e1⟩ := Z3q hs _ x y (Nat.le_refl _) h
 obtain ⟨b, e2⟩ := Z3q hs _ y x (Nat.le_refl _) k
 have h1 := congrArg List.length e1
 have h2 := congrArg List.length e2
 simp only [List.length_append] at h1 h2
 have ha : a = [] := List.eq_nil_of_length_eq_zero (by omega)
 rw [ha, List.nil_append] at e1
 obtain ⟨r, hx⟩ := Z6e hs (Z73 hs k).known
 obtain ⟨r', hy⟩ := Z6e hs (Z73 hs h).known
 rw [hx, hy] at e1
 exact (List.cons.inj e1).1
def upS (p : Prog) (x z : Str) : Prop := z = x ∨ (ifaceP p x = false ∧ z ∈ supers p x)
theorem Zdl {p : Prog} (hs : SoundP p) {x y z : Str} (h : upS p x y) (k : upS p y z) : upS p x z := by
 rcases h with rfl | ⟨h1, h2⟩
 ·exact k
 ·rcases k with rfl | ⟨k1, k2⟩
  ·exact .inr ⟨h1, h2⟩
  ·exact .inr ⟨h1, Z97 hs h2 k2⟩
theorem Zex {p : Prog} (hs : SoundP p) {x y : Str} (h : upS p x y) (k : upS p y x) : x = y := by
 rcases h with rfl | ⟨_, h⟩
 ·rfl
 ·rcases k with rfl | ⟨_, k⟩
  ·rfl
  ·exact Za7 hs h k
theorem Zct {a b : Fact} (h1 : a.kind = b.kind) (h2 : a.cls = b.cls) : a = b := by cases a; cases b; cases h1; cases h2; rfl
def NearOK (f : Fact) : Prop := 0 ≤ f.kind ∧ f.kind ≤ 6 ∧ (f.kind = 3 ∨ f.kind = 5 ∨ f.cls = zS)
def rK (f : Fact) : Prop := 2 ≤ f.kind ∧ f.kind ≤ 6
def LeF (p : Prog) (a b : Fact) : Prop := a = b ∨ b = ⟨0, zS⟩ ∨ (rK a ∧ rK b ∧ (a.kind = 2 ∨ b.kind = 6 ∨ (a.kind = 3 ∧ b.kind = 3 ∧ upS p a.cls b.cls)))
theorem LeF.refl (p : Prog) (a : Fact) : LeF p a a := .inl rfl
theorem rK0 : ¬ rK ⟨0, zS⟩ := fun h => by have := h.1; simp at this
theorem LeF.trans {p : Prog} (hs : SoundP p) {a b c : Fact} (h : LeF p a b) (k : LeF p b c) : LeF p a c := by
 rcases h with rfl | rfl | ⟨h1, h2, h3⟩
 ·exact k
 ·rcases k with rfl | rfl | ⟨k1, k2, k3⟩
  ·exact .inr (.inl rfl)
  ·exact .inr (.inl rfl)
  ·exact absurd k1 rK0
 ·rcases k with rfl | rfl | ⟨k1, k2, k3⟩
  ·exact .inr (.inr ⟨h1, h2, h3⟩)
  ·exact .inr (.inl rfl)
  ·refine .inr (.inr ⟨h1, k2, ?_⟩)
   rcases h3 with h3 | h3 | ⟨h3, h4, h5⟩
   ·exact .inl h3
   ·rcases k3 with k3 | k3 | ⟨k3, _⟩
    ·omega
    ·exact .inr (.inl k3)
    ·omega
   ·rcases k3 with k3 | k3 | ⟨k3, k4, k5⟩
    ·omega
    ·exact .inr (.inl k3)
    ·exact .inr (.inr ⟨h3, k4, Zdl hs h5 k5⟩)
theorem LeF.anti {p : Prog} (hs : SoundP p) {a b : Fact} (ha : NearOK a) (hb : NearOK b) (h : LeF p a b) (k : LeF p b a) : a = b := by
 rcases h with rfl | rfl | ⟨h1, h2, h3⟩
 ·rfl
 ·rcases k with k | k | ⟨k1, _⟩
  ·exact k.symm
  ·exact k
  ·exact absurd k1 rK0
 ·rcases k with k | rfl | ⟨k1, k2, k3⟩
  ·exact k.symm
  ·exact absurd h1 rK0
  ·obtain ⟨_, _, ha⟩ := ha
   obtain ⟨_, _, hb⟩ := hb
   have zz : a.kind = b.kind → a.kind ≠ 3 → a.kind ≠ 5 → a = b := fun e n3 n5 => by
    refine Zct e ?_
    rcases ha with ha | ha | ha
    ·exact absurd ha n3
    ·exact absurd ha n5
    ·rcases hb with hb | hb | hb
     ·exact absurd (e.trans hb) n3
     ·exact absurd (e.trans hb) n5
     ·rw [ha, hb]
   rcases h3 with h3 | h3 | ⟨h3, h4, h5⟩
   ·rcases k3 with k3 | k3 | ⟨k3, k4, k5⟩
    ·exact zz (by omega) (by omega) (by omega)
    ·omega
    ·omega
   ·rcases k3 with k3 | k3 | ⟨k3, k4, k5⟩
    ·omega
    ·exact zz (by omega) (by omega) (by omega)
    ·omega
   ·rcases k3 with k3 | k3 | ⟨k3, k4, k5⟩
    ·omega
    ·omega
    ·exact Zct (by omega) (Zex hs h5 k5)
structure Lub (p : Prog) (a b j : Fact) : Prop where
 ok : NearOK j
 l : LeF p a j
 r : LeF p b j
 u : ∀ c, NearOK c → LeF p a c → LeF p b c → LeF p j c
section
variable {p : Prog} (hs : SoundP p) {a b c : Fact} (ha : NearOK a) (hb : NearOK b) (hc : NearOK c)
include hs ha hb
include hc
end
section
variable {p : Prog} (hs : SoundP p) {a b c : Fact} (ha : NearOK a) (hb : NearOK b) (hc : NearOK c)
include hs ha hb
include hc
end
end Go.Sx
