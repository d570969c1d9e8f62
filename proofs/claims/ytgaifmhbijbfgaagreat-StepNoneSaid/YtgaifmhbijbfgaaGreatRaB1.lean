/- YtgaifmhbijbfgaaGreatRaB1: texts of this claim, one behind the other. -/
import Derived.Test.YtgaifmhbijbfgaaGreatProg
import Derived.Maps.RangeRun
import Derived.AtR
import Derived.Test.YtgaifmhbijbfgaaGreatRaB0
set_option linter.unusedVariables false
set_option linter.unusedSimpArgs false
set_option linter.unusedSectionVars false
set_option linter.unnecessarySimpa false
namespace Go.Sx
open Go
abbrev Str := ByteArray
abbrev iA (n : Int) : AV := .v (.int .i64 n)
abbrev uA (n : Int) : AV := .v (.int .u8 n)
abbrev sA (s : Str) : AV := .v (.string s)
abbrev bA (b : Bool) : AV := .v (.bool b)
def row1 {α : Type} (f : α → AV) (l : List α) : AV := .lst (l.map fun x => [f x])
structure Ty where
 kind : Int
 cls : Str
 deriving DecidableEq
structure Instr where
 op : Int
 a : Int
 b : Int
 c : Int
 k : Int
 cls : Str
 name : Str
 desc : Str
 args : List Int
 deriving DecidableEq
structure Fld where
 name : Str
 type : Ty
 static : Bool
 deriving DecidableEq
structure Meth where
 name : Str
 desc : Str
 static : Bool
 abs : Bool
 regs : Int
 code : List Instr
 deriving DecidableEq
structure Cls where
 name : Str
 super : Str
 iface : Bool
 abs : Bool
 ifaces : List Str
 fields : List Fld
 methods : List Meth
 deriving DecidableEq
structure MRef where
 cls : Str
 name : Str
 desc : Str
 deriving DecidableEq
structure Prog where
 classes : List Cls
 names : List Str
 entry : MRef
 deriving DecidableEq
structure Fact where
 kind : Int
 cls : Str
 deriving DecidableEq
def Ty.cells (t : Ty) : List AV := [iA t.kind, sA t.cls]
def Instr.cells (i : Instr) : List AV := [iA i.op, iA i.a, iA i.b, iA i.c, iA i.k, sA i.cls, sA i.name, sA i.desc, row1 iA i.args]
def Fld.cells (f : Fld) : List AV := [sA f.name, iA f.type.kind, sA f.type.cls, bA f.static]
def Meth.cells (m : Meth) : List AV := [sA m.name, sA m.desc, bA m.static, bA m.abs, iA m.regs, .lst (m.code.map Instr.cells)]
def Cls.cells (c : Cls) : List AV := [sA c.name, sA c.super, bA c.iface, bA c.abs, row1 sA c.ifaces, .lst (c.fields.map Fld.cells), .lst (c.methods.map Meth.cells)]
def MRef.cells (m : MRef) : List AV := [sA m.cls, sA m.name, sA m.desc]
def Prog.cells (p : Prog) : List AV := [.lst (p.classes.map Cls.cells), row1 sA p.names, sA p.entry.cls, sA p.entry.name, sA p.entry.desc]
def Fact.cells (f : Fact) : List AV := [iA f.kind, sA f.cls]
def i64 (n : Int) : Prop := -9223372036854775808 ≤ n ∧ n ≤ 9223372036854775807
def small (n : Nat) : Prop := n ≤ 140737488351232
structure Ty.ok (t : Ty) : Prop where
 kind : i64 t.kind
 cls : small t.cls.size
structure Instr.ok (i : Instr) : Prop where
 op : i64 i.op
 a : i64 i.a
 b : i64 i.b
 c : i64 i.c
 k : i64 i.k
 cls : small i.cls.size
 name : small i.name.size
 desc : small i.desc.size
 args : small i.args.length ∧ ∀ x, x ∈ i.args → i64 x
structure Fld.ok (f : Fld) : Prop where
 name : small f.name.size
 type : f.type.ok
structure Meth.ok (m : Meth) : Prop where
 name : small m.name.size
 desc : small m.desc.size
 regs : i64 m.regs
 code : small m.code.length ∧ ∀ x, x ∈ m.code → x.ok
structure Cls.ok (c : Cls) : Prop where
 name : small c.name.size
 super : small c.super.size
 ifaces : small c.ifaces.length ∧ ∀ x, x ∈ c.ifaces → small x.size
 fields : small c.fields.length ∧ ∀ x, x ∈ c.fields → x.ok
 methods : small c.methods.length ∧ ∀ x, x ∈ c.methods → x.ok
structure MRef.ok (m : MRef) : Prop where
 cls : small m.cls.size
 name : small m.name.size
 desc : small m.desc.size
structure Prog.ok (p : Prog) : Prop where
 classes : small p.classes.length ∧ ∀ x, x ∈ p.classes → x.ok
 names : small p.names.length ∧ ∀ x, x ∈ p.names → small x.size
 entry : p.entry.ok
structure Fact.ok (f : Fact) : Prop where
 kind : i64 f.kind
 cls : small f.cls.size
def Dec (P : Program) (t : TypeId) {α : Type} (cells : α → List AV) (ok : α → Prop) : Prop := ∀ xs, TV P t xs → ∃ x : α, xs = cells x ∧ ok x
def fts (P : Program) (t : TypeId) : Option (List TypeId) := match P.underlying t with
 | some (.struct fs) => some (fs.toList.map (·.type))
 | _ => none
theorem Z8y {P : Program} {t : TypeId} (h : (fts P t).isSome = true) : ∃ fs, P.underlying t = some (.struct fs) := by
 unfold fts at h
 split at h
 ·exact ⟨_, by assumption⟩
 ·cases h
inductive TVF (P : Program) : List TypeId → List AV → Prop
 | nil : TVF P [] []
 | cons {t : TypeId} {ts : List TypeId} {x y : List AV} (h : TV P t x) (r : TVF P ts y) : TVF P (t :: ts) (x ++ y)
section
variable {P : Program} {t : TypeId}
theorem dec_int (hu : P.underlying t = some (.int .i64)) : Dec P t (fun n => [iA n]) i64 := by
 intro xs h
 cases h with
 | int n h hn => rw [hu] at h; cases h; exact ⟨n, rfl, _root_.Go.bounds_i64 hn⟩
 | _ => simp_all
theorem Zas (hu : P.underlying t = some .string) : Dec P t (fun s => [sA s]) (fun s => small s.size) := by
 intro xs h
 cases h with
 | string s h hs => exact ⟨s, rfl, hs⟩
 | _ => simp_all
theorem Zdh {α : Type} {cells : α → List AV} {ok : α → Prop} : ∀ (es : List (List AV)), (∀ x : List AV, x ∈ es → ∃ y : α, x = cells y ∧ ok y) → ∃ l : List α, es = l.map cells ∧ ∀ x, x ∈ l → ok x
 | [], _ => ⟨[], rfl, nofun⟩
 | e :: es, h => by
  obtain ⟨y, rfl, hy⟩ := h e List.mem_cons_self
  obtain ⟨l, rfl, hl⟩ := Zdh es (fun x hx => h x (List.mem_cons_of_mem _ hx))
  refine ⟨y :: l, rfl, fun x hx => ?_⟩
  rcases List.mem_cons.1 hx with rfl | hx
  ·exact hy
  ·exact hl x hx
theorem dec_list {e : TypeId} {α : Type} {cells : α → List AV} {ok : α → Prop} (hu : P.underlying t = some (.slice e)) (hb : Nat.blt 0 (P.bytesOf e) = true) (he : Dec P e cells ok) :
  Dec P t (fun l : List α => [.lst (l.map cells)]) (fun l => small l.length ∧ ∀ x, x ∈ l → ok x) := by
 intro xs h
 cases h with
 | slice es h hl hm hes =>
  rw [hu] at h; cases h
  obtain ⟨l, rfl, hok⟩ := Zdh es (fun x hx => he x (hes x hx))
  refine ⟨l, rfl, ?_, hok⟩
  have hb : 0 < P.bytesOf e := Nat.blt_eq ▸ hb
  rw [List.length_map] at hl
  have h1 : l.length * 1 ≤ l.length * P.bytesOf e := Nat.mul_le_mul_left _ hb
  have h2 : reachBytes = 140737488351232 := rfl
  unfold small
  omega
 | _ => simp_all
theorem Zc2 {ts : List TypeId} {xs : List AV} (h : fts P t = some ts) (hv : TV P t xs) : TVF P ts xs := by
 unfold fts at h
 split at h
 ·rename_i fs hu
  simp only [Option.some.injEq] at h
  subst h
  cases hv with
  | struct parts h hl hp =>
   rw [hu] at h; cases h
   have claim : ∀ (fl : List Field) (parts : List (List AV)), parts.length = fl.length → (∀ (i : Nat) (f : Field) (x : List AV), fl[i]? = some f → parts[i]? = some x → TV P f.type x) → TVF P (fl.map (·.type)) parts.flatten := by
    intro fl
    induction fl with
    | nil => intro parts hl _; cases parts with | nil => exact .nil | cons => simp at hl
    | cons f fl ih =>
     intro parts hl hp
     cases parts with
     | nil => simp at hl
     | cons x parts =>
      exact .cons (hp 0 f x rfl rfl) (ih parts (by simpa using hl) (fun i f x h1 h2 => hp (i + 1) f x (by simpa using h1) (by simpa using h2)))
   exact claim _ _ (by simpa using hl) (fun i f x h1 h2 => hp i f x (by simpa using h1) h2)
  | _ => simp_all
 ·cases h
theorem Zc1 {α : Type} {cells : α → List AV} {ok : α → Prop} {ts : List TypeId} {xs : List AV} (hd : Dec P t cells ok) (h : TVF P (t :: ts) xs) : ∃ (x : α) (ys : List AV), xs = cells x ++ ys ∧ ok x ∧ TVF P ts ys := by
 cases h with
 | cons h r =>
  obtain ⟨x, rfl, hx⟩ := hd _ h
  exact ⟨x, _, rfl, hx, r⟩
theorem Zf6 {xs : List AV} (h : TVF P [] xs) : xs = [] := by cases h; rfl
section
variable {i s b li ls tt ti tf tm tc tr lI lF lM lC : TypeId}
end
end
theorem txs_one {P : Program} {α : Type} {f : α → AV} {ok : α → Prop} {t : TypeId} {ts : List TypeId} {xs : List AV} (hd : Dec P t (fun a => [f a]) ok) (hn : isAggT P t = false) (h : TXs P (t :: ts) xs) :
  ∃ (a : α) (ys : List AV), xs = f a :: ys ∧ ok a ∧ TXs P ts ys := by
 cases h with
 | agg hn' _ _ => rw [hn] at hn'; cases hn'
 | one _ h r => obtain ⟨a, e, ha⟩ := hd _ h; cases e; exact ⟨a, _, rfl, ha, r⟩
end Go.Sx
namespace Go.Sx
open Go
instance : TK Proofs.Tryz.prog 0 false 1 := ⟨by kernel_rfl⟩
instance : TK Proofs.Tryz.prog 1 false 1 := ⟨by kernel_rfl⟩
instance : ZC Proofs.Tryz.prog 1 [.nilFunc] := ⟨by kernel_rfl⟩
instance : TK Proofs.Tryz.prog 2 false 1 := ⟨by kernel_rfl⟩
instance : UD Proofs.Tryz.prog 2 (.int .i64) := ⟨by kernel_rfl⟩
instance : ZC Proofs.Tryz.prog 2 [.int .i64 0] := ⟨by kernel_rfl⟩
instance : TK Proofs.Tryz.prog 3 false 1 := ⟨by kernel_rfl⟩
instance : UD Proofs.Tryz.prog 3 (.int .i64) := ⟨by kernel_rfl⟩
instance : ZC Proofs.Tryz.prog 3 [.int .i64 0] := ⟨by kernel_rfl⟩
instance : TK Proofs.Tryz.prog 4 false 1 := ⟨by kernel_rfl⟩
instance : UD Proofs.Tryz.prog 4 (.bool) := ⟨by kernel_rfl⟩
instance : ZC Proofs.Tryz.prog 4 [.bool false] := ⟨by kernel_rfl⟩
instance : TK Proofs.Tryz.prog 5 false 1 := ⟨by kernel_rfl⟩
instance : UD Proofs.Tryz.prog 5 (.int .u8) := ⟨by kernel_rfl⟩
instance : ZC Proofs.Tryz.prog 5 [.int .u8 0] := ⟨by kernel_rfl⟩
instance : TK Proofs.Tryz.prog 7 true 4 := ⟨by kernel_rfl⟩
instance : FO Proofs.Tryz.prog 7 0 0 2 := ⟨by kernel_rfl⟩
instance : FO Proofs.Tryz.prog 7 1 1 3 := ⟨by kernel_rfl⟩
instance : FO Proofs.Tryz.prog 7 2 2 4 := ⟨by kernel_rfl⟩
instance : FO Proofs.Tryz.prog 7 3 3 6 := ⟨by kernel_rfl⟩
instance : ZC Proofs.Tryz.prog 7 [.int .i64 0, .int .i64 0, .bool false, .int .u8 0] := ⟨by kernel_rfl⟩
instance : TK Proofs.Tryz.prog 9 false 1 := ⟨by kernel_rfl⟩
instance : UD Proofs.Tryz.prog 9 (.string) := ⟨by kernel_rfl⟩
instance : ZC Proofs.Tryz.prog 9 [.string ⟨#[]⟩] := ⟨by kernel_rfl⟩
instance : TK Proofs.Tryz.prog 22 false 1 := ⟨by kernel_rfl⟩
instance : UD Proofs.Tryz.prog 22 (.slice 84) := ⟨by kernel_rfl⟩
instance : ZC Proofs.Tryz.prog 22 [.slice none 0 0] := ⟨by kernel_rfl⟩
instance : TK Proofs.Tryz.prog 23 false 1 := ⟨by kernel_rfl⟩
instance : UD Proofs.Tryz.prog 23 (.slice 9) := ⟨by kernel_rfl⟩
instance : ZC Proofs.Tryz.prog 23 [.slice none 0 0] := ⟨by kernel_rfl⟩
instance : TK Proofs.Tryz.prog 24 true 3 := ⟨by kernel_rfl⟩
instance : FO Proofs.Tryz.prog 24 0 0 9 := ⟨by kernel_rfl⟩
instance : FO Proofs.Tryz.prog 24 1 1 9 := ⟨by kernel_rfl⟩
instance : FO Proofs.Tryz.prog 24 2 2 9 := ⟨by kernel_rfl⟩
instance : ZC Proofs.Tryz.prog 24 [.string ⟨#[]⟩, .string ⟨#[]⟩, .string ⟨#[]⟩] := ⟨by kernel_rfl⟩
instance : TK Proofs.Tryz.prog 25 true 3 := ⟨by kernel_rfl⟩
instance : FO Proofs.Tryz.prog 25 0 0 9 := ⟨by kernel_rfl⟩
instance : FO Proofs.Tryz.prog 25 1 1 9 := ⟨by kernel_rfl⟩
instance : FO Proofs.Tryz.prog 25 2 2 9 := ⟨by kernel_rfl⟩
instance : ZC Proofs.Tryz.prog 25 [.string ⟨#[]⟩, .string ⟨#[]⟩, .string ⟨#[]⟩] := ⟨by kernel_rfl⟩
instance : TK Proofs.Tryz.prog 26 true 5 := ⟨by kernel_rfl⟩
instance : FO Proofs.Tryz.prog 26 0 0 22 := ⟨by kernel_rfl⟩
instance : FO Proofs.Tryz.prog 26 1 1 23 := ⟨by kernel_rfl⟩
instance : FO Proofs.Tryz.prog 26 2 2 25 := ⟨by kernel_rfl⟩
instance : ZC Proofs.Tryz.prog 26 [.slice none 0 0, .slice none 0 0, .string ⟨#[]⟩, .string ⟨#[]⟩, .string ⟨#[]⟩] := ⟨by kernel_rfl⟩
instance : TK Proofs.Tryz.prog 27 true 5 := ⟨by kernel_rfl⟩
instance : FO Proofs.Tryz.prog 27 0 0 22 := ⟨by kernel_rfl⟩
instance : FO Proofs.Tryz.prog 27 1 1 23 := ⟨by kernel_rfl⟩
instance : FO Proofs.Tryz.prog 27 2 2 25 := ⟨by kernel_rfl⟩
instance : ZC Proofs.Tryz.prog 27 [.slice none 0 0, .slice none 0 0, .string ⟨#[]⟩, .string ⟨#[]⟩, .string ⟨#[]⟩] := ⟨by kernel_rfl⟩
instance : TK Proofs.Tryz.prog 28 false 1 := ⟨by kernel_rfl⟩
instance : UD Proofs.Tryz.prog 28 (.slice 2) := ⟨by kernel_rfl⟩
instance : ZC Proofs.Tryz.prog 28 [.slice none 0 0] := ⟨by kernel_rfl⟩
instance : TK Proofs.Tryz.prog 31 false 1 := ⟨by kernel_rfl⟩
instance : UD Proofs.Tryz.prog 31 (.int .i64) := ⟨by kernel_rfl⟩
instance : ZC Proofs.Tryz.prog 31 [.int .i64 0] := ⟨by kernel_rfl⟩
instance : TK Proofs.Tryz.prog 32 false 1 := ⟨by kernel_rfl⟩
instance : UD Proofs.Tryz.prog 32 (.int .i64) := ⟨by kernel_rfl⟩
instance : ZC Proofs.Tryz.prog 32 [.int .i64 0] := ⟨by kernel_rfl⟩
instance : TK Proofs.Tryz.prog 37 false 1 := ⟨by kernel_rfl⟩
instance : UD Proofs.Tryz.prog 37 (.slice 124) := ⟨by kernel_rfl⟩
instance : ZC Proofs.Tryz.prog 37 [.slice none 0 0] := ⟨by kernel_rfl⟩
instance : TK Proofs.Tryz.prog 40 true 11 := ⟨by kernel_rfl⟩
instance : FO Proofs.Tryz.prog 40 0 0 31 := ⟨by kernel_rfl⟩
instance : FO Proofs.Tryz.prog 40 1 1 2 := ⟨by kernel_rfl⟩
instance : FO Proofs.Tryz.prog 40 2 2 32 := ⟨by kernel_rfl⟩
instance : FO Proofs.Tryz.prog 40 3 3 3 := ⟨by kernel_rfl⟩
instance : FO Proofs.Tryz.prog 40 4 4 33 := ⟨by kernel_rfl⟩
instance : FO Proofs.Tryz.prog 40 5 5 39 := ⟨by kernel_rfl⟩
instance : ZC Proofs.Tryz.prog 40 [.int .i64 0, .int .i64 0, .int .i64 0, .int .i64 0, .slice none 0 0, .slice none 0 0, .slice none 0 0, .slice none 0 0, .slice none 0 0, .slice none 0 0, .slice none 0 0] := ⟨by kernel_rfl⟩
instance : TK Proofs.Tryz.prog 41 true 11 := ⟨by kernel_rfl⟩
instance : FO Proofs.Tryz.prog 41 0 0 31 := ⟨by kernel_rfl⟩
instance : FO Proofs.Tryz.prog 41 1 1 2 := ⟨by kernel_rfl⟩
instance : FO Proofs.Tryz.prog 41 2 2 32 := ⟨by kernel_rfl⟩
instance : FO Proofs.Tryz.prog 41 3 3 3 := ⟨by kernel_rfl⟩
instance : FO Proofs.Tryz.prog 41 4 4 33 := ⟨by kernel_rfl⟩
instance : FO Proofs.Tryz.prog 41 5 5 39 := ⟨by kernel_rfl⟩
instance : ZC Proofs.Tryz.prog 41 [.int .i64 0, .int .i64 0, .int .i64 0, .int .i64 0, .slice none 0 0, .slice none 0 0, .slice none 0 0, .slice none 0 0, .slice none 0 0, .slice none 0 0, .slice none 0 0] := ⟨by kernel_rfl⟩
instance : TK Proofs.Tryz.prog 44 false 1 := ⟨by kernel_rfl⟩
instance : UD Proofs.Tryz.prog 44 (.pointer 113) := ⟨by kernel_rfl⟩
instance : ZC Proofs.Tryz.prog 44 [.pointer none] := ⟨by kernel_rfl⟩
instance : TK Proofs.Tryz.prog 46 false 1 := ⟨by kernel_rfl⟩
instance : UD Proofs.Tryz.prog 46 (.slice 116) := ⟨by kernel_rfl⟩
instance : ZC Proofs.Tryz.prog 46 [.slice none 0 0] := ⟨by kernel_rfl⟩
instance : TK Proofs.Tryz.prog 47 true 3 := ⟨by kernel_rfl⟩
instance : FO Proofs.Tryz.prog 47 0 0 46 := ⟨by kernel_rfl⟩
instance : FO Proofs.Tryz.prog 47 1 1 46 := ⟨by kernel_rfl⟩
instance : FO Proofs.Tryz.prog 47 2 2 46 := ⟨by kernel_rfl⟩
instance : ZC Proofs.Tryz.prog 47 [.slice none 0 0, .slice none 0 0, .slice none 0 0] := ⟨by kernel_rfl⟩
instance : TK Proofs.Tryz.prog 48 true 3 := ⟨by kernel_rfl⟩
instance : FO Proofs.Tryz.prog 48 0 0 46 := ⟨by kernel_rfl⟩
instance : FO Proofs.Tryz.prog 48 1 1 46 := ⟨by kernel_rfl⟩
instance : FO Proofs.Tryz.prog 48 2 2 46 := ⟨by kernel_rfl⟩
instance : ZC Proofs.Tryz.prog 48 [.slice none 0 0, .slice none 0 0, .slice none 0 0] := ⟨by kernel_rfl⟩
instance : TK Proofs.Tryz.prog 62 false 1 := ⟨by kernel_rfl⟩
instance : TK Proofs.Tryz.prog 64 false 1 := ⟨by kernel_rfl⟩
instance : UD Proofs.Tryz.prog 64 (.slice 185) := ⟨by kernel_rfl⟩
instance : ZC Proofs.Tryz.prog 64 [.slice none 0 0] := ⟨by kernel_rfl⟩
instance : TK Proofs.Tryz.prog 81 false 1 := ⟨by kernel_rfl⟩
instance : UD Proofs.Tryz.prog 81 (.slice 122) := ⟨by kernel_rfl⟩
instance : ZC Proofs.Tryz.prog 81 [.slice none 0 0] := ⟨by kernel_rfl⟩
instance : TK Proofs.Tryz.prog 83 true 7 := ⟨by kernel_rfl⟩
instance : FO Proofs.Tryz.prog 83 0 0 9 := ⟨by kernel_rfl⟩
instance : FO Proofs.Tryz.prog 83 1 1 9 := ⟨by kernel_rfl⟩
instance : FO Proofs.Tryz.prog 83 2 2 4 := ⟨by kernel_rfl⟩
instance : FO Proofs.Tryz.prog 83 3 3 4 := ⟨by kernel_rfl⟩
instance : FO Proofs.Tryz.prog 83 4 4 23 := ⟨by kernel_rfl⟩
instance : FO Proofs.Tryz.prog 83 5 5 81 := ⟨by kernel_rfl⟩
instance : FO Proofs.Tryz.prog 83 6 6 82 := ⟨by kernel_rfl⟩
instance : ZC Proofs.Tryz.prog 83 [.string ⟨#[]⟩, .string ⟨#[]⟩, .bool false, .bool false, .slice none 0 0, .slice none 0 0, .slice none 0 0] := ⟨by kernel_rfl⟩
instance : TK Proofs.Tryz.prog 84 true 7 := ⟨by kernel_rfl⟩
instance : FO Proofs.Tryz.prog 84 0 0 9 := ⟨by kernel_rfl⟩
instance : FO Proofs.Tryz.prog 84 1 1 9 := ⟨by kernel_rfl⟩
instance : FO Proofs.Tryz.prog 84 2 2 4 := ⟨by kernel_rfl⟩
instance : FO Proofs.Tryz.prog 84 3 3 4 := ⟨by kernel_rfl⟩
instance : FO Proofs.Tryz.prog 84 4 4 23 := ⟨by kernel_rfl⟩
instance : FO Proofs.Tryz.prog 84 5 5 81 := ⟨by kernel_rfl⟩
instance : FO Proofs.Tryz.prog 84 6 6 82 := ⟨by kernel_rfl⟩
instance : ZC Proofs.Tryz.prog 84 [.string ⟨#[]⟩, .string ⟨#[]⟩, .bool false, .bool false, .slice none 0 0, .slice none 0 0, .slice none 0 0] := ⟨by kernel_rfl⟩
instance : TK Proofs.Tryz.prog 85 false 1 := ⟨by kernel_rfl⟩
instance : UD Proofs.Tryz.prog 85 (.slice 91) := ⟨by kernel_rfl⟩
instance : ZC Proofs.Tryz.prog 85 [.slice none 0 0] := ⟨by kernel_rfl⟩
instance : TK Proofs.Tryz.prog 90 true 9 := ⟨by kernel_rfl⟩
instance : FO Proofs.Tryz.prog 90 0 0 88 := ⟨by kernel_rfl⟩
instance : FO Proofs.Tryz.prog 90 1 1 3 := ⟨by kernel_rfl⟩
instance : FO Proofs.Tryz.prog 90 2 2 3 := ⟨by kernel_rfl⟩
instance : FO Proofs.Tryz.prog 90 3 3 3 := ⟨by kernel_rfl⟩
instance : FO Proofs.Tryz.prog 90 4 4 2 := ⟨by kernel_rfl⟩
instance : FO Proofs.Tryz.prog 90 5 5 9 := ⟨by kernel_rfl⟩
instance : FO Proofs.Tryz.prog 90 6 6 9 := ⟨by kernel_rfl⟩
instance : FO Proofs.Tryz.prog 90 7 7 9 := ⟨by kernel_rfl⟩
instance : FO Proofs.Tryz.prog 90 8 8 89 := ⟨by kernel_rfl⟩
instance : ZC Proofs.Tryz.prog 90 [.int .i64 0, .int .i64 0, .int .i64 0, .int .i64 0, .int .i64 0, .string ⟨#[]⟩, .string ⟨#[]⟩, .string ⟨#[]⟩, .slice none 0 0] := ⟨by kernel_rfl⟩
instance : TK Proofs.Tryz.prog 91 true 9 := ⟨by kernel_rfl⟩
instance : FO Proofs.Tryz.prog 91 0 0 88 := ⟨by kernel_rfl⟩
instance : FO Proofs.Tryz.prog 91 1 1 3 := ⟨by kernel_rfl⟩
instance : FO Proofs.Tryz.prog 91 2 2 3 := ⟨by kernel_rfl⟩
instance : FO Proofs.Tryz.prog 91 3 3 3 := ⟨by kernel_rfl⟩
instance : FO Proofs.Tryz.prog 91 4 4 2 := ⟨by kernel_rfl⟩
instance : FO Proofs.Tryz.prog 91 5 5 9 := ⟨by kernel_rfl⟩
instance : FO Proofs.Tryz.prog 91 6 6 9 := ⟨by kernel_rfl⟩
instance : FO Proofs.Tryz.prog 91 7 7 9 := ⟨by kernel_rfl⟩
instance : FO Proofs.Tryz.prog 91 8 8 89 := ⟨by kernel_rfl⟩
instance : ZC Proofs.Tryz.prog 91 [.int .i64 0, .int .i64 0, .int .i64 0, .int .i64 0, .int .i64 0, .string ⟨#[]⟩, .string ⟨#[]⟩, .string ⟨#[]⟩, .slice none 0 0] := ⟨by kernel_rfl⟩
instance : TK Proofs.Tryz.prog 93 false 1 := ⟨by kernel_rfl⟩
instance : UD Proofs.Tryz.prog 93 (.pointer 200) := ⟨by kernel_rfl⟩
instance : ZC Proofs.Tryz.prog 93 [.pointer none] := ⟨by kernel_rfl⟩
instance : TK Proofs.Tryz.prog 95 false 1 := ⟨by kernel_rfl⟩
instance : UD Proofs.Tryz.prog 95 (.map 124 129) := ⟨by kernel_rfl⟩
instance : ZC Proofs.Tryz.prog 95 [.map none] := ⟨by kernel_rfl⟩
instance : TK Proofs.Tryz.prog 96 false 1 := ⟨by kernel_rfl⟩
instance : UD Proofs.Tryz.prog 96 (.slice 135) := ⟨by kernel_rfl⟩
instance : ZC Proofs.Tryz.prog 96 [.slice none 0 0] := ⟨by kernel_rfl⟩
instance : TK Proofs.Tryz.prog 112 true 36 := ⟨by kernel_rfl⟩
instance : FO Proofs.Tryz.prog 112 0 0 27 := ⟨by kernel_rfl⟩
instance : FO Proofs.Tryz.prog 112 1 5 48 := ⟨by kernel_rfl⟩
instance : FO Proofs.Tryz.prog 112 2 8 28 := ⟨by kernel_rfl⟩
instance : FO Proofs.Tryz.prog 112 3 9 93 := ⟨by kernel_rfl⟩
instance : FO Proofs.Tryz.prog 112 4 10 36 := ⟨by kernel_rfl⟩
instance : FO Proofs.Tryz.prog 112 5 11 95 := ⟨by kernel_rfl⟩
instance : FO Proofs.Tryz.prog 112 6 12 96 := ⟨by kernel_rfl⟩
instance : FO Proofs.Tryz.prog 112 7 13 41 := ⟨by kernel_rfl⟩
instance : FO Proofs.Tryz.prog 112 8 24 99 := ⟨by kernel_rfl⟩
instance : FO Proofs.Tryz.prog 112 9 26 102 := ⟨by kernel_rfl⟩
instance : FO Proofs.Tryz.prog 112 10 28 105 := ⟨by kernel_rfl⟩
instance : FO Proofs.Tryz.prog 112 11 30 108 := ⟨by kernel_rfl⟩
instance : FO Proofs.Tryz.prog 112 12 32 111 := ⟨by kernel_rfl⟩
instance : FO Proofs.Tryz.prog 112 13 34 108 := ⟨by kernel_rfl⟩
instance : ZC Proofs.Tryz.prog 112 [.slice none 0 0, .slice none 0 0, .string ⟨#[]⟩, .string ⟨#[]⟩, .string ⟨#[]⟩, .slice none 0 0, .slice none 0 0, .slice none 0 0, .slice none 0 0, .pointer none, .slice none 0 0, .map none, .slice none 0 0, .int .i64 0, .int .i64 0, .int .i64 0, .int .i64 0, .slice none 0 0, .slice none 0 0, .slice none 0 0, .slice none 0 0, .slice none 0 0, .slice none 0 0, .slice none 0 0, .slice none 0 0, .map none, .slice none 0 0, .map none, .slice none 0 0, .map none, .slice none 0 0, .map none, .slice none 0 0, .map none, .slice none 0 0, .map none] := ⟨by kernel_rfl⟩
instance : TK Proofs.Tryz.prog 113 true 36 := ⟨by kernel_rfl⟩
instance : FO Proofs.Tryz.prog 113 0 0 27 := ⟨by kernel_rfl⟩
instance : FO Proofs.Tryz.prog 113 1 5 48 := ⟨by kernel_rfl⟩
instance : FO Proofs.Tryz.prog 113 2 8 28 := ⟨by kernel_rfl⟩
instance : FO Proofs.Tryz.prog 113 3 9 93 := ⟨by kernel_rfl⟩
instance : FO Proofs.Tryz.prog 113 4 10 36 := ⟨by kernel_rfl⟩
instance : FO Proofs.Tryz.prog 113 5 11 95 := ⟨by kernel_rfl⟩
instance : FO Proofs.Tryz.prog 113 6 12 96 := ⟨by kernel_rfl⟩
instance : FO Proofs.Tryz.prog 113 7 13 41 := ⟨by kernel_rfl⟩
instance : FO Proofs.Tryz.prog 113 8 24 99 := ⟨by kernel_rfl⟩
instance : FO Proofs.Tryz.prog 113 9 26 102 := ⟨by kernel_rfl⟩
instance : FO Proofs.Tryz.prog 113 10 28 105 := ⟨by kernel_rfl⟩
instance : FO Proofs.Tryz.prog 113 11 30 108 := ⟨by kernel_rfl⟩
instance : FO Proofs.Tryz.prog 113 12 32 111 := ⟨by kernel_rfl⟩
instance : FO Proofs.Tryz.prog 113 13 34 108 := ⟨by kernel_rfl⟩
instance : ZC Proofs.Tryz.prog 113 [.slice none 0 0, .slice none 0 0, .string ⟨#[]⟩, .string ⟨#[]⟩, .string ⟨#[]⟩, .slice none 0 0, .slice none 0 0, .slice none 0 0, .slice none 0 0, .pointer none, .slice none 0 0, .map none, .slice none 0 0, .int .i64 0, .int .i64 0, .int .i64 0, .int .i64 0, .slice none 0 0, .slice none 0 0, .slice none 0 0, .slice none 0 0, .slice none 0 0, .slice none 0 0, .slice none 0 0, .slice none 0 0, .map none, .slice none 0 0, .map none, .slice none 0 0, .map none, .slice none 0 0, .map none, .slice none 0 0, .map none, .slice none 0 0, .map none] := ⟨by kernel_rfl⟩
instance : TK Proofs.Tryz.prog 115 true 2 := ⟨by kernel_rfl⟩
instance : FO Proofs.Tryz.prog 115 0 0 9 := ⟨by kernel_rfl⟩
instance : FO Proofs.Tryz.prog 115 1 1 9 := ⟨by kernel_rfl⟩
instance : ZC Proofs.Tryz.prog 115 [.string ⟨#[]⟩, .string ⟨#[]⟩] := ⟨by kernel_rfl⟩
instance : TK Proofs.Tryz.prog 116 true 2 := ⟨by kernel_rfl⟩
instance : FO Proofs.Tryz.prog 116 0 0 9 := ⟨by kernel_rfl⟩
instance : FO Proofs.Tryz.prog 116 1 1 9 := ⟨by kernel_rfl⟩
instance : ZC Proofs.Tryz.prog 116 [.string ⟨#[]⟩, .string ⟨#[]⟩] := ⟨by kernel_rfl⟩
instance : TK Proofs.Tryz.prog 119 true 2 := ⟨by kernel_rfl⟩
instance : FO Proofs.Tryz.prog 119 0 0 118 := ⟨by kernel_rfl⟩
instance : FO Proofs.Tryz.prog 119 1 1 9 := ⟨by kernel_rfl⟩
instance : ZC Proofs.Tryz.prog 119 [.int .i64 0, .string ⟨#[]⟩] := ⟨by kernel_rfl⟩
instance : TK Proofs.Tryz.prog 120 true 2 := ⟨by kernel_rfl⟩
instance : FO Proofs.Tryz.prog 120 0 0 118 := ⟨by kernel_rfl⟩
instance : FO Proofs.Tryz.prog 120 1 1 9 := ⟨by kernel_rfl⟩
instance : ZC Proofs.Tryz.prog 120 [.int .i64 0, .string ⟨#[]⟩] := ⟨by kernel_rfl⟩
instance : TK Proofs.Tryz.prog 121 true 4 := ⟨by kernel_rfl⟩
instance : FO Proofs.Tryz.prog 121 0 0 9 := ⟨by kernel_rfl⟩
instance : FO Proofs.Tryz.prog 121 1 1 120 := ⟨by kernel_rfl⟩
instance : FO Proofs.Tryz.prog 121 2 3 4 := ⟨by kernel_rfl⟩
instance : ZC Proofs.Tryz.prog 121 [.string ⟨#[]⟩, .int .i64 0, .string ⟨#[]⟩, .bool false] := ⟨by kernel_rfl⟩
instance : TK Proofs.Tryz.prog 122 true 4 := ⟨by kernel_rfl⟩
instance : FO Proofs.Tryz.prog 122 0 0 9 := ⟨by kernel_rfl⟩
instance : FO Proofs.Tryz.prog 122 1 1 120 := ⟨by kernel_rfl⟩
instance : FO Proofs.Tryz.prog 122 2 3 4 := ⟨by kernel_rfl⟩
instance : ZC Proofs.Tryz.prog 122 [.string ⟨#[]⟩, .int .i64 0, .string ⟨#[]⟩, .bool false] := ⟨by kernel_rfl⟩
instance : TK Proofs.Tryz.prog 123 true 2 := ⟨by kernel_rfl⟩
instance : FO Proofs.Tryz.prog 123 0 0 9 := ⟨by kernel_rfl⟩
instance : FO Proofs.Tryz.prog 123 1 1 9 := ⟨by kernel_rfl⟩
instance : ZC Proofs.Tryz.prog 123 [.string ⟨#[]⟩, .string ⟨#[]⟩] := ⟨by kernel_rfl⟩
instance : TK Proofs.Tryz.prog 124 true 2 := ⟨by kernel_rfl⟩
instance : FO Proofs.Tryz.prog 124 0 0 9 := ⟨by kernel_rfl⟩
instance : FO Proofs.Tryz.prog 124 1 1 9 := ⟨by kernel_rfl⟩
instance : ZC Proofs.Tryz.prog 124 [.string ⟨#[]⟩, .string ⟨#[]⟩] := ⟨by kernel_rfl⟩
instance : TK Proofs.Tryz.prog 125 false 1 := ⟨by kernel_rfl⟩
instance : TK Proofs.Tryz.prog 128 true 2 := ⟨by kernel_rfl⟩
instance : FO Proofs.Tryz.prog 128 0 0 127 := ⟨by kernel_rfl⟩
instance : FO Proofs.Tryz.prog 128 1 1 2 := ⟨by kernel_rfl⟩
instance : ZC Proofs.Tryz.prog 128 [.int .i64 0, .int .i64 0] := ⟨by kernel_rfl⟩
instance : TK Proofs.Tryz.prog 129 true 2 := ⟨by kernel_rfl⟩
instance : FO Proofs.Tryz.prog 129 0 0 127 := ⟨by kernel_rfl⟩
instance : FO Proofs.Tryz.prog 129 1 1 2 := ⟨by kernel_rfl⟩
instance : ZC Proofs.Tryz.prog 129 [.int .i64 0, .int .i64 0] := ⟨by kernel_rfl⟩
instance : TK Proofs.Tryz.prog 131 false 1 := ⟨by kernel_rfl⟩
instance : UD Proofs.Tryz.prog 131 (.map 9 9) := ⟨by kernel_rfl⟩
instance : ZC Proofs.Tryz.prog 131 [.map none] := ⟨by kernel_rfl⟩
instance : TK Proofs.Tryz.prog 135 false 1 := ⟨by kernel_rfl⟩
instance : UD Proofs.Tryz.prog 135 (.pointer 140) := ⟨by kernel_rfl⟩
instance : ZC Proofs.Tryz.prog 135 [.pointer none] := ⟨by kernel_rfl⟩
instance : TK Proofs.Tryz.prog 139 true 7 := ⟨by kernel_rfl⟩
instance : FO Proofs.Tryz.prog 139 0 0 25 := ⟨by kernel_rfl⟩
instance : FO Proofs.Tryz.prog 139 1 3 85 := ⟨by kernel_rfl⟩
instance : FO Proofs.Tryz.prog 139 2 4 3 := ⟨by kernel_rfl⟩
instance : FO Proofs.Tryz.prog 139 3 5 138 := ⟨by kernel_rfl⟩
instance : FO Proofs.Tryz.prog 139 4 6 3 := ⟨by kernel_rfl⟩
instance : ZC Proofs.Tryz.prog 139 [.string ⟨#[]⟩, .string ⟨#[]⟩, .string ⟨#[]⟩, .slice none 0 0, .int .i64 0, .slice none 0 0, .int .i64 0] := ⟨by kernel_rfl⟩
instance : TK Proofs.Tryz.prog 140 true 7 := ⟨by kernel_rfl⟩
instance : FO Proofs.Tryz.prog 140 0 0 25 := ⟨by kernel_rfl⟩
instance : FO Proofs.Tryz.prog 140 1 3 85 := ⟨by kernel_rfl⟩
instance : FO Proofs.Tryz.prog 140 2 4 3 := ⟨by kernel_rfl⟩
instance : FO Proofs.Tryz.prog 140 3 5 138 := ⟨by kernel_rfl⟩
instance : FO Proofs.Tryz.prog 140 4 6 3 := ⟨by kernel_rfl⟩
instance : ZC Proofs.Tryz.prog 140 [.string ⟨#[]⟩, .string ⟨#[]⟩, .string ⟨#[]⟩, .slice none 0 0, .int .i64 0, .slice none 0 0, .int .i64 0] := ⟨by kernel_rfl⟩
instance : TK Proofs.Tryz.prog 176 false 1 := ⟨by kernel_rfl⟩
instance : ZC Proofs.Tryz.prog 176 [.nilFunc] := ⟨by kernel_rfl⟩
instance : TK Proofs.Tryz.prog 177 false 1 := ⟨by kernel_rfl⟩
instance : ZC Proofs.Tryz.prog 177 [.nilFunc] := ⟨by kernel_rfl⟩
instance : TK Proofs.Tryz.prog 184 true 17 := ⟨by kernel_rfl⟩
instance : FO Proofs.Tryz.prog 184 0 0 174 := ⟨by kernel_rfl⟩
instance : FO Proofs.Tryz.prog 184 1 12 152 := ⟨by kernel_rfl⟩
instance : ZC Proofs.Tryz.prog 184 [.int .i64 0, .string ⟨#[]⟩, .string ⟨#[]⟩, .string ⟨#[]⟩, .int .i64 0, .string ⟨#[]⟩, .string ⟨#[]⟩, .string ⟨#[]⟩, .string ⟨#[]⟩, .string ⟨#[]⟩, .int .i64 0, .string ⟨#[]⟩, .string ⟨#[]⟩, .string ⟨#[]⟩, .string ⟨#[]⟩, .int .i64 0, .string ⟨#[]⟩] := ⟨by kernel_rfl⟩
instance : TK Proofs.Tryz.prog 185 true 17 := ⟨by kernel_rfl⟩
instance : FO Proofs.Tryz.prog 185 0 0 174 := ⟨by kernel_rfl⟩
instance : FO Proofs.Tryz.prog 185 1 12 152 := ⟨by kernel_rfl⟩
instance : ZC Proofs.Tryz.prog 185 [.int .i64 0, .string ⟨#[]⟩, .string ⟨#[]⟩, .string ⟨#[]⟩, .int .i64 0, .string ⟨#[]⟩, .string ⟨#[]⟩, .string ⟨#[]⟩, .string ⟨#[]⟩, .string ⟨#[]⟩, .int .i64 0, .string ⟨#[]⟩, .string ⟨#[]⟩, .string ⟨#[]⟩, .string ⟨#[]⟩, .int .i64 0, .string ⟨#[]⟩] := ⟨by kernel_rfl⟩
instance : TK Proofs.Tryz.prog 194 false 1 := ⟨by kernel_rfl⟩
instance : ZC Proofs.Tryz.prog 194 [.nilFunc] := ⟨by kernel_rfl⟩
instance : TK Proofs.Tryz.prog 199 true 1 := ⟨by kernel_rfl⟩
instance : FO Proofs.Tryz.prog 199 0 0 198 := ⟨by kernel_rfl⟩
instance : ZC Proofs.Tryz.prog 199 [.slice none 0 0] := ⟨by kernel_rfl⟩
instance : TK Proofs.Tryz.prog 200 true 1 := ⟨by kernel_rfl⟩
instance : FO Proofs.Tryz.prog 200 0 0 198 := ⟨by kernel_rfl⟩
instance : ZC Proofs.Tryz.prog 200 [.slice none 0 0] := ⟨by kernel_rfl⟩
instance : TK Proofs.Tryz.prog 209 false 1 := ⟨by kernel_rfl⟩
instance : ZC Proofs.Tryz.prog 209 [.nilFunc] := ⟨by kernel_rfl⟩
instance : TK Proofs.Tryz.prog 210 false 1 := ⟨by kernel_rfl⟩
instance : ZC Proofs.Tryz.prog 210 [.nilFunc] := ⟨by kernel_rfl⟩
instance : TK Proofs.Tryz.prog 254 false 1 := ⟨by kernel_rfl⟩
instance : ZC Proofs.Tryz.prog 254 [.nilFunc] := ⟨by kernel_rfl⟩
instance : TK Proofs.Tryz.prog 348 false 1 := ⟨by kernel_rfl⟩
instance : UD Proofs.Tryz.prog 348 (.int .u64) := ⟨by kernel_rfl⟩
instance : ZC Proofs.Tryz.prog 348 [.int .u64 0] := ⟨by kernel_rfl⟩
instance : TK Proofs.Tryz.prog 397 false 1 := ⟨by kernel_rfl⟩
instance : TK Proofs.Tryz.prog 407 false 1 := ⟨by kernel_rfl⟩
instance : UD Proofs.Tryz.prog 407 (.int .i64) := ⟨by kernel_rfl⟩
instance : ZC Proofs.Tryz.prog 407 [.int .i64 0] := ⟨by kernel_rfl⟩
instance : TK Proofs.Tryz.prog 408 false 1 := ⟨by kernel_rfl⟩
instance : TK Proofs.Tryz.prog 414 false 1 := ⟨by kernel_rfl⟩
instance : UD Proofs.Tryz.prog 414 (.int .u32) := ⟨by kernel_rfl⟩
instance : ZC Proofs.Tryz.prog 414 [.int .u32 0] := ⟨by kernel_rfl⟩
instance : TK Proofs.Tryz.prog 416 false 1 := ⟨by kernel_rfl⟩
instance : UD Proofs.Tryz.prog 416 (.int .u64) := ⟨by kernel_rfl⟩
instance : ZC Proofs.Tryz.prog 416 [.int .u64 0] := ⟨by kernel_rfl⟩
instance : TK Proofs.Tryz.prog 449 false 1 := ⟨by kernel_rfl⟩
instance : UD Proofs.Tryz.prog 449 (.int .u64) := ⟨by kernel_rfl⟩
instance : ZC Proofs.Tryz.prog 449 [.int .u64 0] := ⟨by kernel_rfl⟩
instance : TK Proofs.Tryz.prog 453 false 1 := ⟨by kernel_rfl⟩
instance : UD Proofs.Tryz.prog 453 (.pointer 3) := ⟨by kernel_rfl⟩
instance : ZC Proofs.Tryz.prog 453 [.pointer none] := ⟨by kernel_rfl⟩
instance : TK Proofs.Tryz.prog 460 false 1 := ⟨by kernel_rfl⟩
instance : UD Proofs.Tryz.prog 460 (.pointer 449) := ⟨by kernel_rfl⟩
instance : ZC Proofs.Tryz.prog 460 [.pointer none] := ⟨by kernel_rfl⟩
instance : TK Proofs.Tryz.prog 461 false 1 := ⟨by kernel_rfl⟩
instance : AP Proofs.Tryz.prog 1 1 8 := ⟨by kernel_rfl⟩
instance : ZV Proofs.Tryz.prog 1 (.nilFunc) := ⟨by kernel_rfl⟩
instance : AP Proofs.Tryz.prog 2 1 8 := ⟨by kernel_rfl⟩
instance : ZV Proofs.Tryz.prog 2 (.int .i64 0) := ⟨by kernel_rfl⟩
instance : AP Proofs.Tryz.prog 3 1 8 := ⟨by kernel_rfl⟩
instance : ZV Proofs.Tryz.prog 3 (.int .i64 0) := ⟨by kernel_rfl⟩
instance : AP Proofs.Tryz.prog 4 1 1 := ⟨by kernel_rfl⟩
instance : ZV Proofs.Tryz.prog 4 (.bool false) := ⟨by kernel_rfl⟩
instance : AP Proofs.Tryz.prog 5 1 1 := ⟨by kernel_rfl⟩
instance : ZV Proofs.Tryz.prog 5 (.int .u8 0) := ⟨by kernel_rfl⟩
instance : AP Proofs.Tryz.prog 7 4 24 := ⟨by kernel_rfl⟩
instance : PL Proofs.Tryz.prog 7 [(0, 1), (1, 1), (2, 1), (3, 1)] := ⟨by kernel_rfl⟩
instance : AP Proofs.Tryz.prog 9 1 16 := ⟨by kernel_rfl⟩
instance : ZV Proofs.Tryz.prog 9 (.string ⟨#[]⟩) := ⟨by kernel_rfl⟩
instance : AP Proofs.Tryz.prog 22 1 24 := ⟨by kernel_rfl⟩
instance : ZV Proofs.Tryz.prog 22 (.slice none 0 0) := ⟨by kernel_rfl⟩
instance : AP Proofs.Tryz.prog 23 1 24 := ⟨by kernel_rfl⟩
instance : ZV Proofs.Tryz.prog 23 (.slice none 0 0) := ⟨by kernel_rfl⟩
instance : AP Proofs.Tryz.prog 24 3 48 := ⟨by kernel_rfl⟩
instance : PL Proofs.Tryz.prog 24 [(0, 1), (1, 1), (2, 1)] := ⟨by kernel_rfl⟩
instance : AP Proofs.Tryz.prog 25 3 48 := ⟨by kernel_rfl⟩
instance : PL Proofs.Tryz.prog 25 [(0, 1), (1, 1), (2, 1)] := ⟨by kernel_rfl⟩
instance : EQ Proofs.Tryz.prog 25 [.str, .str, .str] := ⟨by kernel_rfl, by kernel_rfl, Z8y (by kernel_rfl)⟩
instance : AP Proofs.Tryz.prog 26 5 96 := ⟨by kernel_rfl⟩
instance : PL Proofs.Tryz.prog 26 [(0, 1), (1, 1), (2, 3)] := ⟨by kernel_rfl⟩
instance : AP Proofs.Tryz.prog 27 5 96 := ⟨by kernel_rfl⟩
instance : PL Proofs.Tryz.prog 27 [(0, 1), (1, 1), (2, 3)] := ⟨by kernel_rfl⟩
instance : AP Proofs.Tryz.prog 28 1 24 := ⟨by kernel_rfl⟩
instance : ZV Proofs.Tryz.prog 28 (.slice none 0 0) := ⟨by kernel_rfl⟩
instance : AP Proofs.Tryz.prog 31 1 8 := ⟨by kernel_rfl⟩
instance : ZV Proofs.Tryz.prog 31 (.int .i64 0) := ⟨by kernel_rfl⟩
instance : AP Proofs.Tryz.prog 32 1 8 := ⟨by kernel_rfl⟩
instance : ZV Proofs.Tryz.prog 32 (.int .i64 0) := ⟨by kernel_rfl⟩
instance : AP Proofs.Tryz.prog 37 1 24 := ⟨by kernel_rfl⟩
instance : ZV Proofs.Tryz.prog 37 (.slice none 0 0) := ⟨by kernel_rfl⟩
instance : AP Proofs.Tryz.prog 40 11 200 := ⟨by kernel_rfl⟩
instance : PL Proofs.Tryz.prog 40 [(0, 1), (1, 1), (2, 1), (3, 1), (4, 1), (5, 6)] := ⟨by kernel_rfl⟩
instance : AP Proofs.Tryz.prog 41 11 200 := ⟨by kernel_rfl⟩
instance : PL Proofs.Tryz.prog 41 [(0, 1), (1, 1), (2, 1), (3, 1), (4, 1), (5, 6)] := ⟨by kernel_rfl⟩
instance : AP Proofs.Tryz.prog 44 1 8 := ⟨by kernel_rfl⟩
instance : ZV Proofs.Tryz.prog 44 (.pointer none) := ⟨by kernel_rfl⟩
instance : AP Proofs.Tryz.prog 46 1 24 := ⟨by kernel_rfl⟩
instance : ZV Proofs.Tryz.prog 46 (.slice none 0 0) := ⟨by kernel_rfl⟩
instance : AP Proofs.Tryz.prog 47 3 72 := ⟨by kernel_rfl⟩
instance : PL Proofs.Tryz.prog 47 [(0, 1), (1, 1), (2, 1)] := ⟨by kernel_rfl⟩
instance : AP Proofs.Tryz.prog 48 3 72 := ⟨by kernel_rfl⟩
instance : PL Proofs.Tryz.prog 48 [(0, 1), (1, 1), (2, 1)] := ⟨by kernel_rfl⟩
instance : AP Proofs.Tryz.prog 64 1 24 := ⟨by kernel_rfl⟩
instance : ZV Proofs.Tryz.prog 64 (.slice none 0 0) := ⟨by kernel_rfl⟩
instance : AP Proofs.Tryz.prog 81 1 24 := ⟨by kernel_rfl⟩
instance : ZV Proofs.Tryz.prog 81 (.slice none 0 0) := ⟨by kernel_rfl⟩
instance : AP Proofs.Tryz.prog 83 7 112 := ⟨by kernel_rfl⟩
instance : PL Proofs.Tryz.prog 83 [(0, 1), (1, 1), (2, 1), (3, 1), (4, 1), (5, 1), (6, 1)] := ⟨by kernel_rfl⟩
instance : AP Proofs.Tryz.prog 84 7 112 := ⟨by kernel_rfl⟩
instance : PL Proofs.Tryz.prog 84 [(0, 1), (1, 1), (2, 1), (3, 1), (4, 1), (5, 1), (6, 1)] := ⟨by kernel_rfl⟩
instance : AP Proofs.Tryz.prog 85 1 24 := ⟨by kernel_rfl⟩
instance : ZV Proofs.Tryz.prog 85 (.slice none 0 0) := ⟨by kernel_rfl⟩
instance : AP Proofs.Tryz.prog 90 9 112 := ⟨by kernel_rfl⟩
instance : PL Proofs.Tryz.prog 90 [(0, 1), (1, 1), (2, 1), (3, 1), (4, 1), (5, 1), (6, 1), (7, 1), (8, 1)] := ⟨by kernel_rfl⟩
instance : AP Proofs.Tryz.prog 91 9 112 := ⟨by kernel_rfl⟩
instance : PL Proofs.Tryz.prog 91 [(0, 1), (1, 1), (2, 1), (3, 1), (4, 1), (5, 1), (6, 1), (7, 1), (8, 1)] := ⟨by kernel_rfl⟩
instance : AP Proofs.Tryz.prog 93 1 8 := ⟨by kernel_rfl⟩
instance : ZV Proofs.Tryz.prog 93 (.pointer none) := ⟨by kernel_rfl⟩
instance : AP Proofs.Tryz.prog 95 1 8 := ⟨by kernel_rfl⟩
instance : ZV Proofs.Tryz.prog 95 (.map none) := ⟨by kernel_rfl⟩
instance : AP Proofs.Tryz.prog 96 1 24 := ⟨by kernel_rfl⟩
instance : ZV Proofs.Tryz.prog 96 (.slice none 0 0) := ⟨by kernel_rfl⟩
instance : AP Proofs.Tryz.prog 112 36 648 := ⟨by kernel_rfl⟩
instance : PL Proofs.Tryz.prog 112 [(0, 5), (5, 3), (8, 1), (9, 1), (10, 1), (11, 1), (12, 1), (13, 11), (24, 2), (26, 2), (28, 2), (30, 2), (32, 2), (34, 2)] := ⟨by kernel_rfl⟩
instance : AP Proofs.Tryz.prog 113 36 648 := ⟨by kernel_rfl⟩
instance : PL Proofs.Tryz.prog 113 [(0, 5), (5, 3), (8, 1), (9, 1), (10, 1), (11, 1), (12, 1), (13, 11), (24, 2), (26, 2), (28, 2), (30, 2), (32, 2), (34, 2)] := ⟨by kernel_rfl⟩
instance : AP Proofs.Tryz.prog 115 2 32 := ⟨by kernel_rfl⟩
instance : PL Proofs.Tryz.prog 115 [(0, 1), (1, 1)] := ⟨by kernel_rfl⟩
instance : AP Proofs.Tryz.prog 116 2 32 := ⟨by kernel_rfl⟩
instance : PL Proofs.Tryz.prog 116 [(0, 1), (1, 1)] := ⟨by kernel_rfl⟩
instance : EQ Proofs.Tryz.prog 116 [.str, .str] := ⟨by kernel_rfl, by kernel_rfl, Z8y (by kernel_rfl)⟩
instance : AP Proofs.Tryz.prog 119 2 24 := ⟨by kernel_rfl⟩
instance : PL Proofs.Tryz.prog 119 [(0, 1), (1, 1)] := ⟨by kernel_rfl⟩
instance : AP Proofs.Tryz.prog 120 2 24 := ⟨by kernel_rfl⟩
instance : PL Proofs.Tryz.prog 120 [(0, 1), (1, 1)] := ⟨by kernel_rfl⟩
instance : EQ Proofs.Tryz.prog 120 [.int .i64, .str] := ⟨by kernel_rfl, by kernel_rfl, Z8y (by kernel_rfl)⟩
instance : AP Proofs.Tryz.prog 121 4 48 := ⟨by kernel_rfl⟩
instance : PL Proofs.Tryz.prog 121 [(0, 1), (1, 2), (3, 1)] := ⟨by kernel_rfl⟩
instance : AP Proofs.Tryz.prog 122 4 48 := ⟨by kernel_rfl⟩
instance : PL Proofs.Tryz.prog 122 [(0, 1), (1, 2), (3, 1)] := ⟨by kernel_rfl⟩
instance : EQ Proofs.Tryz.prog 122 [.str, .int .i64, .str, .bool] := ⟨by kernel_rfl, by kernel_rfl, Z8y (by kernel_rfl)⟩
instance : AP Proofs.Tryz.prog 123 2 32 := ⟨by kernel_rfl⟩
instance : PL Proofs.Tryz.prog 123 [(0, 1), (1, 1)] := ⟨by kernel_rfl⟩
instance : AP Proofs.Tryz.prog 124 2 32 := ⟨by kernel_rfl⟩
instance : PL Proofs.Tryz.prog 124 [(0, 1), (1, 1)] := ⟨by kernel_rfl⟩
instance : EQ Proofs.Tryz.prog 124 [.str, .str] := ⟨by kernel_rfl, by kernel_rfl, Z8y (by kernel_rfl)⟩
instance : AP Proofs.Tryz.prog 128 2 16 := ⟨by kernel_rfl⟩
instance : PL Proofs.Tryz.prog 128 [(0, 1), (1, 1)] := ⟨by kernel_rfl⟩
instance : AP Proofs.Tryz.prog 129 2 16 := ⟨by kernel_rfl⟩
instance : PL Proofs.Tryz.prog 129 [(0, 1), (1, 1)] := ⟨by kernel_rfl⟩
instance : EQ Proofs.Tryz.prog 129 [.int .i64, .int .i64] := ⟨by kernel_rfl, by kernel_rfl, Z8y (by kernel_rfl)⟩
instance : AP Proofs.Tryz.prog 131 1 8 := ⟨by kernel_rfl⟩
instance : ZV Proofs.Tryz.prog 131 (.map none) := ⟨by kernel_rfl⟩
instance : AP Proofs.Tryz.prog 135 1 8 := ⟨by kernel_rfl⟩
instance : ZV Proofs.Tryz.prog 135 (.pointer none) := ⟨by kernel_rfl⟩
instance : AP Proofs.Tryz.prog 139 7 112 := ⟨by kernel_rfl⟩
instance : PL Proofs.Tryz.prog 139 [(0, 3), (3, 1), (4, 1), (5, 1), (6, 1)] := ⟨by kernel_rfl⟩
instance : AP Proofs.Tryz.prog 140 7 112 := ⟨by kernel_rfl⟩
instance : PL Proofs.Tryz.prog 140 [(0, 3), (3, 1), (4, 1), (5, 1), (6, 1)] := ⟨by kernel_rfl⟩
instance : AP Proofs.Tryz.prog 176 1 8 := ⟨by kernel_rfl⟩
instance : ZV Proofs.Tryz.prog 176 (.nilFunc) := ⟨by kernel_rfl⟩
instance : AP Proofs.Tryz.prog 177 1 8 := ⟨by kernel_rfl⟩
instance : ZV Proofs.Tryz.prog 177 (.nilFunc) := ⟨by kernel_rfl⟩
instance : AP Proofs.Tryz.prog 184 17 240 := ⟨by kernel_rfl⟩
instance : PL Proofs.Tryz.prog 184 [(0, 12), (12, 5)] := ⟨by kernel_rfl⟩
instance : AP Proofs.Tryz.prog 185 17 240 := ⟨by kernel_rfl⟩
instance : PL Proofs.Tryz.prog 185 [(0, 12), (12, 5)] := ⟨by kernel_rfl⟩
instance : EQ Proofs.Tryz.prog 185 [.int .i64, .str, .str, .str, .int .i64, .str, .str, .str, .str, .str, .int .i64, .str, .str, .str, .str, .int .i64, .str] := ⟨by kernel_rfl, by kernel_rfl, Z8y (by kernel_rfl)⟩
instance : AP Proofs.Tryz.prog 194 1 8 := ⟨by kernel_rfl⟩
instance : ZV Proofs.Tryz.prog 194 (.nilFunc) := ⟨by kernel_rfl⟩
instance : AP Proofs.Tryz.prog 199 1 24 := ⟨by kernel_rfl⟩
instance : PL Proofs.Tryz.prog 199 [(0, 1)] := ⟨by kernel_rfl⟩
instance : AP Proofs.Tryz.prog 200 1 24 := ⟨by kernel_rfl⟩
instance : PL Proofs.Tryz.prog 200 [(0, 1)] := ⟨by kernel_rfl⟩
instance : AP Proofs.Tryz.prog 209 1 8 := ⟨by kernel_rfl⟩
instance : ZV Proofs.Tryz.prog 209 (.nilFunc) := ⟨by kernel_rfl⟩
instance : AP Proofs.Tryz.prog 210 1 8 := ⟨by kernel_rfl⟩
instance : ZV Proofs.Tryz.prog 210 (.nilFunc) := ⟨by kernel_rfl⟩
instance : AP Proofs.Tryz.prog 254 1 8 := ⟨by kernel_rfl⟩
instance : ZV Proofs.Tryz.prog 254 (.nilFunc) := ⟨by kernel_rfl⟩
instance : AP Proofs.Tryz.prog 348 1 8 := ⟨by kernel_rfl⟩
instance : ZV Proofs.Tryz.prog 348 (.int .u64 0) := ⟨by kernel_rfl⟩
instance : AP Proofs.Tryz.prog 407 1 8 := ⟨by kernel_rfl⟩
instance : ZV Proofs.Tryz.prog 407 (.int .i64 0) := ⟨by kernel_rfl⟩
instance : AP Proofs.Tryz.prog 414 1 4 := ⟨by kernel_rfl⟩
instance : ZV Proofs.Tryz.prog 414 (.int .u32 0) := ⟨by kernel_rfl⟩
instance : AP Proofs.Tryz.prog 416 1 8 := ⟨by kernel_rfl⟩
instance : ZV Proofs.Tryz.prog 416 (.int .u64 0) := ⟨by kernel_rfl⟩
instance : AP Proofs.Tryz.prog 449 1 8 := ⟨by kernel_rfl⟩
instance : ZV Proofs.Tryz.prog 449 (.int .u64 0) := ⟨by kernel_rfl⟩
instance : AP Proofs.Tryz.prog 453 1 8 := ⟨by kernel_rfl⟩
instance : ZV Proofs.Tryz.prog 453 (.pointer none) := ⟨by kernel_rfl⟩
instance : AP Proofs.Tryz.prog 460 1 8 := ⟨by kernel_rfl⟩
instance : ZV Proofs.Tryz.prog 460 (.pointer none) := ⟨by kernel_rfl⟩
end Go.Sx
namespace Go.Sx
open Go
def SeqGR {α : Type} (Fin : List α → Prop) (J Jx : List α → AHeap → Prop) : AEnd → AHeap → Prop :=
 fun e H' => (∃ v, e = .ret v) ∧ ((∃ l H'', Fin l ∧ H'.Perm H'' ∧ J l H'') ∨ (∃ pre H'', H'.Perm H'' ∧ Jx pre H''))
structure SeqG {α : Type} (P : Program) (gf : Nat) (caps : List AV) (Hit : AHeap) (enc : α → List AV) (Adm Fin : List α → Prop) : Prop where
 ok : Callable P gf
 run : ∀ (id : Nat) (J Jx : List α → AHeap → Prop),
  (∀ pre x H, Adm (pre ++ [x]) → J pre H → YCalls P id (enc x) H (fun e H' => (e = .ret (.v (.bool true)) ∧ J (pre ++ [x]) H') ∨ (e = .ret (.v (.bool false)) ∧ Jx (pre ++ [x]) H'))) →
  ∀ H, J [] H → ACalls P gf (.yld id :: caps) (Hit ++ H) (SeqGR Fin J Jx)
theorem Z5s {P : Program} {Q : Exit → St → Prop} {s : St} {g : Operand} {ps : Array Tmp} {assign body : Code} {gf : Nat} {caps : List AV} {α : Type} (enc : α → List AV) (Adm Fin : List α → Prop) (Hit Hb0 : AHeap)
  (I : List α → AHeap → Prop) (Ix : Code → List α → AHeap → Prop) (hg : ev s.T g = some (.fn (.func gf) caps)) (hp : s.H.Perm (Hit ++ Hb0)) (hI0 : I [] Hb0) (hseq : SeqG P gf caps Hit enc Adm Fin)
  (hps : ∀ x, (enc x).length = ps.size) (hpn : ∀ t, t ∈ ps.toList → t < s.n)
  (round : ∀ l pre x Hb, Adm (pre ++ [x]) → I pre Hb → AWp P (some l) assign (fun e s' => e = .normal ∧ AWp P (some l) body (roundQ I Ix (pre ++ [x])) s') ⟨prm s.T ps.toList (enc x), Hb, [], s.n⟩)
  (done : ∀ i ll Hb, Fin ll → I ll Hb → Q .normal ⟨s.T, Hb ++ [(i, .raw (.deferred (some [])))], i :: s.D, s.n⟩)
  (stop : ∀ i c pre Hb, Ix c pre Hb → AWp P none c Q ⟨s.T, Hb ++ [(i, .raw (.deferred (some [])))], i :: s.D, s.n⟩) :
  AWp P none (.rangeFunc g ps assign body) Q s := by
 intro Z C0 H0 w0 C a w he hs
 refine wpIn_rangeFunc (F := Wd none) (n := 0) (fun fn _ => ?_)
 -- two new blocks
 obtain ⟨i1, hi1⟩ := Z4f (C.U ++ Z)
 rw [List.mem_append, not_or] at hi1
 have hd1 : OR (C.bind i1 w.heap.size 0) i1 (w.alloc (.deferred (some []))) (.raw (.deferred (some []))) := ⟨_, 0, Ctx.bind_m .., heap_alloc_new w _⟩
 obtain ⟨hw1, he1⟩ := Z1i (Z := Z) hs.wr hi1.1 hi1.2 hd1
 obtain ⟨i2, hi2⟩ := Z4f ((C.bind i1 w.heap.size 0).U ++ Z)
 rw [List.mem_append, not_or] at hi2
 let rec0 : Loop := { state := .ready, pending := none, fn := fn, tmps := a.tmps, params := ps, assign := assign, body := body, defers := w.heap.size }
 let C2 := (C.bind i1 w.heap.size 0).bind i2 (w.alloc (.deferred (some []))).heap.size 0
 let w2 := (w.alloc (.deferred (some []))).alloc (.loop rec0)
 have hsz1 : (w.alloc (.deferred (some []))).heap.size = w.heap.size + 1 := by simp
 have hl2 : OR C2 i2 w2 (.loop s.T s.n ps assign body .ready none) := by
  refine ⟨_, 0, rec0, Ctx.bind_m .., heap_alloc_new _ _, rfl, rfl, rfl, rfl, rfl, hs.sz, fun t x ht => ?_⟩
  obtain ⟨v, h1, h2⟩ := hs.sl t x ht
  exact ⟨v, h1, (h2.mono he1.le).mono (Ctx.le_bind hi2.1)⟩
 obtain ⟨hw2, he2⟩ := Z1i (Z := Z) hw1 hi2.1 hi2.2 hl2
 have he12 := he1.trans he2
 have hm2 : C2.m i2 = some (w.heap.size + 1, 0) := by rw [← hsz1]; exact Ctx.bind_m ..
 have hm1 : C2.m i1 = some (w.heap.size, 0) := by rw [he2.le.m i1 List.mem_cons_self]; exact Ctx.bind_m ..
 -- the function's value
 have hgv := hs.ev hg
 generalize hge : a.eval g = gv at hgv
 cases hgv with
 | fn _ _ vcaps hcl hcv =>
  refine ⟨w.heap.size + 1, [{ target := .collected w.heap.size, args := #[] }], w2, { target := .fn (.func gf) vcaps, args := #[.func (.yield (w.heap.size + 1)) #[] #[]] }, w2, gf, #[.func (.yield (w.heap.size + 1)) #[] #[]] ++ vcaps, w2, run_enterLoop_outer fn a.tmps ps assign body, ?_, fun _ _ => trivial, ?_, nofun, ?_⟩
  ·simp only [resolve, rangeCall, Deferred.ofValue, hge, Sem.run_pure]
   simp [Act.eval]
  ·simp only [invoke]; exact Z3v hseq.ok _ w2
  -- the rounds
  let J : List α → AHeap → Prop := fun pre H => ∃ Hb, I pre Hb ∧ H = (i2, .loop s.T s.n ps assign body .ready none) :: Hb
  let Jx : List α → AHeap → Prop := fun pre H => ∃ c Hb, Ix c pre Hb ∧ H = (i2, .loop s.T s.n ps assign body .done (some c)) :: Hb
  have hY : ∀ pre x H, Adm (pre ++ [x]) → J pre H → YCalls P i2 (enc x) H (fun e H' => (e = .ret (.v (.bool true)) ∧ J (pre ++ [x]) H') ∨ (e = .ret (.v (.bool false)) ∧ Jx (pre ++ [x]) H')) := by
   rintro pre x H hxs ⟨Hb, hI, rfl⟩
   intro Z1 C1 w1 vs l N hm hwr hvs
   obtain ⟨hu, hor⟩ := hwr.ids _ _ List.mem_cons_self
   obtain ⟨r, h1, h2, h3, h4, h5, h6, h7, h8⟩ := Z19 hor hm
   refine ⟨r.fn, _, r.assign, r.body, run_yield h1 (by rw [← hvs.1, hps, h4]), ?_⟩
   refine roundIn_of_wpIn (F := Wd none) trivial ?_
   have hwb : WR C1 Hb w1 := (hwr.perm (List.perm_append_comm (l₁ := [(i2, _)]) (l₂ := Hb))).left
   have hfold : ((r.params.zip vs).foldl (fun tmps (x : Tmp × Value) => tmps.setIfInBounds x.1 x.2) r.tmps) = ((ps.toList.zip vs.toList).foldl (fun tmps (x : Tmp × Value) => tmps.setIfInBounds x.1 x.2) r.tmps) := by
    rw [h4, ← Array.foldl_toList, Array.toList_zip]
   obtain ⟨hq1, hq2⟩ := Z4l (C := C1) (n := s.n) ps.toList (enc x) s.T r.tmps vs.toList (by rw [hps]; simp) (by rw [hvs.1]; simp) hpn h7 h8 (fun i y v hy hv => hvs.2 i y v hy (by rw [← Array.getElem?_toList]; exact hv))
   have hSR : SR C1 ⟨prm s.T ps.toList (enc x), Hb, [], s.n⟩ { tmps := (r.params.zip vs).foldl (fun tmps (x : Tmp × Value) => tmps.setIfInBounds x.1 x.2) r.tmps, defers := [] } w1 := by
    refine ⟨hwb, ?_, rfl, nofun, ?_⟩
    ·rw [hfold]; exact hq2
    ·rw [hfold]; exact hq1
   rw [h5, h6]
   refine wpIn_mono (round l pre x Hb hxs hI (Z1 ++ []) C1 Hb w1 C1 _ w1 (.refl ..) hSR) ?_
   rintro e a' w' ⟨_, C', s', ⟨rfl, hbody⟩, hs', he'⟩
   -- the record is beside
   have hperm : ((i2, AObj.loop s.T s.n ps assign body .ready none) :: Hb).Perm (Hb ++ [(i2, .loop s.T s.n ps assign body .ready none)]) := List.perm_append_comm (l₁ := [(i2, _)]) (l₂ := Hb)
   obtain ⟨hf1, hf2⟩ := he'.frame (hwr.perm hperm) hs'.wr
   have hperm' : (s'.H ++ [(i2, AObj.loop s.T s.n ps assign body .ready none)]).Perm ((i2, .loop s.T s.n ps assign body .ready none) :: s'.H) := List.perm_append_comm (l₁ := s'.H) (l₂ := [(i2, _)])
   have hwr' := hf1.perm hperm'
   have hm' : C'.m i2 = some (l, N) := by rw [he'.le.m i2 hu]; exact hm
   obtain ⟨_, hor'⟩ := hwr'.ids _ _ List.mem_cons_self
   obtain ⟨r', g1, g2, g3, g4, g5, g6, g7, g8⟩ := Z19 hor' hm'
   obtain ⟨hb1, hb2⟩ := Z21 (Z := Z1) (st' := .busy) (pend' := r'.pending) hwr' hm' g1
   refine ⟨_, run_beginRound g1 g2, ?_⟩
   have hwbusy : WR C' s'.H (w'.putObj l (.loop { r' with state := .busy })) := (hb1.perm (List.perm_append_comm (l₁ := [(i2, _)]) (l₂ := s'.H))).left
   refine wpIn_mono (hbody (Z1 ++ []) C' s'.H _ C' a' _ (.refl ..) ⟨hwbusy, hs'.sl, hs'.df, hs'.du, hs'.sz⟩) ?_
   rintro e a'' w'' ⟨hno, C'', s'', hq, hs'', he''⟩
   have big : ∀ s3, Weak s'' s3 → ∀ (jump : Option Code) (st : LoopState), st = (if jump.isNone then .ready else .done) →
     ∃ v w4, (Instr.endRound l jump).run P w'' = .ok v w4 ∧ v = .bool jump.isNone ∧ ∃ C3, WR C3 ((i2, .loop s.T s.n ps assign body st jump) :: s3.H) w4 ∧ Ext Z1 C1 ((i2, .loop s.T s.n ps assign body .ready none) :: Hb) w1 C3 ((i2, .loop s.T s.n ps assign body st jump) :: s3.H) w4 := by
    intro s3 hwk jump st hst
    obtain ⟨C3, hs3, he3⟩ := hwk Z1 C'' a'' w'' hs''
    have he4 : Ext Z1 C' s'.H (w'.putObj l (.loop { r' with state := .busy })) C3 s3.H w'' := (he''.subZ (fun z hz => List.mem_append_left _ hz)).trans he3
    obtain ⟨hf3, hf4⟩ := he4.frame (hb1.perm (List.perm_append_comm (l₁ := [(i2, _)]) (l₂ := s'.H))) hs3.wr
    have hwr3 := hf3.perm (List.perm_append_comm (l₁ := s3.H) (l₂ := [(i2, _)]))
    have hm3 : C3.m i2 = some (l, N) := by
     rw [he4.le.m i2 (he'.le.U i2 hu)]; exact hm'
    obtain ⟨_, hor3⟩ := hwr3.ids _ _ List.mem_cons_self
    obtain ⟨r3, k1, k2, k3, k4, k5, k6, k7, k8⟩ := Z19 hor3 hm3
    obtain ⟨ht1, ht2⟩ := Z21 (Z := Z1) (st' := st) (pend' := jump) hwr3 hm3 k1
    refine ⟨_, _, run_endRound jump k1, rfl, C3, by rw [← hst]; exact ht1, ?_⟩
    rw [← hst]
    have x1 : Ext Z1 C1 ((i2, .loop s.T s.n ps assign body .ready none) :: Hb) w1 C' ((i2, .loop s.T s.n ps assign body .ready none) :: s'.H) w' := ((hf2.subZ (fun z hz => List.mem_append_left _ hz)).permL hperm.symm).permR hperm'
    have x2 := (hf4.permL (List.perm_append_comm (l₁ := s'.H) (l₂ := [(i2, _)]))).permR (List.perm_append_comm (l₁ := s3.H) (l₂ := [(i2, _)]))
    exact ((x1.trans hb2).trans x2).trans ht2
   cases e with
   | normal =>
    obtain ⟨s3, hwk, hI3⟩ := hq
    obtain ⟨v, w4, k1, rfl, C3, k2, k3⟩ := big s3 hwk none .ready rfl
    exact ⟨_, w4, k1, C3, _, .ret (.v (.bool true)), .inl ⟨rfl, s3.H, hI3, rfl⟩, k2, k3, .v _⟩
   | ret =>
    obtain ⟨s3, hwk, hI3⟩ := hq
    obtain ⟨v, w4, k1, rfl, C3, k2, k3⟩ := big s3 hwk (some .ret) .done rfl
    exact ⟨_, w4, k1, C3, _, .ret (.v (.bool false)), .inr ⟨rfl, _, s3.H, hI3, rfl⟩, k2, k3, .v _⟩
   | exit i =>
    obtain ⟨s3, hwk, hI3⟩ := hq
    obtain ⟨v, w4, k1, rfl, C3, k2, k3⟩ := big s3 hwk (some (.exit i)) .done rfl
    exact ⟨_, w4, k1, C3, _, .ret (.v (.bool false)), .inr ⟨rfl, _, s3.H, hI3, rfl⟩, k2, k3, .v _⟩
   | goto i =>
    obtain ⟨s3, hwk, hI3⟩ := hq
    obtain ⟨v, w4, k1, rfl, C3, k2, k3⟩ := big s3 hwk (some (.goto i)) .done rfl
    exact ⟨_, w4, k1, C3, _, .ret (.v (.bool false)), .inr ⟨rfl, _, s3.H, hI3, rfl⟩, k2, k3, .v _⟩
   | panic ch => exact hq.elim
   | outgrown => exact hno rfl
  -- the one call
  have hcall := hseq.run i2 J Jx hY _ ⟨Hb0, hI0, rfl⟩
  have hpa : ((i2, AObj.loop s.T s.n ps assign body .ready none) :: (i1, .raw (.deferred (some []))) :: s.H).Perm ((Hit ++ (i2, .loop s.T s.n ps assign body .ready none) :: Hb0) ++ [(i1, .raw (.deferred (some [])))]) := by
   refine List.Perm.trans ?_ (List.perm_append_comm (l₁ := [(i1, AObj.raw (.deferred (some [])))]) (l₂ := Hit ++ (i2, .loop s.T s.n ps assign body .ready none) :: Hb0))
   refine (List.Perm.swap _ _ _).trans ?_
   refine List.Perm.cons _ ?_
   exact (List.Perm.cons _ hp).trans List.perm_middle.symm
  have hvs : VRs C2 (.yld i2 :: caps) (#[.func (.yield (w.heap.size + 1)) #[] #[]] ++ vcaps) := by
   have h1 : VRs C2 [.yld i2] #[.func (.yield (w.heap.size + 1)) #[] #[]] := ⟨rfl, by
    intro i x v hx hv
    cases i with
    | zero => simp at hx hv; subst hx; subst hv; exact .yld i2 _ 0 hm2 List.mem_cons_self
    | succ i => simp at hx⟩
   exact h1.append ⟨hcl, fun i x v hx hv => ((hcv i x v hx hv).mono he1.le).mono he2.le⟩
  refine ((hcall.frame _ _ hpa).run Z C2 w2 _ hw2 hvs).mono ?_
  rintro e w3 ⟨C3, K3, x, ⟨H', ⟨⟨v, rfl⟩, hfin⟩, rfl⟩, hw3, he3, hx⟩
  have hm3 : C3.m i2 = some (w.heap.size + 1, 0) := by rw [he3.le.m i2 List.mem_cons_self]; exact hm2
  -- behind it
  have fin : ∀ (st : LoopState) (pend : Option Code) (Hb : AHeap), H'.Perm ((i2, .loop s.T s.n ps assign body st pend) :: Hb) → st ≠ .busy →
    ∃ w4, (Instr.endLoop (w.heap.size + 1)).run P w3 = .ok pend w4 ∧ SR C3 ⟨s.T, Hb ++ [(i1, .raw (.deferred (some [])))], i1 :: s.D, s.n⟩ { a with defers := [{ target := .collected w.heap.size, args := #[] }] ++ a.defers } w4 ∧
     Ext Z C0 H0 w0 C3 (Hb ++ [(i1, .raw (.deferred (some [])))]) w4 := by
   intro st pend Hb hpm hst
   have hpm' : (H' ++ [(i1, AObj.raw (.deferred (some [])))]).Perm ((i2, .loop s.T s.n ps assign body st pend) :: (Hb ++ [(i1, .raw (.deferred (some [])))])) := by
    exact List.Perm.append_right _ hpm
   have hwl := hw3.perm hpm'
   obtain ⟨_, hor⟩ := hwl.ids _ _ List.mem_cons_self
   obtain ⟨r, g1, g2, g3, _⟩ := Z19 hor hm3
   obtain ⟨ht1, ht2⟩ := Z21 (Z := Z) (st' := .exhausted) (pend' := r.pending) hwl hm3 g1
   refine ⟨_, by rw [← g3]; exact run_endLoop g1 (by rw [g2]; exact hst), ?_, ?_⟩
   ·have hsub : ∀ p, p ∈ (Hb ++ [(i1, AObj.raw (.deferred (some [])))]) → p ∈ (i2, AObj.loop s.T s.n ps assign body .exhausted r.pending) :: (Hb ++ [(i1, AObj.raw (.deferred (some [])))]) := fun p hp => List.mem_cons_of_mem _ hp
    have hnd := ht1.nd
    simp only [List.map_cons, List.nodup_cons] at hnd
    refine ⟨ht1.sub hsub hnd.2, fun t x ht => ?_, ?_, ?_, hs.sz⟩
    ·obtain ⟨v, h1, h2⟩ := hs.sl t x ht
     exact ⟨v, h1, (h2.mono he12.le).mono he3.le⟩
    ·simp only [List.map_cons, List.cons_append, List.nil_append]
     have e1 : mark C3 i1 = { target := .collected w.heap.size, args := #[] } := by
      simp [mark, he3.le.m i1 (List.mem_cons_of_mem _ List.mem_cons_self), hm1]
     rw [e1, hs.df]
     congr 1
     exact List.map_congr_left fun i hi => by
      have e2 : C3.m i = C.m i := (he3.le.m i (he12.le.U i (hs.du i hi))).trans (he12.le.m i (hs.du i hi))
      have e3 : C3.df i = C.df i := (he3.le.df i (he12.le.U i (hs.du i hi))).trans (he12.le.df i (hs.du i hi))
      simp only [mark, e2, e3]
    ·intro i hi
     rcases List.mem_cons.1 hi with rfl | hi
     ·exact he3.le.U _ (List.mem_cons_of_mem _ List.mem_cons_self)
     ·exact he3.le.U i (he12.le.U i (hs.du i hi))
   ·refine (he.trans (he12.trans ((he3.permR hpm').trans ht2))).trans (Ext.sub (fun p hp => List.mem_cons_of_mem _ hp))
  cases e with
  | returned v' =>
   rcases hfin with ⟨ll, H'', hfl, hpm, Hb, hI, rfl⟩ | ⟨pre, H'', hpm, c, Hb, hIx, rfl⟩
   ·obtain ⟨w4, h1, h2, h3⟩ := fin .ready none Hb hpm nofun
    exact ⟨none, w4, h1, nofun, C3, _, done i1 ll Hb hfl hI, h2, h3⟩
   ·obtain ⟨w4, h1, h2, h3⟩ := fin .done (some c) Hb hpm nofun
    exact ⟨some c, w4, h1, stop i1 c pre Hb hIx Z C0 H0 w0 C3 _ w4 h3 h2⟩
  | panicked ch => exact hx.elim
  | outgrown => exact hx.elim
end Go.Sx
namespace Go.Sx
open Go
def idxFrom {α : Type} (f : α → Bool) : List α → Nat → Int
 | [], _ => -1
 | a :: r, i => if f a then i else idxFrom f r (i + 1)
def Prog.av (p : Prog) : AV := .agg p.cells
def classAt (p : Prog) (nm : Str) : Int := idxFrom (fun c => beqS c.name nm) p.classes 0
def inL (l : List Str) (s : Str) : Bool := l.any fun x => beqS x s
theorem Zbm {a : Bool} (h : (!a) = false) : a = true := by cases a <;> simp_all
def Fact.av (f : Fact) : AV := .agg f.cells
def Ty.av (t : Ty) : AV := .agg t.cells
def Cls.av (c : Cls) : AV := .agg c.cells
def clsFind (p : Prog) (nm : Str) : Option Cls := p.classes.find? fun c => beqS c.name nm
def ifaceP (p : Prog) (nm : Str) : Bool := match clsFind p nm with | some c => c.iface | none => false
def isRefK (k : Int) : Bool := decide (2 ≤ k) && decide (k ≤ 6)
def eqF (a b : Fact) : Bool := a.kind == b.kind && beqS a.cls b.cls
def zS : Str := ⟨#[]⟩
def ofT (t : Ty) : Fact :=
 if t.kind = 2 then ⟨1, zS⟩ else if t.kind = 3 then ⟨3, t.cls⟩ else if t.kind = 4 then ⟨4, zS⟩ else if t.kind = 5 then ⟨5, t.cls⟩ else ⟨0, zS⟩
def joinBy (com : Str → Str → Str) (a b : Fact) : Fact :=
 if eqF a b then a else if !isRefK a.kind || !isRefK b.kind then ⟨0, zS⟩ else if a.kind = 2 then b else if b.kind = 2 then a
 else if a.kind = 3 ∧ b.kind = 3 then (if beqS (com a.cls b.cls) zS then ⟨6, zS⟩ else ⟨3, com a.cls b.cls⟩) else ⟨6, zS⟩
def zCls : List AV := [sA zS, sA zS, bA false, bA false, .v (.slice none 0 0), .v (.slice none 0 0), .v (.slice none 0 0)]
def knownA : Option Cls → AV
 | some c => .tup [.agg c.cells, bA true]
 | none => .tup [.agg zCls, bA false]
def upC (c : Cls) : List Str := if beqS c.super zS then c.ifaces else c.super :: c.ifaces
instance : Inhabited Cls := ⟨⟨⟨#[]⟩, ⟨#[]⟩, false, false, [], [], []⟩⟩
instance : Inhabited Fld := ⟨⟨⟨#[]⟩, ⟨0, ⟨#[]⟩⟩, false⟩⟩
instance : Inhabited Meth := ⟨⟨⟨#[]⟩, ⟨#[]⟩, false, false, 0, []⟩⟩
instance : Inhabited Instr := ⟨⟨0, 0, 0, 0, 0, ⟨#[]⟩, ⟨#[]⟩, ⟨#[]⟩, []⟩⟩
instance : Inhabited Fact := ⟨⟨0, ⟨#[]⟩⟩⟩
def sameF : List Fact → List Fact → Bool
 | [], [] => true
 | x :: l, y :: r => eqF x y && sameF l r
 | _, _ => false
theorem Z1a {α : Type} [DecidableEq α] : ∀ {l m : List α}, l.Nodup → (∀ x, x ∈ l → x ∈ m) → l.length ≤ m.length
 | [], m, _, _ => Nat.zero_le _
 | x :: l, m, hn, hs => by
  rw [List.nodup_cons] at hn
  have hx : x ∈ m := hs x List.mem_cons_self
  have h1 : ∀ y, y ∈ l → y ∈ m.erase x := fun y hy => (List.mem_erase_of_ne (by rintro rfl; exact hn.1 hy)).2 (hs y (List.mem_cons_of_mem _ hy))
  have h2 := Z1a hn.2 h1
  have h3 := List.length_erase_of_mem hx
  have h4 : 0 < m.length := List.length_pos_of_mem hx
  simp only [List.length_cons]
  omega
theorem inL_mem {l : List Str} {s : Str} : inL l s = true ↔ s ∈ l := by
 simp only [inL, List.any_eq_true, beqS_iff]
 exact ⟨fun ⟨x, h, e⟩ => e ▸ h, fun h => ⟨s, h, rfl⟩⟩
theorem inL_false {l : List Str} {s : Str} : inL l s = false ↔ s ∉ l := by
 rw [← inL_mem]; cases inL l s <;> simp
def supF (p : Prog) : Nat → Str → List Str → List Str
 | 0, _, out => out
 | n + 1, nm, out => match clsFind p nm with
  | none => out
  | some c => if inL out c.name then out else if beqS c.super zS then out ++ [c.name] else supF p n c.super (out ++ [c.name])
def supers (p : Prog) (nm : Str) : List Str := supF p (p.classes.length + 1) nm []
theorem Z0p {p : Prog} {nm : Str} {c : Cls} (h : clsFind p nm = some c) : c.name = nm ∧ c ∈ p.classes := by
 unfold clsFind at h
 have h1 := List.find?_some h
 exact ⟨beqS_iff.1 h1, List.mem_of_find?_eq_some h⟩
structure SupJ (p : Prog) (nm0 nm : Str) (out : List Str) : Prop where
 nd : out.Nodup
 sub : ∀ x, x ∈ out → x ∈ p.classes.map Cls.name
 eq : supF p (p.classes.length + 1 - out.length) nm out = supers p nm0
theorem SupJ.len {p : Prog} {nm0 nm : Str} {out : List Str} (h : SupJ p nm0 nm out) : out.length ≤ p.classes.length := by
 have := Z1a h.nd h.sub
 simpa using this
theorem SupJ.start (p : Prog) (nm : Str) : SupJ p nm nm [] := ⟨List.nodup_nil, nofun, rfl⟩
theorem SupJ.eq' {p : Prog} {nm0 nm : Str} {out : List Str} (h : SupJ p nm0 nm out) : (match clsFind p nm with
  | none => out
  | some c => if inL out c.name then out else if beqS c.super zS then out ++ [c.name] else supF p (p.classes.length - out.length) c.super (out ++ [c.name])) = supers p nm0 := by
 have h1 := h.eq
 have h2 := h.len
 rw [show p.classes.length + 1 - out.length = (p.classes.length - out.length) + 1 from by omega] at h1
 exact h1
theorem SupJ.none {p : Prog} {nm0 nm : Str} {out : List Str} (h : SupJ p nm0 nm out) (hc : clsFind p nm = none) : out = supers p nm0 := by have := h.eq'; rwa [hc] at this
theorem SupJ.top {p : Prog} {nm0 nm : Str} {out : List Str} {c : Cls} (h : SupJ p nm0 nm out) (hc : clsFind p nm = some c) (hi : inL out c.name = false) (hs : beqS c.super zS = true) : out ++ [c.name] = supers p nm0 := by
 have := h.eq'; simpa [hc, hi, hs] using this
theorem SupJ.sub1 {p : Prog} {nm0 nm : Str} {out : List Str} {c : Cls} (h : SupJ p nm0 nm out) (hc : clsFind p nm = some c) (hi : inL out c.name = false) : (out ++ [c.name]).Nodup ∧ ∀ x, x ∈ out ++ [c.name] → x ∈ p.classes.map Cls.name := by
 refine ⟨?_, ?_⟩
 ·rw [List.nodup_append]
  refine ⟨h.nd, by simp, ?_⟩
  intro a ha b hb
  rw [List.mem_singleton] at hb
  rintro rfl
  subst hb
  exact inL_false.1 hi ha
 ·intro x hx
  rcases List.mem_append.1 hx with hx | hx
  ·exact h.sub x hx
  ·rw [List.mem_singleton] at hx
   subst hx
   exact List.mem_map.2 ⟨c, (Z0p hc).2, rfl⟩
theorem SupJ.next {p : Prog} {nm0 nm : Str} {out : List Str} {c : Cls} (h : SupJ p nm0 nm out) (hc : clsFind p nm = some c) (hi : inL out c.name = false) (hs : beqS c.super zS = false) : SupJ p nm0 c.super (out ++ [c.name]) := by
 obtain ⟨h1, h2⟩ := h.sub1 hc hi
 refine ⟨h1, h2, ?_⟩
 have h3 := h.eq'
 have h4 := Z1a h1 h2
 simp only [List.length_append, List.length_map, List.length_cons, List.length_nil] at h4
 rw [hc] at h3
 simp only [hi, hs, Bool.false_eq_true, if_false] at h3
 rw [show p.classes.length + 1 - (out ++ [c.name]).length = p.classes.length - out.length from by simp]
 exact h3
theorem SupJ.lt {p : Prog} {nm0 nm : Str} {out : List Str} {c : Cls} (h : SupJ p nm0 nm out) (hc : clsFind p nm = some c) (hi : inL out c.name = false) : out.length + 1 ≤ p.classes.length := by
 obtain ⟨h1, h2⟩ := h.sub1 hc hi
 have h4 := Z1a h1 h2
 simpa using h4
def comF (x y : List Str) : Str := (x.find? fun s => inL y s).getD zS
def com (p : Prog) (a b : Str) : Str := if !beqS a b && (ifaceP p a || ifaceP p b) then zS else comF (supers p a) (supers p b)
def mergeF (j : Fact → Fact → Fact) : List Fact → List Fact → List Fact
 | x :: l, y :: r => j x y :: mergeF j l r
 | _, _ => []
def greatI (x : Instr) : Bool := decide (x.args.length > 60) || decide (x.cls.size > 300) || decide (x.name.size > 300) || decide (x.desc.size > 300)
def greatM0 (m : Meth) : Bool := decide (m.code.length > 300) || decide (m.name.size > 300) || decide (m.desc.size > 300)
def greatM (m : Meth) : Bool := greatM0 m || m.code.any greatI
def greatC0 (c : Cls) : Bool := decide (c.ifaces.length > 40) || decide (c.fields.length > 40) || decide (c.methods.length > 40) || decide (c.name.size > 300) || decide (c.super.size > 300)
def greatC (c : Cls) : Bool := greatC0 c || c.methods.any greatM
def greatP0 (p : Prog) : Bool := decide (p.classes.length > 70) || decide (p.names.length > 70)
def greatP (p : Prog) : Bool := greatP0 p || p.classes.any greatC
def PairsR (f t : Nat) (x y : AV) : AEnd → AHeap → Prop := fun e H => ∃ i1 i2, e = .ret (.fn (.func f) [.ptr i1 1 0 0, .ptr i2 1 0 0]) ∧ H = [(i2, .rows t 1 [[y]]), (i1, .rows t 1 [[x]])]
theorem lts {l : List Nat} {n : Nat} (h : (l.all fun t => Nat.blt t n) = true) : ∀ t, t ∈ l → t < n := fun t ht => Nat.blt_eq ▸ List.all_eq_true.1 h t ht
def setM (out : List Str) : List (Value × AV) := out.map fun s => (.string s, bA true)
section
variable {P : Program} {ro : Option Nat} {Q : Exit → St → Prop} {s : St} {ops : Array Oper} {o : Oper} {rest : List Oper} {T : List (Nat × AV)}
end
theorem Z9l (p : Prog) : ∀ (n : Nat) (nm : Str) (out : List Str), ∃ suf, supF p n nm out = out ++ suf
 | 0, _, out => ⟨[], by simp [supF]⟩
 | n + 1, nm, out => by
  unfold supF
  cases clsFind p nm with
  | none => exact ⟨[], by simp⟩
  | some c =>
   simp only
   split
   ·exact ⟨[], by simp⟩
   ·split
    ·exact ⟨[c.name], rfl⟩
    ·obtain ⟨suf, h⟩ := Z9l p n c.super (out ++ [c.name])
     exact ⟨c.name :: suf, by rw [h]; simp⟩
theorem SupJ.pre {p : Prog} {nm0 nm : Str} {out : List Str} {c : Cls} (h : SupJ p nm0 nm out) (hc : clsFind p nm = some c) (hi : inL out nm = false) : ∃ suf, supers p nm0 = out ++ nm :: suf := by
 have hn := (Z0p hc).1
 have := h.eq'
 rw [hc] at this
 simp only [hn, hi, Bool.false_eq_true, if_false] at this
 split at this
 ·exact ⟨[], this.symm⟩
 ·obtain ⟨suf, h2⟩ := Z9l p (p.classes.length - out.length) c.super (out ++ [nm])
  rw [h2] at this
  exact ⟨suf, by rw [← this]; simp⟩
def AboveR (f t n u : Nat) (cells : List AV) (nm : Str) : AEnd → AHeap → Prop := fun e H => ∃ i1 i2, e = .ret (.fn (.func f) [.ptr i1 n 0 0, .ptr i2 1 0 0]) ∧ H = [(i2, .rows u 1 [[sA nm]]), (i1, .rows t n [cells])]
inductive Anc (p : Prog) (nm : Str) : Str → Prop
 | base {c : Cls} (h : clsFind p nm = some c) : Anc p nm nm
 | step {s u : Str} {c d : Cls} (h : Anc p nm s) (hc : clsFind p s = some c) (hu : u ∈ upC c) (hd : clsFind p u = some d) : Anc p nm u
structure AncJ (p : Prog) (nm : Str) (todo out : List Str) : Prop where
 nd : out.Nodup
 sub : ∀ x, x ∈ out → x ∈ p.classes.map Cls.name
 snd : ∀ x, x ∈ out → Anc p nm x
 tsnd : ∀ x, x ∈ todo → ∀ c, clsFind p x = some c → Anc p nm x
 cl : ∀ s, s ∈ out → ∀ c, clsFind p s = some c → ∀ u, u ∈ upC c → ∀ d, clsFind p u = some d → u ∈ out ∨ u ∈ todo
 st : ∀ c, clsFind p nm = some c → nm ∈ out ∨ nm ∈ todo
theorem AncJ.start (p : Prog) (nm : Str) : AncJ p nm [nm] [] :=
 ⟨List.nodup_nil, nofun, nofun, fun x hx c hc => by rw [List.mem_singleton.1 hx] at hc ⊢; exact .base hc, nofun, fun _ _ => .inr List.mem_cons_self⟩
theorem AncJ.fin {p : Prog} {nm : Str} {out : List Str} (h : AncJ p nm [] out) (s : Str) : s ∈ out ↔ Anc p nm s := by
 refine ⟨h.snd s, fun ha => ?_⟩
 induction ha with
 | base hc => exact (h.st _ hc).resolve_right nofun
 | step _ hc hu hd ih => exact (h.cl _ ih _ hc _ hu _ hd).resolve_right nofun
theorem AncJ.skip {p : Prog} {nm sx : Str} {t out : List Str} (h : AncJ p nm (t ++ [sx]) out) (hs : clsFind p sx = none ∨ sx ∈ out) : AncJ p nm t out := by
 refine ⟨h.nd, h.sub, h.snd, fun x hx => h.tsnd x (List.mem_append_left _ hx), ?_, ?_⟩
 ·intro s hs' c hc u hu d hd
  rcases h.cl s hs' c hc u hu d hd with h1 | h1
  ·exact .inl h1
  ·rcases List.mem_append.1 h1 with h2 | h2
   ·exact .inr h2
   ·rw [List.mem_singleton] at h2
    subst h2
    rcases hs with h3 | h3
    ·rw [h3] at hd; cases hd
    ·exact .inl h3
 ·intro c hc
  rcases h.st c hc with h1 | h1
  ·exact .inl h1
  ·rcases List.mem_append.1 h1 with h2 | h2
   ·exact .inr h2
   ·rw [List.mem_singleton] at h2
    subst h2
    rcases hs with h3 | h3
    ·rw [h3] at hc; cases hc
    ·exact .inl h3
theorem AncJ.sub1 {p : Prog} {nm sx : Str} {t out : List Str} {c : Cls} (h : AncJ p nm (t ++ [sx]) out) (hc : clsFind p sx = some c) (hn : sx ∉ out) : (out ++ [sx]).Nodup ∧ ∀ x, x ∈ out ++ [sx] → x ∈ p.classes.map Cls.name := by
 refine ⟨?_, ?_⟩
 ·rw [List.nodup_append]
  refine ⟨h.nd, by simp, ?_⟩
  intro a ha b hb
  rw [List.mem_singleton] at hb
  subst hb
  rintro rfl
  exact hn ha
 ·intro x hx
  rcases List.mem_append.1 hx with hx | hx
  ·exact h.sub x hx
  ·rw [List.mem_singleton] at hx
   subst hx
   obtain ⟨h1, h2⟩ := Z0p hc
   exact List.mem_map.2 ⟨c, h2, h1⟩
theorem AncJ.add {p : Prog} {nm sx : Str} {t out : List Str} {c : Cls} (h : AncJ p nm (t ++ [sx]) out) (hc : clsFind p sx = some c) (hn : sx ∉ out) : AncJ p nm (t ++ upC c) (out ++ [sx]) := by
 have ha : Anc p nm sx := h.tsnd sx (List.mem_append_right _ List.mem_cons_self) c hc
 refine ⟨(h.sub1 hc hn).1, (h.sub1 hc hn).2, ?_, ?_, ?_, ?_⟩
 ·intro x hx
  rcases List.mem_append.1 hx with hx | hx
  ·exact h.snd x hx
  ·rw [List.mem_singleton.1 hx]; exact ha
 ·intro x hx d hd
  rcases List.mem_append.1 hx with hx | hx
  ·exact h.tsnd x (List.mem_append_left _ hx) d hd
  ·exact .step ha hc hx hd
 ·intro s hs' c' hc' u hu d hd
  rcases List.mem_append.1 hs' with hs' | hs'
  ·rcases h.cl s hs' c' hc' u hu d hd with h1 | h1
   ·exact .inl (List.mem_append_left _ h1)
   ·rcases List.mem_append.1 h1 with h2 | h2
    ·exact .inr (List.mem_append_left _ h2)
    ·exact .inl (List.mem_append_right _ h2)
  ·rw [List.mem_singleton] at hs'
   subst hs'
   rw [hc] at hc'; cases hc'
   exact .inr (List.mem_append_right _ hu)
 ·intro c' hc'
  rcases h.st c' hc' with h1 | h1
  ·exact .inl (List.mem_append_left _ h1)
  ·rcases List.mem_append.1 h1 with h2 | h2
   ·exact .inr (List.mem_append_left _ h2)
   ·exact .inl (List.mem_append_right _ h2)
theorem AncJ.lt {p : Prog} {nm sx : Str} {t out : List Str} {c : Cls} (h : AncJ p nm (t ++ [sx]) out) (hc : clsFind p sx = some c) (hn : sx ∉ out) : out.length + 1 ≤ p.classes.length := by
 have h4 := Z1a (h.sub1 hc hn).1 (h.sub1 hc hn).2
 simpa using h4
theorem AncJ.len {p : Prog} {nm : Str} {t out : List Str} (h : AncJ p nm t out) : out.length ≤ p.classes.length := by
 have h4 := Z1a h.nd h.sub
 simpa using h4
def MapR (p : Prog) (nm : Str) : AEnd → AHeap → Prop := fun e H => ∃ q out, e = .ret (.map q) ∧ H = [(q, .mp (setM out))] ∧ ∀ s, s ∈ out ↔ Anc p nm s
noncomputable def subP (p : Prog) (a b : Str) : Bool := open Classical in decide (Anc p a b)
def fitsBy (sub : Bool) (f : Fact) (t : Ty) : Bool :=
 if t.kind = 2 then f.kind == 1 else if t.kind = 3 then f.kind == 2 || (f.kind == 3 && sub) else if t.kind = 4 then f.kind == 2 || f.kind == 4 else if t.kind = 5 then f.kind == 2 || (f.kind == 5 && beqS f.cls t.cls) else false
theorem Z78 (a : Str) : beqS a a = true := beqS_iff.2 rfl
def ancRun (p : Prog) : Nat → List Str → List Str → Option (List Str)
 | 0, _, _ => none
 | n + 1, todo, out => match todo.getLast? with
  | none => some out
  | some s => match clsFind p s with
   | none => ancRun p n todo.dropLast out
   | some c => if inL out s then ancRun p n todo.dropLast out else ancRun p n (todo.dropLast ++ upC c) (out ++ [s])
def nA : Str := ⟨#[65]⟩
def nB : Str := ⟨#[66]⟩
def nC : Str := ⟨#[67]⟩
def lvCA : Cls := ⟨nA, zS, false, false, [], [], []⟩
def lvCB : Cls := ⟨nB, nA, false, false, [], [], []⟩
def lvCC : Cls := ⟨nC, nA, false, false, [], [], []⟩
def lvP : Prog := ⟨[lvCA, lvCB, lvCC], [], ⟨zS, zS, zS⟩⟩
end Go.Sx
namespace Go.Sx
open Go
open Go.ChangeMaps (setBlock)
def AWpO (Z : List Nat) (C0 : Ctx) (H0 : AHeap) (w0 : World) (P : Program) (ro : Option Nat) (c : Code) (Q : Exit → St → Prop) (s : St) : Prop :=
 ∀ C a w, Ext Z C0 H0 w0 C s.H w → SR C s a w → c.wpIn (Wd ro) 0 P (Post Z C0 H0 w0 Q) a w
def AOpsO (Z : List Nat) (C0 : Ctx) (H0 : AHeap) (w0 : World) (P : Program) (ro : Option Nat) (ops : Array Oper) (l : List Oper) (Q : Exit → St → Prop) (s : St) : Prop :=
 ∀ k, ops.toList.drop k = l → ∀ C a w, Ext Z C0 H0 w0 C s.H w → SR C s a w → wpOpsIn (Wd ro) 0 P ops (Post Z C0 H0 w0 Q) (List.range' k l.length) a w
section
variable {Z : List Nat} {C0 : Ctx} {H0 : AHeap} {w0 : World} {P : Program} {ro : Option Nat} {Q : Exit → St → Prop} {s : St}
theorem Z42 {c : Code} (h : AWp P ro c Q s) : AWpO Z C0 H0 w0 P ro c Q s := h Z C0 H0 w0
theorem Zca {ops : Array Oper} {l : List Oper} (h : AOps P ro ops l Q s) : AOpsO Z C0 H0 w0 P ro ops l Q s := fun k hk => h k hk Z C0 H0 w0
theorem Z1g {x y : Code} (h : AWpO Z C0 H0 w0 P ro x (thenQ (AWpO Z C0 H0 w0 P ro y Q) Q) s) : AWpO Z C0 H0 w0 P ro (.seq x y) Q s :=
 fun C a w he hs => wpIn_seq (wpIn_mono (h C a w he hs) (by
  rintro e a' w' ⟨h1, C', s', hq, hs', he'⟩
  cases e with
  | normal => exact hq C' a' w' he' hs'
  | outgrown => exact absurd rfl h1
  | _ => exact ⟨h1, C', s', hq, hs', he'⟩))
theorem Z3f {c : Operand} {x y : Code} {t : Bool} (hc : ev s.T c = some (.v (.bool t))) (ht : t = true → AWpO Z C0 H0 w0 P ro x Q s) (hf : t = false → AWpO Z C0 H0 w0 P ro y Q s) : AWpO Z C0 H0 w0 P ro (.cond c x y) Q s :=
 fun C a w he hs => wpIn_cond_split (t := t) (VR.val (hs.ev hc)) (fun h => ht h C a w he hs) (fun h => hf h C a w he hs)
theorem Z2r {id : Nat} {c : Code} (h : AWpO Z C0 H0 w0 P ro c (blockQ id Q) s) : AWpO Z C0 H0 w0 P ro (.block id c) Q s :=
 fun C a w he hs => wpIn_block (wpIn_mono (h C a w he hs) (by
  rintro e a' w' ⟨h1, C', s', hq, hs', he'⟩
  cases e with
  | exit i =>
   by_cases hi : i = id
   ·simp only [blockQ, hi, if_true] at hq
    simp only [Exit.inBlock, hi, if_true]
    exact ⟨nofun, C', s', hq, hs', he'⟩
   ·simp only [blockQ, hi, if_false] at hq
    simp only [Exit.inBlock, hi, if_false]
    exact ⟨nofun, C', s', hq, hs', he'⟩
  | _ => exact ⟨h1, C', s', hq, hs', he'⟩))
theorem Zah {c : Code} {s' : St} (hw : Weak s s') (h : AWpO Z C0 H0 w0 P ro c Q s') : AWpO Z C0 H0 w0 P ro c Q s :=
 fun C a w he hs => let ⟨C', h1, h2⟩ := hw Z C a w hs; h C' a w (he.trans h2) h1
theorem Zag {c : Code} {α : Type} (inv : α → St) (μ : α → Nat) (x0 : α) (h0 : Weak s (inv x0))
  (round : ∀ x, AWpO Z C0 H0 w0 P ro c (thenQ (fun s' => ∃ y, μ y < μ x ∧ Weak s' (inv y)) Q) (inv x)) : AWpO Z C0 H0 w0 P ro (.loop c) Q s := by
 refine Zah h0 ?_
 intro C a w he hs
 let I : Act → World → Nat → Prop := fun a w n => ∃ x C, μ x ≤ n ∧ SR C (inv x) a w ∧ Ext Z C0 H0 w0 C (inv x).H w
 have hI : ∃ n, I a w n := ⟨μ x0, x0, C, Nat.le_refl _, hs, he⟩
 classical
 refine wpIn_loop (fun a w => ∃ n, I a w n) (fun a w => if h : ∃ n, I a w n then Classical.choose (Z28 h) else 0) hI ?_
 intro a w hx
 obtain ⟨x, C, hle, hs, he⟩ := (Classical.choose_spec (Z28 hx)).1
 refine wpIn_mono (round x C a w he hs) ?_
 rintro e a' w' ⟨h1, C', s', hq, hs', he'⟩
 cases e with
 | normal =>
  obtain ⟨y, hy, hwk⟩ := hq
  obtain ⟨C'', h2, h3⟩ := hwk Z C' a' w' hs'
  have hi : I a' w' (μ y) := ⟨y, C'', Nat.le_refl _, h2, he'.trans h3⟩
  refine ⟨⟨_, hi⟩, ?_⟩
  rw [dif_pos ⟨_, hi⟩, dif_pos hx]
  exact Nat.lt_of_le_of_lt ((Classical.choose_spec (Z28 ⟨_, hi⟩)).2 _ hi) (Nat.lt_of_lt_of_le hy hle)
 | outgrown => exact absurd rfl h1
 | _ => exact ⟨h1, C', s', hq, hs', he'⟩
theorem Z5y {c : Code} {α : Type} (inv : α → St) (J : α → Prop) (μ : α → Nat) (x0 : α) (j0 : J x0) (h0 : Weak s (inv x0))
  (round : ∀ x, J x → AWpO Z C0 H0 w0 P ro c (thenQ (fun s' => ∃ y, J y ∧ μ y < μ x ∧ Weak s' (inv y)) Q) (inv x)) : AWpO Z C0 H0 w0 P ro (.loop c) Q s :=
 Zag (α := { x : α // J x }) (fun x => inv x.1) (fun x => μ x.1) ⟨x0, j0⟩ h0 fun x => by
  intro C a w he hs
  refine wpIn_mono (round x.1 x.2 C a w he hs) ?_
  rintro e a' w' ⟨h1, C', s', hq, hs', he'⟩
  refine ⟨h1, C', s', ?_, hs', he'⟩
  cases e with
  | normal => obtain ⟨y, h2, h3, h4⟩ := hq; exact ⟨⟨y, h2⟩, h3, h4⟩
  | _ => exact hq
theorem Z1d {id : Nat} {l : List Oper} (h : AOpsO Z C0 H0 w0 P ro l.toArray l Q s) : AWpO Z C0 H0 w0 P ro (.region id l.toArray false) Q s :=
 fun C a w he hs => wpIn_region (by
  have := h 0 (by simp) C a w he hs
  rw [List.range_eq_range']
  simpa using this)
theorem Z1n {ops : Array Oper} (h : Q .normal s) : AOpsO Z C0 H0 w0 P ro ops [] Q s := fun _ _ C _ _ he hs => by
 simp only [List.length_nil, List.range'_zero, wpOpsIn]
 exact ⟨nofun, C, s, h, hs, he⟩
def StepO (Z : List Nat) (C0 : Ctx) (H0 : AHeap) (w0 : World) (P : Program) (ro : Option Nat) (o : Oper) (K : St → Prop) (KP : List PanicEntry → St → Prop) (s : St) : Prop :=
 ∀ C a w, Ext Z C0 H0 w0 C s.H w → SR C s a w →
  o.uponIn (Wd ro) 0 P a (Sat Z C0 H0 w0 K) (fun e a' w' => match e with | .panic ch => Sat Z C0 H0 w0 (KP ch) a' w' | _ => False) ((o.semAt ro a.eval).run P w)
theorem Z1w {ops : Array Oper} {o : Oper} {rest : List Oper} (hw : Wanted ops s.T o true)
  (h : StepO Z C0 H0 w0 P ro o (AOpsO Z C0 H0 w0 P ro ops rest Q) (fun ch => Q (.panic ch)) s) : AOpsO Z C0 H0 w0 P ro ops (o :: rest) Q s := by
 intro k hk C a w he hs
 obtain ⟨h1, h2⟩ := Z03 hk
 have ho : ops[k]? = some o := by rw [← Array.getElem?_toList]; exact h1
 rw [List.length_cons, List.range'_succ, wpOpsIn_cons]
 unfold wpOpIn
 simp only [ho, hs.wanted hw, if_true]
 refine ⟨fun _ _ => trivial, ?_⟩
 refine Z3b ?_ ?_ ?_ (h C a w he hs)
 ·rintro a' w' ⟨C', s', hk', hs', he'⟩
  exact hk' (k + 1) h2 C' a' w' he' hs'
 ·intro c w' hx
  exact ⟨nofun, hx⟩
 ·rintro ⟨a', w', hx⟩
  exact hx.elim
theorem Z75 {ops : Array Oper} {o : Oper} {rest : List Oper} (Hn : AHeap) (x : AV) (hw : Wanted ops s.T o true) (hd : dok o.dst s.n = true)
  (he : Eff P o s.T Hn x []) (hn : ∀ p, p ∈ Hn → p ∈ s.H) (h : AOpsO Z C0 H0 w0 P ro ops rest Q { s with T := Sx.put s.T o.dst x }) : AOpsO Z C0 H0 w0 P ro ops (o :: rest) Q s := by
 refine Z1w hw ?_
 intro C a w hx hs
 refine he Z C s.H a w hs.wr hn (fun p _ y hy => hs.ev hy) nofun List.nodup_nil (fun _ _ => by simp) ro _ _ ?_
 intro v w1 C1 hv hw1 he1
 exact ⟨C1, _, h, hs.put he1.le hw1 (Z0k hd) hv, hx.trans he1⟩
theorem Z33 {ops : Array Oper} {o : Oper} {rest : List Oper} {x : AV} (hw : Wanted ops s.T o true) (hd : dok o.dst s.n = true)
  (he : Eff P o s.T [] x []) (h : AOpsO Z C0 H0 w0 P ro ops rest Q { s with T := Sx.put s.T o.dst x }) : AOpsO Z C0 H0 w0 P ro ops (o :: rest) Q s := by
 refine Z1w hw ?_
 intro C a w hx hs
 refine he Z C s.H a w hs.wr nofun (fun p _ y hy => hs.ev hy) nofun List.nodup_nil (fun _ _ => by simp) ro _ _ ?_
 intro v w1 C1 hv hw1 he1
 exact ⟨C1, _, h, hs.put he1.le hw1 (Z0k hd) hv, hx.trans he1⟩
theorem Zbs {C : Ctx} {H : AHeap} {w : World} {k id b N : Nat} {o : Obj} (hw : WR C H w) (hH : H[k]? = some (id, .raw o)) (hm : C.m id = some (b, N)) : w.heap[b]? = some o := by
 obtain ⟨_, b', N', h1, h2⟩ := hw.ids _ _ (List.mem_of_getElem? hH)
 rw [hm] at h1; cases h1
 exact h2
theorem Z4q {ops : Array Oper} {o : Oper} {rest : List Oper} {t kt et q mb N : Nat} {p : Operand} {ents : Array MapEntry} {clock : Nat} (k : Nat) [hu : UD P t (.map kt et)] (hw : Wanted ops s.T o true) (hd : dok o.dst s.n = true)
  (ho : o.op = .range t p) (hp : ev s.T p = some (.map q)) (hH : s.H[k]? = some (q, .raw (.map ents clock))) (hq : C0.m q = some (mb, N)) (hqu : q ∈ C0.U)
  (h : ∀ id, AOpsO Z C0 H0 w0 P ro ops rest Q { s with T := Sx.put s.T o.dst (.ptr id 1 0 0), H := (id, .raw (.mapIter (some mb) clock #[] clock)) :: s.H }) : AOpsO Z C0 H0 w0 P ro ops (o :: rest) Q s := by
 refine Z1w hw ?_
 intro C a w hx hs
 have hm : C.m q = some (mb, N) := (hx.le.m q hqu).trans hq
 have hb := Zbs hs.wr hH hm
 have hpv := hs.ev hp
 have hpe : a.eval p = .map (some mb) := by
  generalize a.eval p = u at hpv
  cases hpv with
  | map _ b' N' hid _ => rw [hm] at hid; cases hid; rfl
 obtain ⟨id, hid⟩ := Z4f (C.U ++ Z)
 rw [List.mem_append, not_or] at hid
 have hor : OR (C.bind id w.heap.size 1) id (w.alloc (.mapIter (some mb) clock #[] clock)) (.raw (.mapIter (some mb) clock #[] clock)) := ⟨_, 1, Ctx.bind_m .., heap_alloc_new w _⟩
 obtain ⟨hw1, he1⟩ := Z1i (Z := Z) hs.wr hid.1 hid.2 hor
 have hrun : (o.semAt ro a.eval).run P w = .ok (.value (.pointer (some ⟨w.heap.size, 0, none⟩))) (w.alloc (.mapIter (some mb) clock #[] clock)) := by
  rw [Oper.semAt_eq _ _ _ (by intro c; rw [ho]; nofun)]
  simp only [execOp, ho, hpe]
  simp [Sem.run_bind, run_range_map w t kt et mb ents clock hu.ud hb, Result.andThen]
 rw [hrun]
 refine ⟨_, _, h id, hs.put he1.le hw1 (Z0k hd) ?_, hx.trans he1⟩
 have := VR.ptr (C := C.bind id w.heap.size 1) id 1 0 0 w.heap.size 1 (Ctx.bind_m ..) List.mem_cons_self
 simpa using this
theorem Z5w {ops : Array Oper} {o : Oper} {rest : List Oper} {q it mb N since c0 : Nat} {p : Operand} {ents : Array MapEntry} {clock : Nat} {seen : Array Nat} (j k : Nat) (hw : Wanted ops s.T o true) (hd : dok o.dst s.n = true)
  (ho : o.op = .next p false) (hp : ev s.T p = some (.ptr it 1 0 0)) (hI : s.H[j]? = some (it, .raw (.mapIter (some mb) since seen c0))) (hH : s.H[k]? = some (q, .raw (.map ents clock))) (hq : C0.m q = some (mb, N)) (hqu : q ∈ C0.U)
  (hold : ∀ x ∈ ents.toList, x.born < since) (hsc : since ≤ c0)
  (h0 : (leftOf ents seen).size = 0 → AOpsO Z C0 H0 w0 P ro ops rest Q { s with T := Sx.put s.T o.dst (.tup [.v (.bool false)]) })
  (h1 : ∀ e ∈ (leftOf ents seen).toList, AOpsO Z C0 H0 w0 P ro ops rest Q { s with T := Sx.put s.T o.dst (.tup [.v (.bool true), .v e.key, .v e.val]), H := s.H.set j (it, .raw (.mapIter (some mb) since (seen.push e.born) clock)) }) : AOpsO Z C0 H0 w0 P ro ops (o :: rest) Q s := by
 refine Z1w hw ?_
 intro C a w hx hs
 have hm : C.m q = some (mb, N) := (hx.le.m q hqu).trans hq
 have hb := Zbs hs.wr hH hm
 have hpv := hs.ev hp
 have tup1 : ∀ C' : Ctx, VR C' (.tup [.v (.bool false)]) (.tuple #[.bool false]) := fun C' => .tup _ _ rfl (fun i c x hc hv => by
  cases i with
  | zero => simp at hc hv; subst hc; subst hv; exact .v _
  | succ i => simp at hc)
 have tup3 : ∀ (C' : Ctx) (x y : Value), VR C' (.tup [.v (.bool true), .v x, .v y]) (.tuple #[.bool true, x, y]) := fun C' x y => .tup _ _ rfl (fun i c z hc hv => by
  rcases i with _ | _ | _ | i
  ·simp at hc hv; subst hc; subst hv; exact .v _
  ·simp at hc hv; subst hc; subst hv; exact .v _
  ·simp at hc hv; subst hc; subst hv; exact .v _
  ·simp at hc)
 obtain ⟨hu', r, N', hmi, hr⟩ := hs.wr.ids _ _ (List.mem_of_getElem? hI)
 have hpe : a.eval p = .pointer (some ⟨r, 0, none⟩) := by
  generalize a.eval p = u at hpv
  cases hpv with
  | ptr _ _ _ _ b' N'' hid _ => rw [hmi] at hid; cases hid; rfl
 have hsem : ∀ (v : Value) (w' : World), (Instr.next (.pointer (some ⟨r, 0, none⟩)) false o.type).run P w = .ok v w' → (o.semAt ro a.eval).run P w = .ok (.value v) w' := fun v w' hv => by
  rw [Oper.semAt_eq _ _ _ (by intro c; rw [ho]; nofun)]
  simp only [execOp, ho, hpe]
  simp [Sem.run_bind, hv, Result.andThen]
 rcases run_next_at (P := P) w o.type r mb since c0 seen ents clock hr hb hold hsc with ⟨hz, hrun⟩ | ⟨e, hem, w1, hw1, hrun⟩
 ·rw [hsem _ _ hrun]
  exact ⟨C, _, h0 hz, hs.put (.refl C) hs.wr (Z0k hd) (tup1 C), hx⟩
 ·rw [hsem _ _ hrun]
  have hlt : r < w.heap.size := (Array.getElem?_eq_some_iff.1 hr).1
  have hh : w1.heap = w.heap ∧ w1.os = w.os ∧ w1.tape = w.tape ∧ w1.output = w.output := by rcases hw1 with rfl | rfl <;> exact ⟨rfl, rfl, rfl, rfl⟩
  have hget : ∀ b, (setBlock w1 r (.mapIter (some mb) since (seen.push e.born) clock)).heap[b]? = if b = r then some (.mapIter (some mb) since (seen.push e.born) clock) else w.heap[b]? := fun b => by
   simp only [setBlock, hh.1]
   rw [Array.getElem?_setIfInBounds]
   split
   ·rename_i hbr; subst hbr; simp [hlt]
   ·rename_i hbr; rw [if_neg (fun h => hbr h.symm)]
  obtain ⟨g1, g2⟩ := Z0t (Z := Z) (C' := C) (id' := it) (o' := .raw (.mapIter (some mb) since (seen.push e.born) clock)) (w' := setBlock w1 r (.mapIter (some mb) since (seen.push e.born) clock)) hs.wr hI (.refl C) rfl (.inl rfl) hu' (fun _ _ h => h)
   hh.2.1 hh.2.2.1 hh.2.2.2 (by simp [setBlock, hh.1]) (fun b N' hm' => .inl ⟨N', hm'⟩) (fun b2 hb2 hne => by rw [hget, if_neg (by rintro rfl; exact hne _ hmi)]) ⟨r, N', hmi, by rw [hget, if_pos rfl]⟩
  exact ⟨C, _, h1 e hem, hs.put g2.le g1 (Z0k hd) (tup3 C _ _), hx.trans g2⟩
theorem Z4p {ops : Array Oper} {o : Oper} {rest : List Oper} {q it mb N since : Nat} {p : Operand} {ents : Array MapEntry} {clock : Nat} {seen : Array Nat} {e : MapEntry} (j k : Nat) (hw : Wanted ops s.T o true) (hd : dok o.dst s.n = true)
  (ho : o.op = .entry p) (hp : ev s.T p = some (.ptr it 1 0 0)) (hI : s.H[j]? = some (it, .raw (.mapIter (some mb) since (seen.push e.born) clock))) (hH : s.H[k]? = some (q, .raw (.map ents clock))) (hq : C0.m q = some (mb, N)) (hqu : q ∈ C0.U)
  (hem : e ∈ ents.toList) (hn : (ents.toList.map (·.born)).Nodup)
  (h : AOpsO Z C0 H0 w0 P ro ops rest Q { s with T := Sx.put s.T o.dst (.tup [.v e.key, .v e.val]) }) : AOpsO Z C0 H0 w0 P ro ops (o :: rest) Q s := by
 refine Z1w hw ?_
 intro C a w hx hs
 have hm : C.m q = some (mb, N) := (hx.le.m q hqu).trans hq
 have hb := Zbs hs.wr hH hm
 have hpv := hs.ev hp
 obtain ⟨hu', r, N', hmi, hr⟩ := hs.wr.ids _ _ (List.mem_of_getElem? hI)
 have hpe : a.eval p = .pointer (some ⟨r, 0, none⟩) := by
  generalize a.eval p = u at hpv
  cases hpv with
  | ptr _ _ _ _ b' N'' hid _ => rw [hmi] at hid; cases hid; rfl
 have hrun : (o.semAt ro a.eval).run P w = .ok (.value (.tuple #[e.key, e.val])) w := by
  rw [Oper.semAt_eq _ _ _ (by intro c; rw [ho]; nofun)]
  simp only [execOp, ho, hpe]
  simp [Sem.run_bind, run_entry_at w r mb since seen ents clock e hr hb hem hn, Result.andThen]
 rw [hrun]
 refine ⟨C, _, h, hs.put (.refl C) hs.wr (Z0k hd) (.tup _ _ rfl (fun i c z hc hv => ?_)), hx⟩
 rcases i with _ | _ | i
 ·simp at hc hv; subst hc; subst hv; exact .v _
 ·simp at hc hv; subst hc; subst hv; exact .v _
 ·simp at hc
end
def keyS (e : MapEntry) : Str := match e.key with | .string s => s | _ => default
def bornsA (x : List MapEntry) : Array Nat := (x.map (·.born)).toArray
theorem Z34 (x : List MapEntry) (e : MapEntry) : (bornsA x).push e.born = bornsA (x ++ [e]) := by simp [bornsA]
theorem bornsA_has {x : List MapEntry} {b : Nat} : (bornsA x).contains b = true ↔ b ∈ x.map (·.born) := by simp [bornsA]
structure SetE (out : List Str) (ents : Array MapEntry) (clock : Nat) : Prop where
 key : ents.toList.map (·.key) = out.map Value.string
 born : ∀ e ∈ ents.toList, e.born < clock
 nd : (ents.toList.map (·.born)).Nodup
theorem SetE.keyS {out : List Str} {ents : Array MapEntry} {clock : Nat} (h : SetE out ents clock) {e : MapEntry} (he : e ∈ ents.toList) : e.key = .string (Sx.keyS e) ∧ Sx.keyS e ∈ out := by
 have h1 : e.key ∈ out.map Value.string := h.key ▸ List.mem_map.2 ⟨e, he, rfl⟩
 obtain ⟨s, hs, hk⟩ := List.mem_map.1 h1
 unfold Sx.keyS
 rw [← hk]
 exact ⟨rfl, hs⟩
theorem SetE.all {out : List Str} {ents : Array MapEntry} {clock : Nat} (h : SetE out ents clock) {s : Str} (hs : s ∈ out) : ∃ e ∈ ents.toList, Sx.keyS e = s := by
 have h1 : Value.string s ∈ ents.toList.map (·.key) := h.key ▸ List.mem_map.2 ⟨s, hs, rfl⟩
 obtain ⟨e, he, hk⟩ := List.mem_map.1 h1
 refine ⟨e, he, ?_⟩
 unfold Sx.keyS
 rw [hk]
theorem SetE.keys {out : List Str} {ents : Array MapEntry} {clock : Nat} (h : SetE out ents clock) : ents.toList.map Sx.keyS = out := by
 have h1 : ents.toList.map Sx.keyS = (ents.toList.map (·.key)).map (fun v => match v with | .string s => s | _ => default) := by rw [List.map_map]; rfl
 rw [h1, h.key, List.map_map]
 exact (List.map_congr_left fun s _ => rfl).trans (List.map_id _)
structure Got (out : List Str) (ents : Array MapEntry) (x : List MapEntry) : Prop where
 sub : ∀ e ∈ x, e ∈ ents.toList
 nd : (x.map (·.born)).Nodup
theorem Got.start (out : List Str) (ents : Array MapEntry) : Got out ents [] := ⟨nofun, List.nodup_nil⟩
theorem Got.step {out : List Str} {ents : Array MapEntry} {x : List MapEntry} {e : MapEntry} (h : Got out ents x) (he : e ∈ (leftOf ents (bornsA x)).toList) : Got out ents (x ++ [e]) := by
 obtain ⟨h1, h2⟩ := mem_left he
 refine ⟨fun z hz => ?_, ?_⟩
 ·rcases List.mem_append.1 hz with hz | hz
  ·exact h.sub z hz
  ·rw [List.mem_singleton.1 hz]; exact h1
 ·rw [List.map_append, List.nodup_append]
  refine ⟨h.nd, by simp, ?_⟩
  rintro a ha b hb rfl
  rw [List.map_singleton, List.mem_singleton] at hb
  subst hb
  rw [bornsA_has.2 ha] at h2; cases h2
theorem Got.keys {out : List Str} {ents : Array MapEntry} {clock : Nat} (hs : SetE out ents clock) (ho : out.Nodup) {x : List MapEntry} (h : Got out ents x) : (x.map keyS).Nodup ∧ ∀ s, s ∈ x.map keyS → s ∈ out := by
 refine ⟨?_, fun s hsx => ?_⟩
 ·have hk : ∀ a b : MapEntry, a ∈ ents.toList → b ∈ ents.toList → keyS a = keyS b → a.born = b.born := by
   intro a b ha hb hab
   obtain ⟨i, hi, rfl⟩ := List.mem_iff_getElem.1 ha
   obtain ⟨j, hj, rfl⟩ := List.mem_iff_getElem.1 hb
   have e1 := hs.keys
   have hnd : (ents.toList.map keyS).Nodup := by rw [e1]; exact ho
   have hi' : i < (ents.toList.map keyS).length := by simpa using hi
   have hj' : j < (ents.toList.map keyS).length := by simpa using hj
   have : i = j := (List.getElem_inj (h₀ := hi') (h₁ := hj') hnd).1 (by simpa using hab)
   subst this; rfl
  have hx := h.nd
  unfold List.Nodup at hx ⊢
  rw [List.pairwise_map] at hx ⊢
  refine List.Pairwise.imp_of_mem ?_ hx
  intro a b ha hb hne hab
  exact hne (hk a b (h.sub a ha) (h.sub b hb) hab)
 ·obtain ⟨e, he, rfl⟩ := List.mem_map.1 hsx
  exact (hs.keyS (h.sub e he)).2
theorem Got.fin {out : List Str} {ents : Array MapEntry} {clock : Nat} (hs : SetE out ents clock) (ho : out.Nodup) {x : List MapEntry} (h : Got out ents x) (hz : (leftOf ents (bornsA x)).size = 0) : (x.map keyS).Perm out := by
 obtain ⟨h1, h2⟩ := h.keys hs ho
 refine (List.perm_ext_iff_of_nodup h1 ho).2 fun s => ⟨h2 s, fun hso => ?_⟩
 obtain ⟨e, he, rfl⟩ := hs.all hso
 have h3 := bornsA_has.1 (all_seen _ _ hz e he)
 obtain ⟨e', he', hb⟩ := List.mem_map.1 h3
 rw [← born_inj hs.nd (h.sub e' he') he hb]
 exact List.mem_map.2 ⟨e', he', rfl⟩
theorem Got.dec {out : List Str} {ents : Array MapEntry} {x : List MapEntry} {e : MapEntry} (he : e ∈ (leftOf ents (bornsA x)).toList) : (leftOf ents (bornsA (x ++ [e]))).size < (leftOf ents (bornsA x)).size := by
 rw [← Z34]; exact left_shrinks _ _ _ he
def AdmS (out : List Str) (l : List Str) : Prop := l.Nodup ∧ ∀ s, s ∈ l → s ∈ out
def FinS (out : List Str) (l : List Str) : Prop := l.Perm out
theorem AdmS.len {out l : List Str} (h : AdmS out l) : l.length ≤ out.length := Z1a h.1 h.2
def MapN (p : Prog) (nm : Str) : AEnd → AHeap → Prop := fun e H => ∃ q out, e = .ret (.map q) ∧ H = [(q, .mp (setM out))] ∧ out.Nodup ∧ out.length ≤ p.classes.length ∧ ∀ s, s ∈ out ↔ Anc p nm s
end Go.Sx
namespace Go.Sx
open Go
def SeqKR {α : Type} (Hk : AHeap) (Fin : List α → Prop) (J Jx : List α → AHeap → Prop) : AEnd → AHeap → Prop :=
 fun e H' => (∃ v, e = .ret v) ∧ ((∃ l H'', Fin l ∧ H'.Perm (Hk ++ H'') ∧ J l H'') ∨ (∃ pre H'', H'.Perm (Hk ++ H'') ∧ Jx pre H''))
structure SeqK {α : Type} (P : Program) (gf : Nat) (caps : List AV) (Hit Hk : AHeap) (enc : α → List AV) (Adm Fin : List α → Prop) : Prop where
 ok : Callable P gf
 run : ∀ (id : Nat) (J Jx : List α → AHeap → Prop),
  (∀ pre x H, Adm (pre ++ [x]) → J pre H → YCalls P id (enc x) H (fun e H' => (e = .ret (.v (.bool true)) ∧ J (pre ++ [x]) H') ∨ (e = .ret (.v (.bool false)) ∧ Jx (pre ++ [x]) H'))) →
  ∀ H, J [] H → ACalls P gf (.yld id :: caps) (Hit ++ H) (SeqKR Hk Fin J Jx)
theorem Z5t {P : Program} {Q : Exit → St → Prop} {s : St} {g : Operand} {ps : Array Tmp} {assign body : Code} {gf : Nat} {caps : List AV} {α : Type} (enc : α → List AV) (Adm Fin : List α → Prop) (Hit Hk Hb0 : AHeap)
  (I : List α → AHeap → Prop) (Ix : Code → List α → AHeap → Prop) (hg : ev s.T g = some (.fn (.func gf) caps)) (hp : s.H.Perm (Hit ++ Hb0)) (hI0 : I [] Hb0) (hseq : SeqK P gf caps Hit Hk enc Adm Fin)
  (hps : ∀ x, (enc x).length = ps.size) (hpn : ∀ t, t ∈ ps.toList → t < s.n)
  (round : ∀ l pre x Hb, Adm (pre ++ [x]) → I pre Hb → AWp P (some l) assign (fun e s' => e = .normal ∧ AWp P (some l) body (roundQ I Ix (pre ++ [x])) s') ⟨prm s.T ps.toList (enc x), Hb, [], s.n⟩)
  (done : ∀ i ll Hb, Fin ll → I ll Hb → Q .normal ⟨s.T, (Hk ++ Hb) ++ [(i, .raw (.deferred (some [])))], i :: s.D, s.n⟩)
  (stop : ∀ i c pre Hb, Ix c pre Hb → AWp P none c Q ⟨s.T, (Hk ++ Hb) ++ [(i, .raw (.deferred (some [])))], i :: s.D, s.n⟩) :
  AWp P none (.rangeFunc g ps assign body) Q s := by
 intro Z C0 H0 w0 C a w he hs
 refine wpIn_rangeFunc (F := Wd none) (n := 0) (fun fn _ => ?_)
 -- two new blocks
 obtain ⟨i1, hi1⟩ := Z4f (C.U ++ Z)
 rw [List.mem_append, not_or] at hi1
 have hd1 : OR (C.bind i1 w.heap.size 0) i1 (w.alloc (.deferred (some []))) (.raw (.deferred (some []))) := ⟨_, 0, Ctx.bind_m .., heap_alloc_new w _⟩
 obtain ⟨hw1, he1⟩ := Z1i (Z := Z) hs.wr hi1.1 hi1.2 hd1
 obtain ⟨i2, hi2⟩ := Z4f ((C.bind i1 w.heap.size 0).U ++ Z)
 rw [List.mem_append, not_or] at hi2
 let rec0 : Loop := { state := .ready, pending := none, fn := fn, tmps := a.tmps, params := ps, assign := assign, body := body, defers := w.heap.size }
 let C2 := (C.bind i1 w.heap.size 0).bind i2 (w.alloc (.deferred (some []))).heap.size 0
 let w2 := (w.alloc (.deferred (some []))).alloc (.loop rec0)
 have hsz1 : (w.alloc (.deferred (some []))).heap.size = w.heap.size + 1 := by simp
 have hl2 : OR C2 i2 w2 (.loop s.T s.n ps assign body .ready none) := by
  refine ⟨_, 0, rec0, Ctx.bind_m .., heap_alloc_new _ _, rfl, rfl, rfl, rfl, rfl, hs.sz, fun t x ht => ?_⟩
  obtain ⟨v, h1, h2⟩ := hs.sl t x ht
  exact ⟨v, h1, (h2.mono he1.le).mono (Ctx.le_bind hi2.1)⟩
 obtain ⟨hw2, he2⟩ := Z1i (Z := Z) hw1 hi2.1 hi2.2 hl2
 have he12 := he1.trans he2
 have hm2 : C2.m i2 = some (w.heap.size + 1, 0) := by rw [← hsz1]; exact Ctx.bind_m ..
 have hm1 : C2.m i1 = some (w.heap.size, 0) := by rw [he2.le.m i1 List.mem_cons_self]; exact Ctx.bind_m ..
 -- the function's value
 have hgv := hs.ev hg
 generalize hge : a.eval g = gv at hgv
 cases hgv with
 | fn _ _ vcaps hcl hcv =>
  refine ⟨w.heap.size + 1, [{ target := .collected w.heap.size, args := #[] }], w2, { target := .fn (.func gf) vcaps, args := #[.func (.yield (w.heap.size + 1)) #[] #[]] }, w2, gf, #[.func (.yield (w.heap.size + 1)) #[] #[]] ++ vcaps, w2, run_enterLoop_outer fn a.tmps ps assign body, ?_, fun _ _ => trivial, ?_, nofun, ?_⟩
  ·simp only [resolve, rangeCall, Deferred.ofValue, hge, Sem.run_pure]
   simp [Act.eval]
  ·simp only [invoke]; exact Z3v hseq.ok _ w2
  -- the rounds
  let J : List α → AHeap → Prop := fun pre H => ∃ Hb, I pre Hb ∧ H = (i2, .loop s.T s.n ps assign body .ready none) :: Hb
  let Jx : List α → AHeap → Prop := fun pre H => ∃ c Hb, Ix c pre Hb ∧ H = (i2, .loop s.T s.n ps assign body .done (some c)) :: Hb
  have hY : ∀ pre x H, Adm (pre ++ [x]) → J pre H → YCalls P i2 (enc x) H (fun e H' => (e = .ret (.v (.bool true)) ∧ J (pre ++ [x]) H') ∨ (e = .ret (.v (.bool false)) ∧ Jx (pre ++ [x]) H')) := by
   rintro pre x H hxs ⟨Hb, hI, rfl⟩
   intro Z1 C1 w1 vs l N hm hwr hvs
   obtain ⟨hu, hor⟩ := hwr.ids _ _ List.mem_cons_self
   obtain ⟨r, h1, h2, h3, h4, h5, h6, h7, h8⟩ := Z19 hor hm
   refine ⟨r.fn, _, r.assign, r.body, run_yield h1 (by rw [← hvs.1, hps, h4]), ?_⟩
   refine roundIn_of_wpIn (F := Wd none) trivial ?_
   have hwb : WR C1 Hb w1 := (hwr.perm (List.perm_append_comm (l₁ := [(i2, _)]) (l₂ := Hb))).left
   have hfold : ((r.params.zip vs).foldl (fun tmps (x : Tmp × Value) => tmps.setIfInBounds x.1 x.2) r.tmps) = ((ps.toList.zip vs.toList).foldl (fun tmps (x : Tmp × Value) => tmps.setIfInBounds x.1 x.2) r.tmps) := by
    rw [h4, ← Array.foldl_toList, Array.toList_zip]
   obtain ⟨hq1, hq2⟩ := Z4l (C := C1) (n := s.n) ps.toList (enc x) s.T r.tmps vs.toList (by rw [hps]; simp) (by rw [hvs.1]; simp) hpn h7 h8 (fun i y v hy hv => hvs.2 i y v hy (by rw [← Array.getElem?_toList]; exact hv))
   have hSR : SR C1 ⟨prm s.T ps.toList (enc x), Hb, [], s.n⟩ { tmps := (r.params.zip vs).foldl (fun tmps (x : Tmp × Value) => tmps.setIfInBounds x.1 x.2) r.tmps, defers := [] } w1 := by
    refine ⟨hwb, ?_, rfl, nofun, ?_⟩
    ·rw [hfold]; exact hq2
    ·rw [hfold]; exact hq1
   rw [h5, h6]
   refine wpIn_mono (round l pre x Hb hxs hI (Z1 ++ []) C1 Hb w1 C1 _ w1 (.refl ..) hSR) ?_
   rintro e a' w' ⟨_, C', s', ⟨rfl, hbody⟩, hs', he'⟩
   -- the record is beside
   have hperm : ((i2, AObj.loop s.T s.n ps assign body .ready none) :: Hb).Perm (Hb ++ [(i2, .loop s.T s.n ps assign body .ready none)]) := List.perm_append_comm (l₁ := [(i2, _)]) (l₂ := Hb)
   obtain ⟨hf1, hf2⟩ := he'.frame (hwr.perm hperm) hs'.wr
   have hperm' : (s'.H ++ [(i2, AObj.loop s.T s.n ps assign body .ready none)]).Perm ((i2, .loop s.T s.n ps assign body .ready none) :: s'.H) := List.perm_append_comm (l₁ := s'.H) (l₂ := [(i2, _)])
   have hwr' := hf1.perm hperm'
   have hm' : C'.m i2 = some (l, N) := by rw [he'.le.m i2 hu]; exact hm
   obtain ⟨_, hor'⟩ := hwr'.ids _ _ List.mem_cons_self
   obtain ⟨r', g1, g2, g3, g4, g5, g6, g7, g8⟩ := Z19 hor' hm'
   obtain ⟨hb1, hb2⟩ := Z21 (Z := Z1) (st' := .busy) (pend' := r'.pending) hwr' hm' g1
   refine ⟨_, run_beginRound g1 g2, ?_⟩
   have hwbusy : WR C' s'.H (w'.putObj l (.loop { r' with state := .busy })) := (hb1.perm (List.perm_append_comm (l₁ := [(i2, _)]) (l₂ := s'.H))).left
   refine wpIn_mono (hbody (Z1 ++ []) C' s'.H _ C' a' _ (.refl ..) ⟨hwbusy, hs'.sl, hs'.df, hs'.du, hs'.sz⟩) ?_
   rintro e a'' w'' ⟨hno, C'', s'', hq, hs'', he''⟩
   have big : ∀ s3, Weak s'' s3 → ∀ (jump : Option Code) (st : LoopState), st = (if jump.isNone then .ready else .done) →
     ∃ v w4, (Instr.endRound l jump).run P w'' = .ok v w4 ∧ v = .bool jump.isNone ∧ ∃ C3, WR C3 ((i2, .loop s.T s.n ps assign body st jump) :: s3.H) w4 ∧ Ext Z1 C1 ((i2, .loop s.T s.n ps assign body .ready none) :: Hb) w1 C3 ((i2, .loop s.T s.n ps assign body st jump) :: s3.H) w4 := by
    intro s3 hwk jump st hst
    obtain ⟨C3, hs3, he3⟩ := hwk Z1 C'' a'' w'' hs''
    have he4 : Ext Z1 C' s'.H (w'.putObj l (.loop { r' with state := .busy })) C3 s3.H w'' := (he''.subZ (fun z hz => List.mem_append_left _ hz)).trans he3
    obtain ⟨hf3, hf4⟩ := he4.frame (hb1.perm (List.perm_append_comm (l₁ := [(i2, _)]) (l₂ := s'.H))) hs3.wr
    have hwr3 := hf3.perm (List.perm_append_comm (l₁ := s3.H) (l₂ := [(i2, _)]))
    have hm3 : C3.m i2 = some (l, N) := by
     rw [he4.le.m i2 (he'.le.U i2 hu)]; exact hm'
    obtain ⟨_, hor3⟩ := hwr3.ids _ _ List.mem_cons_self
    obtain ⟨r3, k1, k2, k3, k4, k5, k6, k7, k8⟩ := Z19 hor3 hm3
    obtain ⟨ht1, ht2⟩ := Z21 (Z := Z1) (st' := st) (pend' := jump) hwr3 hm3 k1
    refine ⟨_, _, run_endRound jump k1, rfl, C3, by rw [← hst]; exact ht1, ?_⟩
    rw [← hst]
    have x1 : Ext Z1 C1 ((i2, .loop s.T s.n ps assign body .ready none) :: Hb) w1 C' ((i2, .loop s.T s.n ps assign body .ready none) :: s'.H) w' := ((hf2.subZ (fun z hz => List.mem_append_left _ hz)).permL hperm.symm).permR hperm'
    have x2 := (hf4.permL (List.perm_append_comm (l₁ := s'.H) (l₂ := [(i2, _)]))).permR (List.perm_append_comm (l₁ := s3.H) (l₂ := [(i2, _)]))
    exact ((x1.trans hb2).trans x2).trans ht2
   cases e with
   | normal =>
    obtain ⟨s3, hwk, hI3⟩ := hq
    obtain ⟨v, w4, k1, rfl, C3, k2, k3⟩ := big s3 hwk none .ready rfl
    exact ⟨_, w4, k1, C3, _, .ret (.v (.bool true)), .inl ⟨rfl, s3.H, hI3, rfl⟩, k2, k3, .v _⟩
   | ret =>
    obtain ⟨s3, hwk, hI3⟩ := hq
    obtain ⟨v, w4, k1, rfl, C3, k2, k3⟩ := big s3 hwk (some .ret) .done rfl
    exact ⟨_, w4, k1, C3, _, .ret (.v (.bool false)), .inr ⟨rfl, _, s3.H, hI3, rfl⟩, k2, k3, .v _⟩
   | exit i =>
    obtain ⟨s3, hwk, hI3⟩ := hq
    obtain ⟨v, w4, k1, rfl, C3, k2, k3⟩ := big s3 hwk (some (.exit i)) .done rfl
    exact ⟨_, w4, k1, C3, _, .ret (.v (.bool false)), .inr ⟨rfl, _, s3.H, hI3, rfl⟩, k2, k3, .v _⟩
   | goto i =>
    obtain ⟨s3, hwk, hI3⟩ := hq
    obtain ⟨v, w4, k1, rfl, C3, k2, k3⟩ := big s3 hwk (some (.goto i)) .done rfl
    exact ⟨_, w4, k1, C3, _, .ret (.v (.bool false)), .inr ⟨rfl, _, s3.H, hI3, rfl⟩, k2, k3, .v _⟩
   | panic ch => exact hq.elim
   | outgrown => exact hno rfl
  -- the one call
  have hcall := hseq.run i2 J Jx hY _ ⟨Hb0, hI0, rfl⟩
  have hpa : ((i2, AObj.loop s.T s.n ps assign body .ready none) :: (i1, .raw (.deferred (some []))) :: s.H).Perm ((Hit ++ (i2, .loop s.T s.n ps assign body .ready none) :: Hb0) ++ [(i1, .raw (.deferred (some [])))]) := by
   refine List.Perm.trans ?_ (List.perm_append_comm (l₁ := [(i1, AObj.raw (.deferred (some [])))]) (l₂ := Hit ++ (i2, .loop s.T s.n ps assign body .ready none) :: Hb0))
   refine (List.Perm.swap _ _ _).trans ?_
   refine List.Perm.cons _ ?_
   exact (List.Perm.cons _ hp).trans List.perm_middle.symm
  have hvs : VRs C2 (.yld i2 :: caps) (#[.func (.yield (w.heap.size + 1)) #[] #[]] ++ vcaps) := by
   have h1 : VRs C2 [.yld i2] #[.func (.yield (w.heap.size + 1)) #[] #[]] := ⟨rfl, by
    intro i x v hx hv
    cases i with
    | zero => simp at hx hv; subst hx; subst hv; exact .yld i2 _ 0 hm2 List.mem_cons_self
    | succ i => simp at hx⟩
   exact h1.append ⟨hcl, fun i x v hx hv => ((hcv i x v hx hv).mono he1.le).mono he2.le⟩
  refine ((hcall.frame _ _ hpa).run Z C2 w2 _ hw2 hvs).mono ?_
  rintro e w3 ⟨C3, K3, x, ⟨H', ⟨⟨v, rfl⟩, hfin⟩, rfl⟩, hw3, he3, hx⟩
  have hm3 : C3.m i2 = some (w.heap.size + 1, 0) := by rw [he3.le.m i2 List.mem_cons_self]; exact hm2
  -- behind it
  have fin : ∀ (st : LoopState) (pend : Option Code) (Hb : AHeap), H'.Perm ((i2, .loop s.T s.n ps assign body st pend) :: Hb) → st ≠ .busy →
    ∃ w4, (Instr.endLoop (w.heap.size + 1)).run P w3 = .ok pend w4 ∧ SR C3 ⟨s.T, Hb ++ [(i1, .raw (.deferred (some [])))], i1 :: s.D, s.n⟩ { a with defers := [{ target := .collected w.heap.size, args := #[] }] ++ a.defers } w4 ∧
     Ext Z C0 H0 w0 C3 (Hb ++ [(i1, .raw (.deferred (some [])))]) w4 := by
   intro st pend Hb hpm hst
   have hpm' : (H' ++ [(i1, AObj.raw (.deferred (some [])))]).Perm ((i2, .loop s.T s.n ps assign body st pend) :: (Hb ++ [(i1, .raw (.deferred (some [])))])) := by
    exact List.Perm.append_right _ hpm
   have hwl := hw3.perm hpm'
   obtain ⟨_, hor⟩ := hwl.ids _ _ List.mem_cons_self
   obtain ⟨r, g1, g2, g3, _⟩ := Z19 hor hm3
   obtain ⟨ht1, ht2⟩ := Z21 (Z := Z) (st' := .exhausted) (pend' := r.pending) hwl hm3 g1
   refine ⟨_, by rw [← g3]; exact run_endLoop g1 (by rw [g2]; exact hst), ?_, ?_⟩
   ·have hsub : ∀ p, p ∈ (Hb ++ [(i1, AObj.raw (.deferred (some [])))]) → p ∈ (i2, AObj.loop s.T s.n ps assign body .exhausted r.pending) :: (Hb ++ [(i1, AObj.raw (.deferred (some [])))]) := fun p hp => List.mem_cons_of_mem _ hp
    have hnd := ht1.nd
    simp only [List.map_cons, List.nodup_cons] at hnd
    refine ⟨ht1.sub hsub hnd.2, fun t x ht => ?_, ?_, ?_, hs.sz⟩
    ·obtain ⟨v, h1, h2⟩ := hs.sl t x ht
     exact ⟨v, h1, (h2.mono he12.le).mono he3.le⟩
    ·simp only [List.map_cons, List.cons_append, List.nil_append]
     have e1 : mark C3 i1 = { target := .collected w.heap.size, args := #[] } := by
      simp [mark, he3.le.m i1 (List.mem_cons_of_mem _ List.mem_cons_self), hm1]
     rw [e1, hs.df]
     congr 1
     exact List.map_congr_left fun i hi => by
      have e2 : C3.m i = C.m i := (he3.le.m i (he12.le.U i (hs.du i hi))).trans (he12.le.m i (hs.du i hi))
      have e3 : C3.df i = C.df i := (he3.le.df i (he12.le.U i (hs.du i hi))).trans (he12.le.df i (hs.du i hi))
      simp only [mark, e2, e3]
    ·intro i hi
     rcases List.mem_cons.1 hi with rfl | hi
     ·exact he3.le.U _ (List.mem_cons_of_mem _ List.mem_cons_self)
     ·exact he3.le.U i (he12.le.U i (hs.du i hi))
   ·refine (he.trans (he12.trans ((he3.permR hpm').trans ht2))).trans (Ext.sub (fun p hp => List.mem_cons_of_mem _ hp))
  cases e with
  | returned v' =>
   rcases hfin with ⟨ll, H'', hfl, hpm, Hb, hI, rfl⟩ | ⟨pre, H'', hpm, c, Hb, hIx, rfl⟩
   ·obtain ⟨w4, h1, h2, h3⟩ := fin .ready none (Hk ++ Hb) (hpm.trans List.perm_middle) nofun
    exact ⟨none, w4, h1, nofun, C3, _, done i1 ll Hb hfl hI, h2, h3⟩
   ·obtain ⟨w4, h1, h2, h3⟩ := fin .done (some c) (Hk ++ Hb) (hpm.trans List.perm_middle) nofun
    exact ⟨some c, w4, h1, stop i1 c pre Hb hIx Z C0 H0 w0 C3 _ w4 h3 h2⟩
  | panicked ch => exact hx.elim
  | outgrown => exact hx.elim
end Go.Sx
namespace Go.Sx
open Go
theorem Z1f {P : Program} {b : Frame} {a : Act} {k : List Item} {cs : List Frame} {w : World} {c : Code} : step P (lone (b.atR a (.code (.scope c) :: k)) cs w) = .next (lone (b.atR a (.code c :: .inScope c :: k)) cs w) :=
 step_lone_go (by simp [stepG, stepG.exec, Frame.atR])
theorem Z6y {P : Program} {b : Frame} {a : Act} {k : List Item} {cs : List Frame} {w : World} {c : Code} : step P (lone (b.atR a (.inScope c :: k)) cs w) = .next (lone (b.atR a k) cs w) :=
 step_lone_go (by simp [stepG, stepG.exec, Frame.atR])
theorem Zad {F : Fence} {n : Nat} {P : Program} {c : Code} {Q : Exit → Act → World → Prop} {a : Act} {w : World} (h : c.wpIn F n P (Exit.noGoto Q) a w) : (Code.scope c).wpIn F n P Q a w := by
 intro b k cs hro hb hr
 have h0 : (lone (b.atR a (.code (.scope c) :: k)) cs w).fenced P F := fenced_calm hb hr rfl
 obtain ⟨e, a₁, w₁, hq, harr⟩ := h b (.inScope c :: k) cs hro hb hr
 cases e with
 | normal => exact ⟨.normal, a₁, w₁, hq, .head h0 Z1f (StepsIn.trans harr (.one (fenced_calm hb hr rfl) Z6y))⟩
 | exit id =>
  have hx : exitTo id (.inScope c :: k) = exitTo id k := by simp [exitTo]
  exact ⟨.exit id, a₁, w₁, hq, fun k' hk => .head h0 Z1f (harr.1 k' (by rw [hx]; exact hk)),
   fun hr' hk => let ⟨k₁, h1, h2⟩ := harr.2 hr' (by rw [hx]; exact hk); ⟨k₁, h1, .head h0 Z1f h2⟩⟩
 | goto l => exact hq.elim
 | ret => exact ⟨_, a₁, w₁, hq, .of_steps (.one h0 Z1f) harr⟩
 | panic ch => exact ⟨_, a₁, w₁, hq, .of_steps (.one h0 Z1f) harr⟩
 | outgrown => exact ⟨_, a₁, w₁, hq, .of_steps (.one h0 Z1f) harr⟩
def scopeQ (Q : Exit → St → Prop) : Exit → St → Prop
 | .goto _, _ => False
 | .normal, s => Q .normal s
 | .exit i, s => Q (.exit i) s
 | .ret, s => Q .ret s
 | .panic c, s => Q (.panic c) s
 | .outgrown, s => Q .outgrown s
end Go.Sx
namespace Go.Sx
open Go
variable {P : Program} {ro : Option Nat} {Q : Exit → St → Prop} {s : St} {ops : Array Oper} {o : Oper} {rest : List Oper} {T : List (Nat × AV)}
def Sub (x y : AV) : Prop := ∀ C v, VR C x v → VR C y v
theorem Sub.refl (x : AV) : Sub x x := fun _ _ h => h
theorem Sub.z : Sub (.v (.slice none 0 0)) (.lst []) := fun C v h => by cases h; exact .lstNil
inductive Subs : List AV → List AV → Prop
 | nil : Subs [] []
 | keep {x : AV} {xs ys : List AV} (h : Subs xs ys) : Subs (x :: xs) (x :: ys)
 | z {xs ys : List AV} (h : Subs xs ys) : Subs (.v (.slice none 0 0) :: xs) (.lst [] :: ys)
 | to {x y : AV} {xs ys : List AV} (h0 : Sub x y) (h : Subs xs ys) : Subs (x :: xs) (y :: ys)
theorem Subs.len : ∀ {xs ys : List AV}, Subs xs ys → xs.length = ys.length
 | _, _, .nil => rfl
 | _, _, .keep h => by simp [h.len]
 | _, _, .z h => by simp [h.len]
 | _, _, .to _ h => by simp [h.len]
theorem Subs.get {C : Ctx} : ∀ {xs ys : List AV}, Subs xs ys → ∀ (i : Nat) (y : AV), ys[i]? = some y → ∃ x, xs[i]? = some x ∧ Sub x y
 | _, _, .nil, i, y, h => by simp at h
 | _, _, .keep h, 0, y, hy => by simp at hy; subst hy; exact ⟨_, rfl, .refl _⟩
 | _, _, .z h, 0, y, hy => by simp at hy; subst hy; exact ⟨_, rfl, .z⟩
 | _, _, .to h0 h, 0, y, hy => by simp at hy; subst hy; exact ⟨_, rfl, h0⟩
 | _, _, .keep h, i + 1, y, hy => by simpa using h.get (C := C) i y (by simpa using hy)
 | _, _, .z h, i + 1, y, hy => by simpa using h.get (C := C) i y (by simpa using hy)
 | _, _, .to _ h, i + 1, y, hy => by simpa using h.get (C := C) i y (by simpa using hy)
theorem Sub.agg {xs ys : List AV} (h : Subs xs ys) : Sub (.agg xs) (.agg ys) := fun C v hv => by
 cases hv with
 | agg _ vs hl hh =>
  refine .agg ys vs (h.len.symm.trans hl) fun i y x h1 h2 => ?_
  obtain ⟨z, h3, h4⟩ := h.get (C := C) i y h1
  exact h4 C x (hh i z x h3 h2)
theorem Zy {x y : AV} {Hn On : AHeap} (h : Eff P o T Hn x On) (hs : x = y) : Eff P o T Hn y On := hs ▸ h
def bitOf (ms : List Nat) (i j : Nat) : Bool := Nat.testBit (ms.getD i 0) j
def okCert (ops : Array Oper) (ms : List Nat) : Bool := (List.range ops.size).all fun i => match ops[i]? with
 | some o => (List.range i).all fun j => !bitOf ms i j || o.after.any fun e => Region.binds .any e && (e.on == j || (Nat.blt j e.on && bitOf ms e.on j))
 | none => true
def okLooksM (ops : Array Oper) (ms : List Nat) (np : Nat) : Bool := (List.range np).all fun i => match ops[i]? with
 | some o => (o.looksAt ops).all fun t => (List.range np).all fun j => !((ops[j]?).bind (·.dst) == some t) || (Nat.blt j i && bitOf ms i j)
 | none => false
def okTailM (ops : Array Oper) (ms : List Nat) (np : Nat) : Bool := (List.range (ops.size - np)).all fun d => (List.range (np + d)).all fun i => bitOf ms (np + d) i
def tidyM (ops : Array Oper) (ms : List Nat) (np : Nat) : Bool := Nat.ble np ops.size && okEdges ops && okDst ops np && okCert ops ms && okLooksM ops ms np && okTailM ops ms np
theorem Z92 {ops : Array Oper} : ∀ {f g i j : Nat}, f ≤ g → anc ops f i j = true → anc ops g i j = true
 | 0, _, _, _, _, h => by cases h
 | f + 1, 0, _, _, hl, _ => by omega
 | f + 1, g + 1, i, j, hl, h => by
  unfold anc at h ⊢
  cases ho : ops[i]? with
  | none => rw [ho] at h; cases h
  | some o =>
   rw [ho] at h
   simp only [Array.any_eq_true, Bool.and_eq_true, Bool.or_eq_true] at h ⊢
   obtain ⟨k, hk, hb, h1⟩ := h
   exact ⟨k, hk, hb, h1.imp id fun h2 => Z92 (by omega) h2⟩
theorem Z4j {ops : Array Oper} {ms : List Nat} (he : okEdges ops = true) (hc : okCert ops ms = true) : ∀ i, i < ops.size → ∀ j, j < i → bitOf ms i j = true → anc ops i i j = true := by
 intro i
 induction i using Nat.strongRecOn with
 | _ i ih =>
  intro hi j hj hb
  have h1 := List.all_eq_true.1 hc i (List.mem_range.2 hi)
  have h2 := List.all_eq_true.1 he i (List.mem_range.2 hi)
  rw [Array.getElem?_eq_getElem hi] at h1 h2
  simp only at h1 h2
  have h1 := List.all_eq_true.1 h1 j (List.mem_range.2 hj)
  rw [hb] at h1
  simp only [Bool.not_true, Bool.false_or, Array.any_eq_true, Bool.and_eq_true, Bool.or_eq_true] at h1
  obtain ⟨k, hk, hbn, h3⟩ := h1
  obtain ⟨i', rfl⟩ : ∃ i', i = i' + 1 := ⟨i - 1, by omega⟩
  have h4 : Nat.blt (ops[i' + 1].after[k]).on (i' + 1) = true := by
   have := Array.all_eq_true.1 h2 k hk
   rw [hbn, Bool.not_true, Bool.false_or] at this
   exact this
  have h4 : (ops[i' + 1].after[k]).on < i' + 1 := Nat.blt_eq ▸ h4
  unfold anc
  rw [Array.getElem?_eq_getElem hi]
  simp only [Array.any_eq_true, Bool.and_eq_true, Bool.or_eq_true]
  refine ⟨k, hk, hbn, h3.imp id fun h5 => ?_⟩
  have h6 : j < (ops[i' + 1].after[k]).on := Nat.blt_eq ▸ h5.1
  exact Z92 (by omega) (ih _ h4 (by omega) j h6 h5.2)
theorem Zel {ops : Array Oper} {ms : List Nat} {np : Nat} (h : tidyM ops ms np = true) : tidy ops np = true := by
 simp only [tidyM, Bool.and_eq_true] at h
 obtain ⟨⟨⟨⟨⟨h1, h2⟩, h3⟩, h4⟩, h5⟩, h6⟩ := h
 have hle : np ≤ ops.size := Nat.le_of_ble_eq_true h1
 simp only [tidy, Bool.and_eq_true]
 refine ⟨⟨⟨⟨h1, h2⟩, h3⟩, ?_⟩, ?_⟩
 ·refine List.all_eq_true.2 fun i hi => ?_
  have h7 := List.all_eq_true.1 h5 i hi
  have hi' : i < ops.size := by have := List.mem_range.1 hi; omega
  rw [Array.getElem?_eq_getElem hi'] at h7 ⊢
  refine List.all_eq_true.2 fun t ht => List.all_eq_true.2 fun j hj => ?_
  have h8 := List.all_eq_true.1 (List.all_eq_true.1 h7 t ht) j hj
  simp only [Bool.or_eq_true, Bool.and_eq_true] at h8 ⊢
  exact h8.imp id fun h9 => ⟨h9.1, Z4j h2 h4 i hi' j (Nat.blt_eq ▸ h9.1) h9.2⟩
 ·refine List.all_eq_true.2 fun d hd => List.all_eq_true.2 fun i hi => ?_
  have h7 := List.all_eq_true.1 (List.all_eq_true.1 h6 d hd) i hi
  have hd' := List.mem_range.1 hd
  exact Z4j h2 h4 (np + d) (by omega) i (List.mem_range.1 hi) h7
theorem Z0e {id : Nat} {l : List Oper} (ms : List Nat) (np : Nat) (hm : P.follows .mixedOrders = true) (ht : tidyM l.toArray ms (l.take np).length = true)
  (h : Calm P l.toArray s.H (AOps P ro l.toArray (l.drop np) Q) 0 (l.take np) [] s) : AWp P ro (.region id l.toArray true) Q s :=
 Z16 np hm (Zel ht) h
def GSome {α : Type} (f : α → AV) (φ : α → Prop) : AEnd → AHeap → Prop := fun e H => ∃ a, φ a ∧ e = .ret (f a) ∧ H = []
theorem Z2p {fo : Operand} {args : Array Operand} {ats : Array TypeId} {g : Nat} {caps xs : List AV} {α : Type} {f : α → AV} {φ : α → Prop} (hw : Wanted ops s.T o true) (hd : dok o.dst s.n = true)
  (ho : o.op = .call { callee := .value fo, args := args, argTypes := ats }) (hfo : ev s.T fo = some (.fn (.func g) caps)) (hxs : evs s.T args.toList = some xs) (hc : ACalls P g (xs ++ caps) [] (GSome f φ))
  (h : ∀ a, φ a → AOps P ro ops rest Q { s with T := put s.T o.dst (f a) }) : AOps P ro ops (o :: rest) Q s :=
 Z9n hw hd ho hfo hxs hc (fun ch H' hR => by obtain ⟨_, _, h, _⟩ := hR; cases h) (fun x H' hR => by obtain ⟨a, h1, h2, rfl⟩ := hR; cases h2; exact h a h1)
abbrev SomeB : AEnd → AHeap → Prop := GSome bA (fun _ => True)
abbrev SomeI : AEnd → AHeap → Prop := GSome iA (fun _ => True)
abbrev SomeS : AEnd → AHeap → Prop := GSome sA (fun _ => True)
theorem Z5u {α : Type} {f : α → AV} {φ : α → Prop} {xs : List AV} (a : α) (h : φ a) (hx : mkRes xs = f a) : GSome f φ (.ret (mkRes xs)) [] := ⟨a, h, congrArg _ hx, rfl⟩
def byteAt (u : ByteArray) (k : Int) : Int := match u[k.toNat]? with | some c => c.toNat | none => 0
theorem Z0y {t : Nat} {p q : Operand} {u : ByteArray} {kd : IntKind} {k : Int} [h : UD P t .string] (ho : o.op = .index t p q)
  (hp : ev T p = some (.v (.string u))) (hq : ev T q = some (.v (.int kd k))) (h0 : 0 ≤ k) (h1 : k < u.size) : Eff P o T [] (.v (.int .u8 (byteAt u k))) [] := by
 have hl : k.toNat < u.size := by omega
 have e : u[k.toNat]? = some u[k.toNat] := getElem?_pos u k.toNat hl
 have := Z6k (P := P) (T := T) ho hp hq h0 e
 unfold byteAt; rw [e]; exact this
theorem Z4n {t : Nat} {x : AV} (ht : lk s.T t = some x) : Weak s { s with T := (t, x) :: s.T } := fun Z C a w hs =>
 ⟨C, ⟨hs.wr, fun t' y hy => by
  simp only [lk] at hy
  cases hb : Nat.beq t t' with
  | true => simp only [hb, cond_true] at hy; have e := Nat.eq_of_beq_eq_true hb; subst e; exact hs.sl t y (ht.trans hy)
  | false => simp only [hb, cond_false] at hy; exact hs.sl t' y hy, hs.df, hs.du, hs.sz⟩, .refl ..⟩
theorem Z0n {c : Code} {b : Bool} (t : Nat) (ht : lk s.T t = some (.v (.bool b))) (h : ∀ d, d = b → AWp P ro c Q { s with T := (t, .v (.bool d)) :: s.T }) : AWp P ro c Q s := Z2q (Z4n ht) (h b rfl)
theorem Zcc {c : Code} {k : IntKind} {b : Int} (t : Nat) (ht : lk s.T t = some (.v (.int k b))) (h : ∀ d, d = b → AWp P ro c Q { s with T := (t, .v (.int k d)) :: s.T }) : AWp P ro c Q s := Z2q (Z4n ht) (h b rfl)
theorem Zz {l : List ByteArray} {i : Nat} (h : i < l.length) : (l.map fun x => [AV.v (.string x)])[i]? = some [.v (.string (l.getD i default))] := by simp [h, List.getD]
theorem Ze2 {t t' : TypeId} {p q : Operand} {k : IntKind} {x y : Int} (ho : o.op = .binOp .rem t p q t') (hp : ev T p = some (.v (.int k x))) (hq : ev T q = some (.v (.int k y))) (hy : y ≠ 0) : Eff P o T [] (.v (.int k (x.tmod y))) [] :=
 Z02 (by intro c; rw [ho]; nofun) fun C H a w hw hn hv => by
  have h2 := VR.val (hv p (by rw [ho]; simp [Op.operands]) _ hp)
  have h3 := VR.val (hv q (by rw [ho]; simp [Op.operands]) _ hq)
  refine ⟨_, ?_, .v _⟩
  simp [execOp, ho, h2, h3, eqGuard, binOp, Op.intDiv, hy, Sem.run_bind, Result.andThen]
def GP {β : Type} (f : β → AV) (Hb : β → AHeap) (φ : β → Prop) : AEnd → AHeap → Prop := fun e H => ∃ b, φ b ∧ e = .ret (f b) ∧ H = Hb b
theorem Z1b {H : AHeap} {k j : Nat} {p q : Nat × AObj} (h : H[k]? = some p) (h2 : (H.eraseIdx k)[j]? = some q) : H.Perm ([p, q] ++ (H.eraseIdx k).eraseIdx j) := (Zs h).trans ((Zs h2).cons p)
theorem Ze {fo : Operand} {args : Array Operand} {ats : Array TypeId} {g : Nat} {caps xs : List AV} {β : Type} {f : β → AV} {Hb : β → AHeap} {φ : β → Prop} (Hf Fr : AHeap) (hw : Wanted ops s.T o true) (hd : dok o.dst s.n = true)
  (ho : o.op = .call { callee := .value fo, args := args, argTypes := ats }) (hfo : ev s.T fo = some (.fn (.func g) caps)) (hxs : evs s.T args.toList = some xs) (hp : s.H.Perm (Hf ++ Fr)) (hc : ACalls P g (xs ++ caps) Hf (GP f Hb φ))
  (h : ∀ b, φ b → AOps P ro ops rest Q { s with T := put s.T o.dst (f b), H := Hb b ++ Fr }) : AOps P ro ops (o :: rest) Q s :=
 Z9m Hf Fr hw hd ho hfo hxs hp hc (fun ch H' hR => by obtain ⟨_, _, h, _⟩ := hR; cases h) (fun x H' hR => by obtain ⟨b, h1, h2, rfl⟩ := hR; cases h2; exact h b h1)
theorem gp {β : Type} {f : β → AV} {Hb : β → AHeap} {φ : β → Prop} {xs : List AV} {H : AHeap} (b : β) (h : φ b) (hx : mkRes xs = f b) (hH : H = Hb b) : GP f Hb φ (.ret (mkRes xs)) H := ⟨b, h, congrArg _ hx, hH⟩
theorem Z1x {x y : Int} (h : -9223372036854775808 ≤ x * y ∧ x * y ≤ 9223372036854775807) : arith .mul .i64 x y = some (x * y) := by simp [arith, Z0v h]
theorem Z18 {t t' : TypeId} {p q : Operand} {x y : Int} (ho : o.op = .binOp .quo t p q t') (hp : ev T p = some (.v (.int .i64 x))) (hq : ev T q = some (.v (.int .i64 y))) (hy : y ≠ 0) (hr : -9223372036854775808 ≤ x.tdiv y ∧ x.tdiv y ≤ 9223372036854775807) : Eff P o T [] (.v (.int .i64 (x.tdiv y))) [] :=
 Z02 (by intro c; rw [ho]; nofun) fun C H a w hw hn hv => by
  have h2 := VR.val (hv p (by rw [ho]; simp [Op.operands]) _ hp)
  have h3 := VR.val (hv q (by rw [ho]; simp [Op.operands]) _ hq)
  refine ⟨_, ?_, .v _⟩
  simp [execOp, ho, h2, h3, eqGuard, binOp, Op.intDiv, hy, Z0v hr, Sem.run_bind, Result.andThen]
theorem Zp {H0 : AHeap} {K : St → Prop} {kk : Nat} {M : List (Nat × (Nat × AObj))} {e : Bool} {t : TypeId} {p : Operand} {id el i : Nat} {l : List ByteArray} (k : Nat) (hw : Wanted ops s.T o e) (hd : dok o.dst s.n = true) (ho : o.op = .load t p) (hp : e = true → ev s.T p = some (.ptr id 1 i 0))
  (hH : H0[k]? = some (id, .rows el 1 (l.map fun x => [AV.v (.string x)]))) (hi : e = true → i < l.length) (hl : ∀ x, Ld P t [x] x) (h : Calm P ops H0 K (kk + 1) rest M { s with T := put s.T o.dst (cond e (.v (.string (l.getD i default))) (.v undef)) }) : Calm P ops H0 K kk (o :: rest) M s := by
 cases e
 ·exact .off hw hd h
 ·exact Zu k hw hd ho (hp rfl) hH (Zz (hi rfl)) (hl _) h
theorem Z6d {c : Code} {k : IntKind} {b d : Int} (t : Nat) (ht : lk s.T t = some (.v (.int k b))) (e : b = d) (h : AWp P ro c Q { s with T := (t, .v (.int k d)) :: s.T }) : AWp P ro c Q s := by subst e; exact Z2q (Z4n ht) h
theorem Zf4 {a b : Nat} (h : a ≤ b) : (((b - a : Nat) : Int) - 1).tdiv 2 = (((b - a - 1) / 2 : Nat) : Int) := by
 cases e : b - a with
 | zero => decide
 | succ k =>
  rw [show ((k + 1 : Nat) : Int) - 1 = (k : Int) from by omega, show k + 1 - 1 = k from by omega]
  exact (Int.ofNat_tdiv k 2).symm
theorem Z3x (a b : Nat) : ((a : Int)).tdiv b = ((a / b : Nat) : Int) := (Int.ofNat_tdiv a b).symm
theorem Z10 (a b : Nat) (h : a ≤ 9223372036854775807) : -9223372036854775808 ≤ ((a : Int)).tdiv b ∧ ((a : Int)).tdiv b ≤ 9223372036854775807 := by
 rw [Z3x]
 have := Nat.div_le_self a b
 generalize a / b = c at *
 omega
def bitsI (op : BinOp) (k : IntKind) (x y : Int) : Int := match op with
 | .and => k.wrap (BitVec.ofInt k.bits x &&& BitVec.ofInt k.bits y).toNat
 | .or => k.wrap (BitVec.ofInt k.bits x ||| BitVec.ofInt k.bits y).toNat
 | .xor => k.wrap (BitVec.ofInt k.bits x ^^^ BitVec.ofInt k.bits y).toNat
 | _ => k.wrap (BitVec.ofInt k.bits x &&& ~~~BitVec.ofInt k.bits y).toNat
theorem Z26 {b : BinOp} {t t' : TypeId} {p q : Operand} {k : IntKind} {x y : Int} (ho : o.op = .binOp b t p q t') (hb : b = .and ∨ b = .or ∨ b = .xor) (hp : ev T p = some (.v (.int k x))) (hq : ev T q = some (.v (.int k y))) : Eff P o T [] (.v (.int k (bitsI b k x y))) [] :=
 Z02 (by intro c; rw [ho]; nofun) fun C H a w hw hn hv => by
  have h2 := VR.val (hv p (by rw [ho]; simp [Op.operands]) _ hp)
  have h3 := VR.val (hv q (by rw [ho]; simp [Op.operands]) _ hq)
  refine ⟨_, ?_, .v _⟩
  rcases hb with rfl | rfl | rfl <;> simp [execOp, ho, h2, h3, eqGuard, binOp, Op.intBits, bitsI, Sem.run_bind, Result.andThen]
theorem Z6m {t t' : TypeId} {p q : Operand} {k k' : IntKind} {x y : Int} (ho : o.op = .binOp .shl t p q t') (hp : ev T p = some (.v (.int k x))) (hq : ev T q = some (.v (.int k' y))) (hy : 0 ≤ y) : Eff P o T [] (.v (.int k (k.wrap (x * 2 ^ (min y.toNat k.bits))))) [] :=
 Z02 (by intro c; rw [ho]; nofun) fun C H a w hw hn hv => by
  have h2 := VR.val (hv p (by rw [ho]; simp [Op.operands]) _ hp)
  have h3 := VR.val (hv q (by rw [ho]; simp [Op.operands]) _ hq)
  refine ⟨_, ?_, .v _⟩
  have : ¬ y < 0 := by omega
  simp [execOp, ho, h2, h3, eqGuard, binOp, Op.shift, this, Sem.run_bind, Result.andThen]
theorem Z27 {t t' : TypeId} {p q : Operand} {k k' : IntKind} {x y : Int} (ho : o.op = .binOp .shr t p q t') (hp : ev T p = some (.v (.int k x))) (hq : ev T q = some (.v (.int k' y))) (hy : 0 ≤ y) : Eff P o T [] (.v (.int k (x.fdiv (2 ^ (min y.toNat k.bits))))) [] :=
 Z02 (by intro c; rw [ho]; nofun) fun C H a w hw hn hv => by
  have h2 := VR.val (hv p (by rw [ho]; simp [Op.operands]) _ hp)
  have h3 := VR.val (hv q (by rw [ho]; simp [Op.operands]) _ hq)
  refine ⟨_, ?_, .v _⟩
  have : ¬ y < 0 := by omega
  simp [execOp, ho, h2, h3, eqGuard, binOp, Op.shift, this, Sem.run_bind, Result.andThen]
theorem Z54 {t e n : Nat} {b : Bool} {p q : Operand} {es : List (List AV)} {kd : IntKind} {k : Int} [h : UD P t (.slice e)] [k1 : TK P e b n] (ho : o.op = .slice t p none (some q) none)
  (hp : ev T p = some (.lst es)) (hq : ev T q = some (.v (.int kd k))) (h0 : 0 ≤ k) (h1 : k ≤ es.length) : Eff P o T [] (.lst (es.take k.toNat)) [] :=
 Z02 (by intro c; rw [ho]; nofun) fun C H a w hw hn hv => by
  have h2 := hv p (by rw [ho]; simp [Op.operands]) _ hp
  have h3 := VR.val (hv q (by rw [ho]; simp [Op.operands]) _ hq)
  generalize hpv : a.eval p = u at h2
  cases h2 with
  | lstNil =>
   have hk : k = 0 := by simp at h1; omega
   subst hk
   refine ⟨.slice none 0 0, ?_, by simpa using VR.lstNil⟩
   have hb : ∀ code, (Instr.sliceBound (.int kd 0) 0 code).run P w = .ok 0 w := fun code => Z3u rfl (by omega) (by omega) w
   simp [execOp, ho, hpv, h3, Instr.sliceAt, Instr.slice, Instr.sliceBounds, run_underlying (d := .slice e), Z0i k1.tk, hb, Sem.run_bind, Result.andThen, Sem.run_pure]
  | lst _ ad sz cap cells elem fz xs hs hb hz hc hvv ho' hcap =>
   have hkc : k ≤ (cap : Int) := by omega
   refine ⟨.slice (some ad) k.toNat cap, ?_, ?_⟩
   ·have e0 : ad.add 0 = ad := by simp [Addr.add]
    simp [execOp, ho, hpv, h3, Instr.sliceAt, Instr.slice, Instr.sliceBounds, run_underlying (d := .slice e), Z0i k1.tk, Z3u rfl h0 hkc, Sem.run_bind, Result.andThen, Sem.run_pure, e0]
   ·have hl : (es.take k.toNat).length = k.toNat := by rw [List.length_take]; omega
    have hne : es.take k.toNat ≠ [] → es ≠ [] := fun h e => h (by rw [e]; simp)
    have hget : ∀ (i : Nat) (e : List AV), (es.take k.toNat)[i]? = some e → es[i]? = some e := fun i e h => by
     rw [List.getElem?_take] at h; split at h <;> simp_all
    have hfin := VR.lst (C := C) (es.take k.toNat) ad sz cap cells elem fz xs (fun h => hs (hne h)) (fun h => hb (hne h)) (fun e he => hz e (List.mem_of_mem_take he)) (fun i e j c h1 h2 => hc i e j c (hget i e h1) h2)
     (fun i e j c h1 h2 => hvv i e j c (hget i e h1) h2) (fun i e j c h1 h2 => ho' i e j c (hget i e h1) h2) (by omega)
    rw [hl] at hfin
    exact hfin
end Go.Sx
namespace Go.Sx
open Go Go.Proofs
theorem Zal (out : List Str) (ho : out.Nodup) (ents : Array MapEntry) (clock : Nat) (hE : SetE out ents clock) (i1 q : Nat) : SeqK Tryz.prog 186 [.ptr i1 1 0 0] [(i1, .rows 131 1 [[.map q]]), (q, .raw (.map ents clock))] [(q, .raw (.map ents clock))] (fun s : Str => [sA s]) (AdmS out) (FinS out) := by
 refine ⟨⟨_, Tryz.func186, rfl, by decide +kernel⟩, ?_⟩
 intro id J Jx hY Hj hJ0
 refine Zw (n := 14) Tryz.func186 rfl (by decide +kernel) rfl rfl ?_
 intro Z C0 H0 wz C a w he hs
 obtain ⟨hu, mb, N, hm, hh⟩ := hs.wr.ids q (.raw (.map ents clock)) (List.mem_append_left _ (List.mem_cons_of_mem _ List.mem_cons_self))
 refine wpIn_mono ((?_ : AWpO Z C ([(i1, .rows 131 1 [[.map q]]), (q, .raw (.map ents clock))] ++ Hj) w Tryz.prog none _ (RetQ Tryz.prog Tryz.f186 (SeqKR [(q, .raw (.map ents clock))] (FinS out) J Jx)) _) C a w (.refl ..) hs) ?_
 rotate_left
 ·rintro e a' w' ⟨h1, C', s', hq, hs', he'⟩
  exact ⟨h1, C', s', hq, hs', he.trans he'⟩
 refine Z1g ?_
 refine Z1d ?_
 refine Z75 [(i1, .rows 131 1 [[.map q]])] (.map q) (w0 rfl) rfl (Z1k rfl rfl ⟨_, _, _, List.mem_cons_self, rfl, rfl⟩ Zm) (fun p hp => by rw [List.mem_singleton.1 hp]; exact List.mem_cons_self) ?_
 refine Z4q 1 (w0 rfl) rfl rfl rfl rfl hm hu (fun it => ?_)
 refine Z1n ?_
 refine Z2r ?_
 refine Z5y (α := List MapEntry × AHeap) (fun x => ⟨[(5, .ptr it 1 0 0), (0, .yld id)], [(it, .raw (.mapIter (some mb) clock (bornsA x.1) clock)), (q, .raw (.map ents clock))] ++ x.2, [], 14⟩)
  (fun x => Got out ents x.1 ∧ J (x.1.map keyS) x.2) (fun x => (leftOf ents (bornsA x.1)).size) ([], Hj) ⟨.start out ents, hJ0⟩ ?_ ?_
 ·exact Z3z (F := [_, _, _]) (F' := [_, _]) (Hj := Hj) [0, 2] ⟨rfl, rfl, trivial⟩ rfl rfl rfl (by decide) rfl rfl
 rintro x ⟨hG, hJx⟩
 refine Z1g ?_
 refine Z1d ?_
 refine Z5w 0 1 (w0 rfl) rfl rfl rfl rfl rfl hm hu hE.born (Nat.le_refl _) (fun hz => ?_) (fun e hem => ?_)
 ·refine Z33 (w0 rfl) rfl (Zo rfl rfl rfl) ?_
  refine Z1n ?_
  refine Z1g ?_
  refine Z3f rfl nofun (fun _ => ?_)
  refine Z42 (Z04 ?_)
  exact Zr rfl Zq (.cons _ (.refl _)) ⟨⟨_, rfl⟩, .inl ⟨_, _, hG.fin hE ho hz, .refl _, hJx⟩⟩
 ·have hk := hE.keyS (mem_left hem).1
  have hG2 := hG.step hem
  have hA : AdmS out (x.1.map keyS ++ [keyS e]) := by have := hG2.keys hE ho; rw [List.map_append] at this; exact this
  refine Z33 (w0 rfl) rfl (Zo rfl rfl rfl) ?_
  refine Z1n ?_
  refine Z1g ?_
  refine Z3f rfl (fun _ => ?_) nofun
  refine Z42 (Zk ?_)
  refine Z2r ?_
  refine Z1g ?_
  refine Z1d ?_
  refine Z4p 0 1 (w0 rfl) rfl rfl rfl rfl rfl hm hu (mem_left hem).1 hE.nd ?_
  refine Z33 (w0 rfl) rfl (Zy (y := sA (keyS e)) (Zo rfl rfl rfl) (congrArg AV.v hk.1)) ?_
  refine Z33 (w0 rfl) rfl (Z4 rfl rfl) ?_
  refine Z1n ?_
  refine Z42 ?_
  refine Z7 ?_
  refine Z3 ?_
  refine Z2 (w0 rfl) rfl (Z0 rfl rfl) ?_
  refine Z2 (w0 rfl) rfl (Z0 rfl rfl) ?_
  refine Z4o (J := J) (Jx := Jx) (l := x.1.map keyS ++ [keyS e]) [_, _] x.2 (w0 rfl) rfl rfl rfl rfl rfl (hY _ _ _ hA hJx) (fun bY Hn hyT hyF => ?_)
  refine Z2 (w0 rfl) rfl (Z0h rfl rfl) ?_
  refine Z6 ?_
  refine Zh rfl ?_ ?_
  ·intro hc
   refine Z05 ?_
   exact Zr rfl Zq (.cons _ (.refl _)) ⟨⟨_, rfl⟩, .inr ⟨_, _, .refl _, hyF (Z83 hc)⟩⟩
  ·intro hc
   refine Zk ?_
   refine ⟨(x.1 ++ [e], Hn), ⟨hG2, by show J ((x.1 ++ [e]).map keyS) Hn; rw [List.map_append]; exact hyT (Zbm hc)⟩, Got.dec (out := out) hem, ?_⟩
   exact Z3z (F := [_, _]) (F' := [_, _]) (Hj := Hn) [0, 1] ⟨rfl, rfl, trivial⟩ rfl rfl (by rw [Z34]) (by decide) rfl rfl
end Go.Sx
namespace Go.Sx
open Go
def EffW (P : Program) (o : Oper) (T : List (Nat × AV)) (H H' : AHeap) : Prop :=
 ∀ Z C a w, WR C H w → (∀ p, p ∈ o.op.operands → ∀ y, ev T p = some y → VR C y (a.eval p)) →
  ∀ ro next R, (∀ v w1 C1, VR C1 (.v undef) v → WR C1 H' w1 → Ext Z C H w C1 H' w1 → next (a.put o.dst v) w1) → o.uponIn (Wd ro) 0 P a next R ((o.semAt ro a.eval).run P w)
section
variable {P : Program} {ro : Option Nat} {Q : Exit → St → Prop} {s : St} {ops : Array Oper} {o : Oper} {rest : List Oper} {T : List (Nat × AV)}
theorem Z61 {t n id sz i c el : Nat} {b : Bool} {p q : Operand} {es : List (List AV)} {e : List AV} {x : AV} {H : AHeap} (k : Nat) [kt : TK P t b n]
  (ho : o.op = .store t p q) (hp : ev T p = some (.ptr id sz i c)) (hH : H[k]? = some (id, .rows el sz es)) (he : es[i]? = some e) (hq : ev T q = some x)
  (hx : (cellsA x).length = n) (h1 : (cellsA x).all one = true) (hc : Nat.ble (c + n) sz = true) :
  EffW P o T H (H.set k (id, .rows el sz (es.set i (e.take c ++ cellsA x ++ e.drop (c + (cellsA x).length))))) := by
 intro Z C a w hswr hv ro next R hk
 have hc := Nat.le_of_ble_eq_true hc
 have hmem := List.mem_of_getElem? hH
 obtain ⟨hu, hlen, hor⟩ := hswr.ids _ _ hmem
 have hpv := hv p (by rw [ho]; simp [Op.operands]) _ hp
 have hqv := hv q (by rw [ho]; simp [Op.operands]) _ hq
 obtain ⟨hcl, hcr⟩ := Z1o hqv
 have hone := Zef hcl hcr h1
 have hel : e.length = sz := hlen e (List.mem_of_getElem? he)
 have hie : i < es.length := (List.getElem?_eq_some_iff.1 he).1
 rcases hor with ⟨hm, _⟩ | ⟨b', N, cells, hm, hh, hsz, hfit, hrow⟩
 ·generalize a.eval p = u at hpv
  cases hpv with
  | ptr _ _ _ _ b2 N2 hid _ => rw [hm] at hid; cases hid
 ·have hpe : a.eval p = .pointer (some ⟨b', i * sz + c, none⟩) := by
   generalize a.eval p = u at hpv
   cases hpv with
   | ptr _ _ _ _ b2 N2 hid _ => rw [hm] at hid; cases hid; rfl
  have hrowfit : i * sz + sz ≤ es.length * sz := by
   have : (i + 1) * sz ≤ es.length * sz := Nat.mul_le_mul_right _ hie
   rw [Nat.add_mul] at this; omega
  have hvs : (a.eval q).cells.toList.length = n := by rw [Array.length_toList, ← hcl, hx]
  have hst := run_storeCells_at P b' (i * sz + c) el (a.eval q).cells.toList 0 cells w hh (by rw [hvs]; omega) (by
   intro v hv'
   obtain ⟨j, hj⟩ := List.mem_iff_getElem?.1 hv'
   exact hone j v (by rw [← Array.getElem?_toList]; exact hj))
  simp only [Nat.add_zero] at hst
  have hrun : (o.semAt ro a.eval).run P w = .ok .skip (w.setRow b' (cells.toList.take (i * sz + c) ++ (a.eval q).cells.toList ++ cells.toList.drop (i * sz + c + (a.eval q).cells.toList.length)).toArray) := by
   rw [Oper.semAt_eq _ _ _ (by intro c; rw [ho]; nofun)]
   have hsz1 : (a.eval q).cells.size = n := by rw [← hcl, hx]
   simp [execOp, ho, Instr.storeAt, hpe, Instr.sureAddr, storeVar, Z0i kt.tk, hsz1, Sem.run_bind, Result.andThen]
   rw [hst]
   simp [hsz1]
  rw [hrun]
  obtain ⟨hw1, he1⟩ := Z0t (Z := Z) (C' := C) (id' := id) (o' := .rows el sz (es.set i (e.take c ++ cellsA x ++ e.drop (c + (cellsA x).length))))
   (w' := w.setRow b' (cells.toList.take (i * sz + c) ++ (a.eval q).cells.toList ++ cells.toList.drop (i * sz + c + (a.eval q).cells.toList.length)).toArray) hswr hH (.refl C) rfl (.inl rfl) hu (fun _ _ h => h) rfl rfl rfl (by simp)
   (fun b N' hm' => .inl ⟨N', hm'⟩) (fun b hb hne => setRow_other w b' b _ (by rintro rfl; exact hne N hm)) (by
    refine ⟨?_, .inr ⟨b', N, _, hm, setRow_heap w b' cells _ el (0, 0) hh, ?_, by simpa using hfit, ?_⟩⟩
    ·intro e' he'
     rcases List.mem_or_eq_of_mem_set he' with h2 | h2
     ·exact hlen e' h2
     ·subst h2
      simp only [List.length_append, List.length_take, List.length_drop]
      omega
    ·simp only [List.size_toArray, List.length_append, List.length_take, List.length_drop, Array.length_toList]
     have := hvs
     rw [Array.length_toList] at this
     omega
    ·intro i' e' j cc he' hcc
     rw [List.getElem?_toArray, Z0z _ _ _ _ (by rw [hvs, Array.length_toList]; omega), hvs]
     rw [List.getElem?_set] at he'
     by_cases hi : i = i'
     ·subst hi
      rw [if_pos rfl, if_pos hie] at he'
      simp only [Option.some.injEq] at he'
      subst he'
      rw [Z0z _ _ _ _ (by omega), hx] at hcc
      have hjlt : j < sz := by
       rcases Nat.lt_or_ge j sz with h2 | h2
       ·exact h2
       ·rw [if_neg (by omega), if_neg (by omega), List.getElem?_eq_none (by omega)] at hcc; cases hcc
      by_cases hj1 : j < c
      ·rw [if_pos hj1] at hcc
       rw [if_pos (by omega)]
       rw [Array.getElem?_toList]
       exact hrow i e j cc he hcc
      ·rw [if_neg hj1] at hcc
       rw [if_neg (by omega)]
       by_cases hj2 : j < c + n
       ·rw [if_pos hj2] at hcc
        rw [if_pos (by omega), show i * sz + j - (i * sz + c) = j - c from by omega]
        have hlt : j - c < (a.eval q).cells.size := by rw [← hcl]; exact (List.getElem?_eq_some_iff.1 hcc).1
        have hg : (a.eval q).cells[j - c]? = some (a.eval q).cells[j - c] := Array.getElem?_eq_getElem hlt
        exact ⟨_, by rw [Array.getElem?_toList]; exact hg, hcr _ _ _ hcc hg, hone _ _ hg⟩
       ·rw [if_neg hj2] at hcc
        rw [if_neg (by omega), Array.getElem?_toList]
        exact hrow i e j cc he hcc
     ·rw [if_neg hi] at he'
      have hel' : e'.length = sz := hlen e' (List.mem_of_getElem? he')
      have hj : j < sz := by rw [← hel']; exact (List.getElem?_eq_some_iff.1 hcc).1
      have hout : ¬ (i * sz + c ≤ i' * sz + j ∧ i' * sz + j < i * sz + c + n) := by
       rintro ⟨h2, h3⟩
       rcases Nat.lt_or_ge i i' with h4 | h4
       ·have := Z14 (k := c + n - 1) (sz := sz) h4 (by omega)
        omega
       ·have h5 : i' < i := by omega
        have := Z14 (k := j) (sz := sz) h5 hj
        omega
      have hg := hrow i' e' j cc he' hcc
      rw [← Array.getElem?_toList] at hg
      split
      ·exact hg
      ·split
       ·exact (hout ⟨by omega, by omega⟩).elim
       ·exact hg)
  exact hk undef _ C (.v undef) hw1 he1
theorem Z8n {t n id el i : Nat} {b : Bool} {p q : Operand} {l : List ByteArray} {x : ByteArray} {H : AHeap} (k : Nat) [kt : TK P t b n] (hn1 : n = 1)
  (ho : o.op = .store t p q) (hp : ev T p = some (.ptr id 1 i 0)) (hH : H[k]? = some (id, .rows el 1 (l.map fun x => [AV.v (.string x)]))) (hi : i < l.length) (hq : ev T q = some (.v (.string x))) :
  EffW P o T H (H.set k (id, .rows el 1 ((l.set i x).map fun x => [AV.v (.string x)]))) := by
 subst hn1
 have e : (l.map fun x => [AV.v (.string x)]).set i ([AV.v (.string (l.getD i default))].take 0 ++ cellsA (.v (.string x)) ++ [AV.v (.string (l.getD i default))].drop (0 + (cellsA (.v (.string x))).length)) = (l.set i x).map fun x => [AV.v (.string x)] := by
  rw [List.map_set]; rfl
 rw [← e]
 exact Z61 k ho hp hH (Zz hi) hq rfl rfl rfl
end
inductive WCalm (P : Program) (ops : Array Oper) (H0 : AHeap) (ws rs : List Nat) (K : St → Prop) : Nat → List Oper → St → Prop
 | done {k : Nat} {s : St} (h : K s) : WCalm P ops H0 ws rs K k [] s
 | eff {k : Nat} {o : Oper} {r : List Oper} {s : St} (Hn : AHeap) (x : AV) (hw : Wanted ops s.T o true) (hd : dok o.dst s.n = true) (he : Eff P o s.T Hn x []) (hn : ∀ p, p ∈ Hn → p ∈ H0) (hr : Hn = [] ∨ rs.contains k = true) (hk : ws.contains k = false)
   (h : WCalm P ops H0 ws rs K (k + 1) r { s with T := put s.T o.dst x }) : WCalm P ops H0 ws rs K k (o :: r) s
 | off {k : Nat} {o : Oper} {r : List Oper} {s : St} (hw : Wanted ops s.T o false) (hd : dok o.dst s.n = true) (hk : ws.contains k = false) (h : WCalm P ops H0 ws rs K (k + 1) r { s with T := put s.T o.dst (.v undef) }) : WCalm P ops H0 ws rs K k (o :: r) s
 | write {k : Nat} {o : Oper} {r : List Oper} {s : St} (H' : AHeap) (hw : Wanted ops s.T o true) (hd : dok o.dst s.n = true) (he : EffW P o s.T s.H H') (hk : ws.contains k = true)
   (h : WCalm P ops H0 ws rs K (k + 1) r { s with T := put s.T o.dst (.v undef), H := H' }) : WCalm P ops H0 ws rs K k (o :: r) s
def GoodW (P : Program) (ops : Array Oper) (n : Nat) (ws rs : List Nat) (xs : Nat → AV) (B : Nat → AHeap) (T0 : List (Nat × AV)) (i : Nat) : Prop :=
 ∃ o, ops[i]? = some o ∧ dok o.dst n = true ∧
  ((ws.contains i = false ∧ B (i + 1) = B i ∧ ((Wanted ops (TT ops xs T0 i) o false ∧ xs i = .v undef) ∨
   (Wanted ops (TT ops xs T0 i) o true ∧ ∃ Hn, Eff P o (TT ops xs T0 i) Hn (xs i) [] ∧ (∀ p, p ∈ Hn → p ∈ B 0) ∧ (Hn = [] ∨ rs.contains i = true)))) ∨
  (ws.contains i = true ∧ Wanted ops (TT ops xs T0 i) o true ∧ xs i = .v undef ∧ EffW P o (TT ops xs T0 i) (B i) (B (i + 1))))
theorem GoodW.congr {P : Program} {ops : Array Oper} {n : Nat} {ws rs : List Nat} {xs ys : Nat → AV} {B D : Nat → AHeap} {T0 : List (Nat × AV)} {i : Nat} (h1 : ∀ j, j ≤ i → xs j = ys j) (h2 : ∀ j, j ≤ i + 1 → B j = D j) (h : GoodW P ops n ws rs xs B T0 i) : GoodW P ops n ws rs ys D T0 i := by
 obtain ⟨o, ho, hd, h⟩ := h
 refine ⟨o, ho, hd, ?_⟩
 rw [← Z0m (ops := ops) (T0 := T0) i (fun j hj => h1 j (by omega)), ← h1 i (Nat.le_refl _), ← h2 i (by omega), ← h2 (i + 1) (Nat.le_refl _), ← h2 0 (by omega)]
 exact h
theorem WCalm.tell {P : Program} {ops : Array Oper} {H0 : AHeap} {ws rs : List Nat} {K : St → Prop} {T0 : List (Nat × AV)} {D : List Nat} {n : Nat} {k : Nat} {l : List Oper} {s : St} (h : WCalm P ops H0 ws rs K k l s) :
  ∀ (xs : Nat → AV) (B : Nat → AHeap), ops.toList.drop k = l → B 0 = H0 → s = ⟨TT ops xs T0 k, B k, D, n⟩ → (∀ i, i < k → GoodW P ops n ws rs xs B T0 i) →
   ∃ (ys : Nat → AV) (E : Nat → AHeap), E 0 = H0 ∧ K ⟨TT ops ys T0 (k + l.length), E (k + l.length), D, n⟩ ∧ ∀ i, i < k + l.length → GoodW P ops n ws rs ys E T0 i := by
 have step : ∀ (k : Nat) (o : Oper) (xs : Nat → AV) (B : Nat → AHeap) (x : AV) (H' : AHeap), ops[k]? = some o → (∀ i, i < k → GoodW P ops n ws rs xs B T0 i) → dok o.dst n = true →
   ((ws.contains k = false ∧ H' = B k ∧ ((Wanted ops (TT ops xs T0 k) o false ∧ x = .v undef) ∨
    (Wanted ops (TT ops xs T0 k) o true ∧ ∃ Hn, Eff P o (TT ops xs T0 k) Hn x [] ∧ (∀ p, p ∈ Hn → p ∈ B 0) ∧ (Hn = [] ∨ rs.contains k = true)))) ∨
   (ws.contains k = true ∧ Wanted ops (TT ops xs T0 k) o true ∧ x = .v undef ∧ EffW P o (TT ops xs T0 k) (B k) H')) →
   ∃ (ys : Nat → AV) (E : Nat → AHeap), (∀ i, i < k → ys i = xs i) ∧ (∀ i, i ≤ k → E i = B i) ∧ ys k = x ∧ E (k + 1) = H' ∧ (∀ i, i < k + 1 → GoodW P ops n ws rs ys E T0 i) := by
  intro k o xs B x H' ho hg hd hx
  refine ⟨fun i => if i = k then x else xs i, fun i => if i = k + 1 then H' else B i, fun i hi => if_neg (by omega), fun i hi => if_neg (by omega), if_pos rfl, if_pos rfl, ?_⟩
  intro i hi
  rcases Nat.lt_or_ge i k with hlt | hge
  ·exact (hg i hlt).congr (fun j hj => (if_neg (by omega)).symm) (fun j hj => (if_neg (by omega)).symm)
  ·have e : i = k := by omega
   subst e
   refine ⟨o, ho, hd, ?_⟩
   have e1 : TT ops (fun j => if j = i then x else xs j) T0 i = TT ops xs T0 i := Z0m i (fun j hj => if_neg (by omega))
   have e2 : (if i = i + 1 then H' else B i) = B i := if_neg (by omega)
   have e3 : (if 0 = i + 1 then H' else B 0) = B 0 := if_neg (by omega)
   simp only [e1, if_true, e2, e3]
   exact hx
 induction h with
 | done h =>
  intro xs B hl hB hs hg
  subst hs
  exact ⟨xs, B, hB, h, hg⟩
 | @eff k o r s Hn x hw hd he hn hr hk h ih =>
  intro xs B hl hB hs hg
  subst hs
  obtain ⟨h1, h2⟩ := Z03 hl
  have ho : ops[k]? = some o := by rw [← Array.getElem?_toList]; exact h1
  obtain ⟨ys, E, e1, e2, e3, e4, e5⟩ := step k o xs B x (B k) ho hg hd (.inl ⟨hk, rfl, .inr ⟨hw, Hn, he, fun p hp => hB ▸ hn p hp, hr⟩⟩)
  have hlen : k + (o :: r).length = k + 1 + r.length := by simp; omega
  rw [hlen]
  refine ih ys E h2 ((e2 0 (by omega)).trans hB) ?_ e5
  simp only [TT, ho, Option.bind_some, e3, e4]
  rw [Z0m k e1]
 | @off k o r s hw hd hk h ih =>
  intro xs B hl hB hs hg
  subst hs
  obtain ⟨h1, h2⟩ := Z03 hl
  have ho : ops[k]? = some o := by rw [← Array.getElem?_toList]; exact h1
  obtain ⟨ys, E, e1, e2, e3, e4, e5⟩ := step k o xs B (.v undef) (B k) ho hg hd (.inl ⟨hk, rfl, .inl ⟨hw, rfl⟩⟩)
  have hlen : k + (o :: r).length = k + 1 + r.length := by simp; omega
  rw [hlen]
  refine ih ys E h2 ((e2 0 (by omega)).trans hB) ?_ e5
  simp only [TT, ho, Option.bind_some, e3, e4]
  rw [Z0m k e1]
 | @write k o r s H' hw hd he hk h ih =>
  intro xs B hl hB hs hg
  subst hs
  obtain ⟨h1, h2⟩ := Z03 hl
  have ho : ops[k]? = some o := by rw [← Array.getElem?_toList]; exact h1
  obtain ⟨ys, E, e1, e2, e3, e4, e5⟩ := step k o xs B (.v undef) H' ho hg hd (.inr ⟨hk, hw, rfl, he⟩)
  have hlen : k + (o :: r).length = k + 1 + r.length := by simp; omega
  rw [hlen]
  refine ih ys E h2 ((e2 0 (by omega)).trans hB) ?_ e5
  simp only [TT, ho, Option.bind_some, e3, e4]
  rw [Z0m k e1]
def okWrites (ms ws rs : List Nat) : Bool := ws.all fun w => (rs.all fun r => Nat.blt r w && bitOf ms w r) && ws.all fun v => Nat.beq v w || (Nat.blt v w && bitOf ms w v) || (Nat.blt w v && bitOf ms v w)
def tidyW (ops : Array Oper) (ms ws rs : List Nat) : Bool := okEdges ops && okDst ops ops.size && okCert ops ms && okLooksM ops ms ops.size && okWrites ms ws rs && (ws ++ rs).all fun i => Nat.blt i ops.size
structure InvW (P : Program) (ops : Array Oper) (ws : List Nat) (ys : Nat → AV) (B : Nat → AHeap) (cur : Nat) (s : St) (Z : List Nat) (C0 : Ctx) (H0 : AHeap) (w0 : World) (listed : Array Bool) (a : Act) (w : World) (C : Ctx) : Prop where
 wr : WR C (B cur) w
 sl0 : ∀ t x, lk s.T t = some x → (∀ j, j < ops.size → (ops[j]?).bind (·.dst) ≠ some t) → ∃ v, a.tmps[t]? = some v ∧ VR C x v
 sl1 : ∀ j t, j < ops.size → listed.getD j false = true → (ops[j]?).bind (·.dst) = some t → ∃ v, a.tmps[t]? = some v ∧ VR C (ys j) v
 df : a.defers = s.D.map (mark C)
 du : ∀ i, i ∈ s.D → i ∈ C.U
 sz : a.tmps.size = s.n
 ext : Ext Z C0 H0 w0 C (B cur) w
 dn : ∀ i o, ops[i]? = some o → listed.getD i false = true → ∀ e, e ∈ o.after → Region.binds .any e = true → listed.getD e.on false = true
 lw : ∀ v, ws.contains v = true → v < ops.size → (listed.getD v false = true ↔ v < cur)
 lc : cur ≤ ops.size
theorem Zcr {B : Nat → AHeap} {ws : List Nat} {N : Nat} (hB : ∀ i, i < N → ws.contains i = false → B (i + 1) = B i) : ∀ (d a : Nat), a + d ≤ N → (∀ i, a ≤ i → i < a + d → ws.contains i = false) → B (a + d) = B a
 | 0, a, _, _ => rfl
 | d + 1, a, h, hw => by
  rw [show a + (d + 1) = (a + d) + 1 from by omega, hB (a + d) (by omega) (hw _ (by omega) (by omega))]
  exact Zcr hB d a (by omega) (fun i h1 h2 => hw i h1 (by omega))
theorem Zf2 {P : Program} {ro : Option Nat} {ops : Array Oper} {Q : Exit → St → Prop} {ms ws rs : List Nat} {ys : Nat → AV} {B : Nat → AHeap} {s : St} {Z : List Nat} {C0 : Ctx} {H0 : AHeap} {w0 : World}
  (ht : tidyW ops ms ws rs = true) (hK : Q .normal ⟨TT ops ys s.T ops.size, B ops.size, s.D, s.n⟩) (hg : ∀ i, i < ops.size → GoodW P ops s.n ws rs ys B s.T i) :
  ∀ (fuel : Nat) (listed : Array Bool) (cur : Nat) (a : Act) (w : World) (C : Ctx), listed.size = ops.size → left ops listed = fuel →
   InvW P ops ws ys B cur s Z C0 H0 w0 listed a w C → wpAnyIn (Wd ro) 0 P .any ops (Post Z C0 H0 w0 Q) fuel listed a w := by
 simp only [tidyW, Bool.and_eq_true] at ht
 obtain ⟨⟨⟨⟨⟨hE, hD⟩, hCt⟩, hL⟩, hW⟩, hIn⟩ := ht
 have hcert := Z4j hE hCt
 have hwsz : ∀ v, ws.contains v = true → v < ops.size := fun v hv => Nat.blt_eq ▸ List.all_eq_true.1 hIn v (List.mem_append_left _ (by simpa using hv))
 have hrsz : ∀ v, rs.contains v = true → v < ops.size := fun v hv => Nat.blt_eq ▸ List.all_eq_true.1 hIn v (List.mem_append_right _ (by simpa using hv))
 have hrw : ∀ v r, ws.contains v = true → rs.contains r = true → anc ops v v r = true := by
  intro v r hv hr
  have h1 := List.all_eq_true.1 hW v (by simpa using hv)
  rw [Bool.and_eq_true] at h1
  have h2 := List.all_eq_true.1 h1.1 r (by simpa using hr)
  rw [Bool.and_eq_true] at h2
  exact hcert v (hwsz v hv) r (Nat.blt_eq ▸ h2.1) h2.2
 have hww : ∀ v u, ws.contains v = true → ws.contains u = true → u < v → anc ops v v u = true := by
  intro v u hv hu hlt
  have h1 := List.all_eq_true.1 hW v (by simpa using hv)
  rw [Bool.and_eq_true] at h1
  have h2 := List.all_eq_true.1 h1.2 u (by simpa using hu)
  simp only [Bool.or_eq_true, Bool.and_eq_true] at h2
  rcases h2 with (h2 | h2) | h2
  ·have := Nat.eq_of_beq_eq_true h2; omega
  ·exact hcert v (hwsz v hv) u hlt h2.2
  ·have : v < u := Nat.blt_eq ▸ h2.1; omega
 have hBs : ∀ i, i < ops.size → ws.contains i = false → B (i + 1) = B i := by
  intro i hi hw
  obtain ⟨o, _, _, h | h⟩ := hg i hi
  ·exact h.2.1
  ·rw [hw] at h; cases h.1
 intro fuel
 induction fuel with
 | zero =>
  intro listed cur a w C hls hleft hI
  have hall : ∀ i, i < ops.size → listed.getD i false = true := by
   intro i hi
   cases hb : listed.getD i false with
   | true => rfl
   | false => have := Z3q hi hls hb; omega
  refine ⟨?_, ?_⟩
  ·rw [List.eq_nil_iff_forall_not_mem]
   intro j hj
   obtain ⟨h3, o, h4, _⟩ := mem_ready.1 hj
   have hlt : j < ops.size := (Array.getElem?_eq_some_iff.1 h4).1
   have := hall j hlt
   simp [hls, hlt] at h3 this
   rw [h3] at this; cases this
  ·have hB : B ops.size = B cur := by
    have := Zcr hBs (ops.size - cur) cur (by have := hI.lc; omega) (fun i h1 h2 => by
     cases hw : ws.contains i with
     | false => rfl
     | true => have := (hI.lw i hw (hwsz i hw)).1 (hall i (hwsz i hw)); omega)
    rwa [show cur + (ops.size - cur) = ops.size from by have := hI.lc; omega] at this
   refine ⟨nofun, C, _, hK, ⟨by rw [hB]; exact hI.wr, ?_, hI.df, hI.du, hI.sz⟩, by rw [hB]; exact hI.ext⟩
   intro t x hx
   rcases Z32 ops.size hx with ⟨j, h1, h2, rfl⟩ | ⟨h1, h2⟩
   ·exact hI.sl1 j t h1 (hall j h1) h2
   ·exact hI.sl0 t x h1 h2
 | succ fuel ih =>
  intro listed cur a w C hls hleft hI
  refine ⟨fun hnil => ?_, fun i hi => ?_⟩
  ·exfalso
   obtain ⟨i, h1, h2, h3⟩ := Z9f (ops := ops) (listed := listed) (by omega)
   have : i ∈ Region.ready .any ops listed := by
    rw [mem_ready]
    refine ⟨?_, ops[i], Array.getElem?_eq_getElem h1, ?_⟩
    ·simp [hls, h1] at h2 ⊢; exact h2
    ·intro e he hbd
     have := List.all_eq_true.1 hE i (List.mem_range.2 h1)
     rw [Array.getElem?_eq_getElem h1] at this
     have h5 := Array.all_eq_true_iff_forall_mem.1 this e he
     rw [hbd, Bool.not_true, Bool.false_or, Nat.blt_eq] at h5
     exact h3 e.on h5
   rw [hnil] at this; cases this
  ·obtain ⟨h3, o, ho, hdeps⟩ := mem_ready.1 hi
   have hlt : i < ops.size := (Array.getElem?_eq_some_iff.1 ho).1
   have hunl : listed.getD i false = false := by simp [hls, hlt] at h3 ⊢; exact h3
   obtain ⟨o', ho', hd, hgood⟩ := hg i hlt
   rw [ho] at ho'; cases ho'
   have hanc : ∀ j, anc ops i i j = true → listed.getD j false = true := fun j hj => Z12 hI.dn i i j o ho hdeps hj
   have hLi := List.all_eq_true.1 hL i (List.mem_range.2 hlt)
   simp only [ho] at hLi
   have hlook : ∀ t x, t ∈ o.looksAt ops → lk (TT ops ys s.T i) t = some x → ∃ v, a.tmps[t]? = some v ∧ VR C x v := by
    intro t x htl' hx
    have h5 := List.all_eq_true.1 hLi t htl'
    have h6 : ∀ j, j < ops.size → (ops[j]?).bind (·.dst) = some t → j < i ∧ listed.getD j false = true := by
     intro j hj hjt
     have h7 := List.all_eq_true.1 h5 j (List.mem_range.2 hj)
     rw [hjt] at h7
     simp only [beq_self_eq_true, Bool.not_true, Bool.false_or, Bool.and_eq_true, Nat.blt_eq] at h7
     exact ⟨h7.1, hanc j (hcert i hlt j h7.1 h7.2)⟩
    rcases Z32 i hx with ⟨j, h7, h8, rfl⟩ | ⟨h7, h8⟩
    ·exact hI.sl1 j t (by omega) (h6 j (by omega) h8).2 h8
    ·refine hI.sl0 t x h7 (fun j hj hjt => ?_)
     exact h8 j (h6 j hj hjt).1 hjt
   have hwant : ∀ b, Wanted ops (TT ops ys s.T i) o b → Region.wanted o (yielded ops a.tmps) = b := by
    intro b hb
    rcases hb with ⟨h, rfl⟩ | ⟨g, c, d, og, t, h1, h2, h4, ⟨h5, h6⟩ | ⟨h5, rfl⟩⟩
    ·simp [Region.wanted, h]
    ·obtain ⟨v, h7, h8⟩ := hlook t _ (Z29 h1 h2 h4) h5
     have := VR.val h8
     subst this
     have hy : yielded ops a.tmps g = some d := by
      have hb : (ops[g]?.bind fun x => x.dst) = some t := by rw [h2]; exact h4
      have hb2 : ((ops[g]?.bind fun x => x.dst).bind fun x => a.tmps[x]?) = some (.bool d) := by rw [hb]; exact h7
      unfold yielded
      rw [hb2]
     rw [← h6]
     cases d <;> cases c <;> simp [Region.wanted, h1, hy]
    ·obtain ⟨v, h7, h8⟩ := hlook t _ (Z29 h1 h2 h4) h5
     have := VR.val h8
     subst this
     have hy : yielded ops a.tmps g = none := by
      have hb : (ops[g]?.bind fun x => x.dst) = some t := by rw [h2]; exact h4
      have hb2 : ((ops[g]?.bind fun x => x.dst).bind fun x => a.tmps[x]?) = some undef := by rw [hb]; exact h7
      unfold yielded
      rw [hb2]
      rfl
     simp [Region.wanted, h1, hy]
   have hdst : ∀ j t, j < ops.size → j ≠ i → o.dst = some t → (ops[j]?).bind (·.dst) ≠ some t := by
    intro j t hj hne hot hjt
    have hbi : (ops[i]?).bind (·.dst) = some t := by rw [ho]; exact hot
    rcases Nat.lt_or_ge j i with h | h
    ·have h5 := List.all_eq_true.1 (List.all_eq_true.1 hD i (List.mem_range.2 hlt)) j (List.mem_range.2 h)
     rw [hbi, hjt] at h5; simp at h5
    ·have h5 := List.all_eq_true.1 (List.all_eq_true.1 hD j (List.mem_range.2 hj)) i (List.mem_range.2 (by omega))
     rw [hbi, hjt] at h5; simp at h5
   have hset : ∀ j, (listed.setIfInBounds i true).getD j false = if j = i then true else listed.getD j false := by
    intro j
    by_cases e : j = i
    ·subst e; have : j < listed.size := by omega
     simp [this]
    ·rw [if_neg e, getD_set_ne _ (Ne.symm e)]
   have hops : ∀ p, p ∈ o.op.operands → ∀ y, ev (TT ops ys s.T i) p = some y → VR C y (a.eval p) := by
    intro p hp y hy
    cases p with
    | tmp t =>
     obtain ⟨v, h5, h6⟩ := hlook t y (Z5d hp) hy
     have e : a.eval (.tmp t) = v := by simp [Act.eval, h5]
     rw [e]; exact h6
    | const c => cases hy; exact .v c
    | func f => cases hy; exact .fn _ [] #[] rfl (by intro i c x h; simp at h)
    | global g => cases hy
   -- behind it
   have next : ∀ (cur' : Nat) (v : Value) (w1 : World) (C1 : Ctx), VR C1 (ys i) v → WR C1 (B cur') w1 → Ext Z C (B cur) w C1 (B cur') w1 → cur' ≤ ops.size →
     (∀ u, ws.contains u = true → u < ops.size → ((listed.setIfInBounds i true).getD u false = true ↔ u < cur')) →
     wpAnyIn (Wd ro) 0 P .any ops (Post Z C0 H0 w0 Q) fuel (listed.setIfInBounds i true) (a.put o.dst v) w1 := by
    intro cur' v w1 C1 hv hw1 he1 hcs hlw
    refine ih _ cur' _ _ C1 (by simpa using hls) (by have := Z3q hlt hls hunl; omega) ?_
    refine ⟨hw1, ?_, ?_, ?_, fun j hj => he1.le.U j (hI.du j hj), ?_, hI.ext.trans he1, ?_, hlw, hcs⟩
    ·intro t x hx hno
     obtain ⟨u, h5, h6⟩ := hI.sl0 t x hx hno
     refine ⟨u, ?_, h6.mono he1.le⟩
     cases hod : o.dst with
     | none => exact h5
     | some d =>
      have hne : d ≠ t := by
       rintro rfl
       exact hno i hlt (by rw [ho]; exact hod)
      simpa [Act.put, Array.getElem?_setIfInBounds_ne hne] using h5
    ·intro j t hj hlj hjt
     by_cases e : j = i
     ·subst e
      have hod : o.dst = some t := by rw [ho] at hjt; exact hjt
      refine ⟨v, ?_, hv⟩
      have := Z0k hd t hod
      rw [← hI.sz] at this
      simp [Act.put, hod, this]
     ·rw [hset, if_neg e] at hlj
      obtain ⟨u, h5, h6⟩ := hI.sl1 j t hj hlj hjt
      refine ⟨u, ?_, h6.mono he1.le⟩
      cases hod : o.dst with
      | none => exact h5
      | some d =>
       have hne : d ≠ t := by
        rintro rfl
        exact hdst j d hj e hod hjt
       simpa [Act.put, Array.getElem?_setIfInBounds_ne hne] using h5
    ·have e1 : (a.put o.dst v).defers = a.defers := by cases o.dst <;> rfl
     rw [e1, hI.df]
     exact List.map_congr_left fun j hj => by simp [mark, he1.le.m j (hI.du j hj), he1.le.df j (hI.du j hj)]
    ·have e1 : (a.put o.dst v).tmps.size = a.tmps.size := by cases o.dst <;> simp [Act.put]
     rw [e1]; exact hI.sz
    ·intro j o2 ho2 hlj e he hb
     rw [hset]
     split
     ·rfl
     ·by_cases e2 : j = i
      ·subst e2; rw [ho] at ho2; cases ho2; exact hdeps e he hb
      ·rw [hset, if_neg e2] at hlj; exact hI.dn j o2 ho2 hlj e he hb
   have hlw0 : ws.contains i = false → ∀ u, ws.contains u = true → u < ops.size → ((listed.setIfInBounds i true).getD u false = true ↔ u < cur) := by
    intro hw u hu hus
    have : u ≠ i := fun e => by rw [e, hw] at hu; cases hu
    rw [hset, if_neg this]; exact hI.lw u hu hus
   unfold wpOpIn
   simp only [ho]
   rcases hgood with ⟨hwi, hBi, ⟨hw, hx⟩ | ⟨hw, Hn, heff, hHn, hrd⟩⟩ | ⟨hwi, hw, hx, heff⟩
   ·rw [hwant false hw]
    simp only [Bool.false_eq_true, if_false]
    exact ⟨fun _ _ => trivial, next cur undef w C (by rw [hx]; exact .v undef) hI.wr (.refl ..) hI.lc (hlw0 hwi)⟩
   ·rw [hwant true hw]
    simp only [if_true]
    refine ⟨fun _ _ => trivial, ?_⟩
    refine heff Z C (B cur) a w hI.wr ?_ hops nofun List.nodup_nil (fun _ _ => by simp) ro _ _ (fun v w1 C1 hv hw1 he1 => next cur v w1 C1 hv hw1 he1 hI.lc (hlw0 hwi))
    intro p hp
    rcases hrd with h | h
    ·subst h; cases hp
    ·have hno : ∀ j, j < cur → ws.contains j = false := by
      intro j hj
      cases hwj : ws.contains j with
      | false => rfl
      | true =>
       have hjs := hwsz j hwj
       have hlj := (hI.lw j hwj hjs).2 hj
       have hoj := Array.getElem?_eq_getElem hjs
       have := Z12 hI.dn j j i _ hoj (fun e he hb => hI.dn j _ hoj hlj e he hb) (hrw j i hwj h)
       rw [hunl] at this; cases this
     have e := Zcr hBs cur 0 (by have := hI.lc; omega) (fun j _ h2 => hno j (by omega))
     rw [Nat.zero_add] at e
     rw [e]; exact hHn p hp
   ·rw [hwant true hw]
    simp only [if_true]
    refine ⟨fun _ _ => trivial, ?_⟩
    have hge : cur ≤ i := Nat.le_of_not_lt fun h => by
     have := (hI.lw i hwi hlt).2 h
     rw [hunl] at this; cases this
    have hBi : B i = B cur := by
     have := Zcr hBs (i - cur) cur (by omega) (fun j h1 h2 => by
      cases hwj : ws.contains j with
      | false => rfl
      | true =>
       have := hanc j (hww i j hwi hwj (by omega))
       have := (hI.lw j hwj (hwsz j hwj)).1 this
       omega)
     rwa [show cur + (i - cur) = i from by omega] at this
    rw [hBi] at heff
    refine heff Z C a w hI.wr hops ro _ _ (fun v w1 C1 hv hw1 he1 => next (i + 1) v w1 C1 (by rw [hx]; exact hv) hw1 he1 (by omega) ?_)
    intro u hu hus
    rw [hset]
    by_cases e : u = i
    ·subst e; simp
    ·rw [if_neg e]
     constructor
     ·intro h; have := (hI.lw u hu hus).1 h; omega
     ·intro h; exact hanc u (hww i u hwi hu (by omega))
theorem Z0g {P : Program} {ro : Option Nat} {Q : Exit → St → Prop} {s : St} {id : Nat} {l : List Oper} (ms ws rs : List Nat) (hm : P.follows .mixedOrders = true) (ht : tidyW l.toArray ms ws rs = true)
  (h : WCalm P l.toArray s.H ws rs (Q .normal) 0 l s) : AWp P ro (.region id l.toArray true) Q s := by
 intro Z C0 H0 w0 C a w he hs
 refine wpIn_region_any hm ?_
 obtain ⟨ys, B, h0, h1, h2⟩ := h.tell (T0 := s.T) (D := s.D) (n := s.n) (fun _ => .v undef) (fun _ => s.H) (by simp) rfl rfl (fun i hi => absurd hi (Nat.not_lt_zero _))
 simp only [Nat.zero_add] at h1 h2
 have hw1 : WR C s.H { w with drawn := w.drawn + 1 } := ⟨hs.wr.hp, hs.wr.nd, fun i o hi => ⟨(hs.wr.ids i o hi).1, (hs.wr.ids i o hi).2.keep (.refl C) (hs.wr.ids i o hi).1 (fun _ _ _ => rfl)⟩, hs.wr.inj, hs.wr.dis⟩
 have he1 : Ext Z C0 H0 w0 C s.H { w with drawn := w.drawn + 1 } := ⟨he.le, he.av, he.os, he.tape, he.output, he.size, he.fr, he.nhp, he.nbl, he.nid⟩
 have hf : ∀ i, (Array.replicate l.toArray.size false).getD i false = false := by
  intro i
  rw [Array.getD_eq_getD_getElem?, Array.getElem?_replicate]
  split <;> rfl
 refine Zf2 (ys := ys) (B := B) (s := s) (cur := 0) ht (by simpa using h1) (by simpa using h2) l.toArray.size _ _ _ C (by simp) ?_ ?_
 ·unfold left
  rw [List.filter_eq_self.2 (fun i _ => by rw [hf]; rfl), List.length_range]
 ·refine ⟨by rw [h0]; exact hw1, fun t x hx _ => hs.sl t x hx, fun j t _ hj => (by rw [hf] at hj; cases hj), hs.df, hs.du, hs.sz, by rw [h0]; exact he1, fun i o _ hi => (by rw [hf] at hi; cases hi), fun v _ _ => by rw [hf]; simp, Nat.zero_le _⟩
section
variable {P : Program} {ops : Array Oper} {o : Oper} {rest : List Oper} {H0 : AHeap} {ws rs : List Nat} {K : St → Prop} {k : Nat} {s : St}
theorem Z9 {x : AV} (hw : Wanted ops s.T o true) (hd : dok o.dst s.n = true) (he : Eff P o s.T [] x []) (hk : ws.contains k = false) (h : WCalm P ops H0 ws rs K (k + 1) rest { s with T := put s.T o.dst x }) : WCalm P ops H0 ws rs K k (o :: rest) s :=
 .eff [] x hw hd he nofun (.inl rfl) hk h
theorem Zi {t : TypeId} {p : Operand} {id sz i c el : Nat} {es : List (List AV)} {e : List AV} {x : AV} (j : Nat) (hw : Wanted ops s.T o true) (hd : dok o.dst s.n = true)
  (ho : o.op = .load t p) (hp : ev s.T p = some (.ptr id sz i c)) (hH : H0[j]? = some (id, .rows el sz es)) (he : es[i]? = some e) (hl : Ld P t (e.drop c) x) (hr : rs.contains k = true) (hk : ws.contains k = false)
  (h : WCalm P ops H0 ws rs K (k + 1) rest { s with T := put s.T o.dst x }) : WCalm P ops H0 ws rs K k (o :: rest) s :=
 .eff [(id, .rows el sz es)] x hw hd (Z1k ho hp ⟨el, es, e, List.mem_cons_self, he, rfl⟩ hl) (fun p hp => by rw [List.mem_singleton.1 hp]; exact List.mem_of_getElem? hH) (.inr hr) hk h
theorem Zl {t n id el i : Nat} {b : Bool} {p q : Operand} {l : List ByteArray} {x : ByteArray} (j : Nat) [kt : TK P t b n] (hn1 : n = 1) (hw : Wanted ops s.T o true) (hd : dok o.dst s.n = true)
  (ho : o.op = .store t p q) (hp : ev s.T p = some (.ptr id 1 i 0)) (hH : s.H[j]? = some (id, .rows el 1 (l.map fun x => [AV.v (.string x)]))) (hi : i < l.length) (hq : ev s.T q = some (.v (.string x))) (hk : ws.contains k = true)
  (h : WCalm P ops H0 ws rs K (k + 1) rest { s with T := put s.T o.dst (.v undef), H := s.H.set j (id, .rows el 1 ((l.set i x).map fun x => [AV.v (.string x)])) }) : WCalm P ops H0 ws rs K k (o :: rest) s :=
 .write _ hw hd (Z8n j hn1 ho hp hH hi hq) hk h
end
end Go.Sx
namespace Go.Sx
open Go
abbrev xA (n : Int) : AV := .v (.int .u64 n)
theorem Z3y {n : Int} (h : 0 ≤ n ∧ n < 18446744073709551616) : IntKind.u64.wrap n = n := by
 unfold IntKind.wrap
 simp [IntKind.bits, IntKind.signed]
 omega
theorem Z2m {n : Int} (h : 0 ≤ n ∧ n < 256) : IntKind.u8.wrap n = n := by
 unfold IntKind.wrap
 simp [IntKind.bits, IntKind.signed]
 omega
def LenJ (x y n : Nat) : Prop := y * 2 ^ n ≤ x ∧ (0 < x → 0 < y)
theorem LenJ.start (x : Nat) : LenJ x x 0 := ⟨by simp, id⟩
theorem LenJ.shr {x y n : Nat} (h : LenJ x y n) (s : Nat) (hy : 2 ^ s ≤ y) : LenJ x (y / 2 ^ s) (n + s) := by
 refine ⟨?_, fun _ => Nat.div_pos hy (Nat.two_pow_pos s)⟩
 have h1 : y / 2 ^ s * 2 ^ s ≤ y := Nat.div_mul_le_self y (2 ^ s)
 calc y / 2 ^ s * 2 ^ (n + s) = (y / 2 ^ s * 2 ^ s) * 2 ^ n := by rw [Nat.pow_add]; simp only [Nat.mul_assoc, Nat.mul_comm, Nat.mul_left_comm]
  _ ≤ y * 2 ^ n := Nat.mul_le_mul_right _ h1
  _ ≤ x := h.1
theorem LenJ.fin {x y n t : Nat} (h : LenJ x y n) (ht : 0 < y → 2 ^ t ≤ 2 * y) (hx : 0 < x) : 2 ^ (n + t) ≤ 2 * x := by
 have h1 := ht (h.2 hx)
 calc 2 ^ (n + t) = 2 ^ t * 2 ^ n := by rw [Nat.pow_add, Nat.mul_comm]
  _ ≤ (2 * y) * 2 ^ n := Nat.mul_le_mul_right _ h1
  _ = 2 * (y * 2 ^ n) := by rw [Nat.mul_assoc]
  _ ≤ 2 * x := Nat.mul_le_mul_left _ h.1
theorem Zek (x k : Nat) (hk : k ≤ 64) : ((x : Int)).fdiv (2 ^ (min ((k : Int)).toNat 64)) = ((x / 2 ^ k : Nat) : Int) := by
 have e : min ((k : Int)).toNat 64 = k := by omega
 rw [e, Int.ofNat_fdiv]; simp
theorem Zem {v : Int} {m : Nat} (h0 : 0 < m) (hm : m ≤ 4611686018427387904) : 0 ≤ IntKind.i64.wrap (bitsI .and .u64 v (IntKind.u64.wrap ((m : Int) - 1))) ∧ IntKind.i64.wrap (bitsI .and .u64 v (IntKind.u64.wrap ((m : Int) - 1))) < m := by
 rw [Z3y (n := (m : Int) - 1) (by omega)]
 have e : (BitVec.ofInt IntKind.u64.bits ((m : Int) - 1)).toNat = m - 1 := by
  rw [BitVec.toNat_ofInt]
  simp [IntKind.bits]
  omega
 have hle : (BitVec.ofInt IntKind.u64.bits v &&& BitVec.ofInt IntKind.u64.bits ((m : Int) - 1)).toNat ≤ m - 1 := by
  rw [BitVec.toNat_and, e]; exact Nat.and_le_right
 unfold bitsI
 simp only
 generalize (BitVec.ofInt IntKind.u64.bits v &&& BitVec.ofInt IntKind.u64.bits ((m : Int) - 1)).toNat = d at hle ⊢
 rw [Z3y (by omega), Z0v (by omega)]
 omega
theorem Zeh {x k : Nat} (h0 : 0 < x) (hx : x ≤ 140737488355328) (hk : k ≤ 64 ∧ (0 < x → 2 ^ k ≤ 2 * x)) : IntKind.u64.wrap (1 * 2 ^ (min ((k : Int)).toNat IntKind.u64.bits)) = ((2 ^ k : Nat) : Int) := by
 have h := hk.2 h0
 have e : min ((k : Int)).toNat IntKind.u64.bits = k := by simp [IntKind.bits]; omega
 rw [e, Int.one_mul, show ((2 : Int) ^ k) = ((2 ^ k : Nat) : Int) from by simp]
 have h2 : (0 : Int) ≤ ((2 ^ k : Nat) : Int) := Int.natCast_nonneg _
 have h3 : ((2 ^ k : Nat) : Int) ≤ ((2 * x : Nat) : Int) := Int.ofNat_le.2 h
 generalize ((2 ^ k : Nat) : Int) = z at *
 exact Z3y (by omega)
def len8 : ByteArray := ⟨#[0, 1, 2, 2, 3, 3, 3, 3, 4, 4, 4, 4, 4, 4, 4, 4, 5, 5, 5, 5, 5, 5, 5, 5, 5, 5, 5, 5, 5, 5, 5, 5, 6, 6, 6, 6, 6, 6, 6, 6, 6, 6, 6, 6, 6, 6, 6, 6, 6, 6, 6, 6, 6, 6, 6, 6, 6, 6, 6, 6, 6, 6, 6, 6, 7, 7, 7, 7, 7, 7, 7, 7, 7, 7, 7, 7, 7, 7, 7, 7, 7, 7, 7, 7, 7, 7, 7, 7, 7, 7, 7, 7, 7, 7, 7, 7, 7, 7, 7, 7, 7, 7, 7, 7, 7, 7, 7, 7, 7, 7, 7, 7, 7, 7, 7, 7, 7, 7, 7, 7, 7, 7, 7, 7, 7, 7, 7, 7, 8, 8, 8, 8, 8, 8, 8, 8, 8, 8, 8, 8, 8, 8, 8, 8, 8, 8, 8, 8, 8, 8, 8, 8, 8, 8, 8, 8, 8, 8, 8, 8, 8, 8, 8, 8, 8, 8, 8, 8, 8, 8, 8, 8, 8, 8, 8, 8, 8, 8, 8, 8, 8, 8, 8, 8, 8, 8, 8, 8, 8, 8, 8, 8, 8, 8, 8, 8, 8, 8, 8, 8, 8, 8, 8, 8, 8, 8, 8, 8, 8, 8, 8, 8, 8, 8, 8, 8, 8, 8, 8, 8, 8, 8, 8, 8, 8, 8, 8, 8, 8, 8, 8, 8, 8, 8, 8, 8, 8, 8, 8, 8, 8, 8, 8, 8, 8, 8, 8, 8, 8, 8, 8, 8, 8, 8, 8, 8]⟩
theorem Z08 : ∀ y : Fin 256, 0 ≤ byteAt len8 (y.val : Int) ∧ byteAt len8 (y.val : Int) ≤ 8 ∧ (0 < y.val → 2 ^ (byteAt len8 (y.val : Int)).toNat ≤ 2 * y.val) := by decide +kernel
theorem Z1j {u : ByteArray} (h : u = len8) (k : Int) : uA (byteAt u k) = uA (byteAt len8 k) := by rw [h]
theorem Z11 {u : ByteArray} {k : Int} (h : u = len8) (hk : k < 256) : k < u.size := by rw [h, show len8.size = 256 from by decide +kernel]; exact hk
variable {P : Program} {ro : Option Nat} {Q : Exit → St → Prop} {s : St}
theorem Z06 {c : Code} {k : IntKind} {b : Nat} (t : Nat) (ht : lk s.T t = some (.v (.int k (b : Int)))) (h : ∀ d : Nat, d = b → AWp P ro c Q { s with T := (t, .v (.int k (d : Int))) :: s.T }) : AWp P ro c Q s := Z2q (Z4n ht) (h b rfl)
end Go.Sx
namespace Go.Sx
open Go
structure LtOK {α : Type} (lt : α → α → Bool) : Prop where
 irr : ∀ x, lt x x = false
 asy : ∀ x y, lt x y = true → lt y x = false
 tr : ∀ x y z, lt y x = false → lt z y = false → lt z x = false
section
variable {α : Type} [Inhabited α]
def swp (l : List α) (i j : Nat) : List α := (l.set i (l.getD j default)).set j (l.getD i default)
theorem Z5o (l : List α) (i j : Nat) : (swp l i j).length = l.length := by simp [swp]
theorem Z3a {l : List α} {i j : Nat} (hi : i < l.length) (hj : j < l.length) (k : Nat) : (swp l i j).getD k default = if k = j then l.getD i default else if k = i then l.getD j default else l.getD k default := by
 unfold swp
 simp only [List.getD_eq_getElem?_getD, List.getElem?_set, List.length_set]
 by_cases h1 : j = k
 ·subst h1; simp [hj]
 ·by_cases h2 : i = k
  ·subst h2; simp [h1, Ne.symm h1, hi]
  ·simp [h1, h2, Ne.symm h1, Ne.symm h2]
theorem Z6z {l : List α} {i j : Nat} (hi : i < l.length) (hj : j < l.length) : (swp l i j).getD i default = l.getD j default := by
 rw [Z3a hi hj]; by_cases h : i = j
 ·subst h; simp
 ·simp [h]
theorem Zac {l : List α} {i j : Nat} (hi : i < l.length) (hj : j < l.length) : (swp l i j).getD j default = l.getD i default := by rw [Z3a hi hj]; simp
theorem Z1s {l : List α} {i j k : Nat} (hi : i < l.length) (hj : j < l.length) (h1 : k ≠ i) (h2 : k ≠ j) : (swp l i j).getD k default = l.getD k default := by rw [Z3a hi hj]; simp [h1, h2]
theorem Zd4 {l : List α} {i j : Nat} (hi : i < l.length) (hj : j < l.length) : (swp l i j).Perm l := by
 unfold swp
 rw [show l.getD i default = l[i] from by simp [List.getD, hi], show l.getD j default = l[j] from by simp [List.getD, hj]]
 exact List.set_set_perm hi hj
inductive Sw (a b : Nat) (l : List α) : List α → Prop
 | refl : Sw a b l l
 | step {m : List α} (i j : Nat) (h : Sw a b l m) (hi : a ≤ i ∧ i < b) (hj : a ≤ j ∧ j < b) (hb : b ≤ m.length) : Sw a b l (swp m i j)
theorem Sw.len {a b : Nat} {l m : List α} (h : Sw a b l m) : m.length = l.length := by
 induction h with
 | refl => rfl
 | step i j _ _ _ _ ih => rw [Z5o, ih]
theorem Sw.out {a b : Nat} {l m : List α} (h : Sw a b l m) {k : Nat} (hk : k < a ∨ b ≤ k) : m.getD k default = l.getD k default := by
 induction h with
 | refl => rfl
 | step i j _ hi hj hb ih => rw [Z1s (by omega) (by omega) (by omega) (by omega), ih]
theorem Sw.all {a b : Nat} {l m : List α} (h : Sw a b l m) {Q : α → Prop} (hq : ∀ k, a ≤ k → k < b → Q (l.getD k default)) : ∀ k, a ≤ k → k < b → Q (m.getD k default) := by
 induction h with
 | refl => exact hq
 | step i j _ hi hj hb ih =>
  intro k h1 h2
  rw [Z3a (by omega) (by omega)]
  split
  ·exact ih i hi.1 hi.2
  ·split
   ·exact ih j hj.1 hj.2
   ·exact ih k h1 h2
theorem Sw.perm {a b : Nat} {l m : List α} (h : Sw a b l m) : m.Perm l := by
 induction h with
 | refl => exact .refl _
 | step i j _ hi hj hb ih => exact (Zd4 (by omega) (by omega)).trans ih
theorem Sw.trans {a b : Nat} {l m r : List α} (h : Sw a b l m) (k : Sw a b m r) : Sw a b l r := by
 induction k with
 | refl => exact h
 | step i j _ hi hj hb ih => exact .step i j ih hi hj hb
theorem Sw.mono {a b a' b' : Nat} {l m : List α} (h : Sw a b l m) (ha : a' ≤ a) (hb' : b ≤ b') (hl : b' ≤ l.length) : Sw a' b' l m := by
 induction h with
 | refl => exact .refl
 | step i j h hi hj hb ih => exact .step i j ih (by omega) (by omega) (by rw [h.len]; exact hl)
variable {lt : α → α → Bool}
def SAdj (lt : α → α → Bool) (a b : Nat) (l : List α) : Prop := ∀ k, a < k → k < b → lt (l.getD k default) (l.getD (k - 1) default) = false
def SOn (lt : α → α → Bool) (a b : Nat) (l : List α) : Prop := ∀ i j, a ≤ i → i ≤ j → j < b → lt (l.getD j default) (l.getD i default) = false
theorem SAdj.on (hO : LtOK lt) {a b : Nat} {l : List α} (h : SAdj lt a b l) : SOn lt a b l := by
 intro i j h1 h2 h3
 induction j with
 | zero =>
  have : i = 0 := by omega
  subst this; exact hO.irr _
 | succ j ih =>
  rcases Nat.lt_or_ge j i with h4 | h4
  ·have : i = j + 1 := by omega
   subst this; exact hO.irr _
  ·exact hO.tr _ _ _ (ih h4 (by omega)) (h (j + 1) (by omega) h3)
theorem SAdj.refl1 {a b : Nat} {l : List α} (h : b ≤ a + 1) : SAdj lt a b l := fun k h1 h2 => by omega
structure Ins (lt : α → α → Bool) (a j i : Nat) (l : List α) : Prop where
 one : ∀ k, a < k → k ≤ i → k ≠ j → lt (l.getD k default) (l.getD (k - 1) default) = false
 two : j < i → a < j → lt (l.getD (j + 1) default) (l.getD (j - 1) default) = false
theorem Ins.start {a i : Nat} {l : List α} (h : SAdj lt a i l) : Ins lt a i i l := ⟨fun k h1 h2 h3 => h k h1 (by omega), fun h => by omega⟩
theorem Ins.step (hO : LtOK lt) {a j i : Nat} {l : List α} (h : Ins lt a j i l) (hj : a < j) (hi : j ≤ i) (hl : i < l.length) (hlt : lt (l.getD j default) (l.getD (j - 1) default) = true) : Ins lt a (j - 1) i (swp l j (j - 1)) := by
 have hjl : j < l.length := by omega
 have hjl1 : j - 1 < l.length := by omega
 refine ⟨fun k h1 h2 h3 => ?_, fun h1 h2 => ?_⟩
 ·by_cases e1 : k = j
  ·subst e1; rw [Z6z hjl hjl1, Zac hjl hjl1]; exact hO.asy _ _ hlt
  ·by_cases e2 : k = j + 1
   ·subst e2
    rw [Z1s hjl hjl1 (by omega) (by omega), show j + 1 - 1 = j from by omega, Z6z hjl hjl1]
    exact h.two (by omega) hj
   ·rw [Z1s hjl hjl1 e1 h3, Z1s hjl hjl1 (by omega) (by omega)]; exact h.one k h1 h2 e1
 ·rw [show j - 1 + 1 = j from by omega, Z6z hjl hjl1, Z1s hjl hjl1 (by omega) (by omega)]
  exact h.one (j - 1) h2 (by omega) (by omega)
theorem Ins.done {a j i : Nat} {l : List α} (h : Ins lt a j i l) (he : j ≤ a ∨ lt (l.getD j default) (l.getD (j - 1) default) = false) : SAdj lt a (i + 1) l := by
 intro k h1 h2
 by_cases e : k = j
 ·subst e; rcases he with he | he; omega; exact he
 ·exact h.one k h1 (by omega) e
def hp (l : List α) (f x : Nat) : α := l.getD (f + x) default
def Heap (lt : α → α → Bool) (lo hi f : Nat) (l : List α) : Prop := ∀ x c, lo ≤ x → (c = 2 * x + 1 ∨ c = 2 * x + 2) → c < hi → lt (hp l f x) (hp l f c) = false
structure Sift (lt : α → α → Bool) (lo hi f root : Nat) (l : List α) : Prop where
 one : ∀ x c, lo ≤ x → x ≠ root → (c = 2 * x + 1 ∨ c = 2 * x + 2) → c < hi → lt (hp l f x) (hp l f c) = false
 two : ∀ x c, lo ≤ x → (root = 2 * x + 1 ∨ root = 2 * x + 2) → (c = 2 * root + 1 ∨ c = 2 * root + 2) → c < hi → lt (hp l f x) (hp l f c) = false
theorem Sift.start {lo hi f : Nat} {l : List α} (h : Heap lt (lo + 1) hi f l) : Sift lt lo hi f lo l :=
 ⟨fun x c h1 h2 h3 h4 => h x c (by omega) h3 h4, fun x c h1 h2 => by omega⟩
theorem Z9c {l : List α} {f i j k : Nat} (hi : f + i < l.length) (hj : f + j < l.length) : hp (swp l (f + i) (f + j)) f k = if k = j then hp l f i else if k = i then hp l f j else hp l f k := by
 unfold hp; rw [Z3a hi hj]; simp only [Nat.add_left_cancel_iff]
theorem Sift.step (hO : LtOK lt) {lo hi f root c0 : Nat} {l : List α} (h : Sift lt lo hi f root l) (hlo : lo ≤ root) (hc : c0 = 2 * root + 1 ∨ c0 = 2 * root + 2) (hch : c0 < hi) (hl : f + hi ≤ l.length)
  (hmax : ∀ c, (c = 2 * root + 1 ∨ c = 2 * root + 2) → c < hi → lt (hp l f c0) (hp l f c) = false) (hlt : lt (hp l f root) (hp l f c0) = true) : Sift lt lo hi f c0 (swp l (f + root) (f + c0)) := by
 have h1 : f + root < l.length := by omega
 have h2 : f + c0 < l.length := by omega
 refine ⟨fun x c hx hne hcx hcl => ?_, fun x c hx hcx hcc hcl => ?_⟩
 ·rw [Z9c h1 h2, Z9c h1 h2, if_neg hne]
  by_cases e : x = root
  ·subst e
   rw [if_pos rfl]
   by_cases e2 : c = c0
   ·subst e2; rw [if_pos rfl]; exact hO.asy _ _ hlt
   ·rw [if_neg e2, if_neg (by omega)]; exact hmax c hcx hcl
  ·rw [if_neg e, if_neg (by omega : c ≠ c0)]
   by_cases e2 : c = root
   ·subst e2; rw [if_pos rfl]; exact h.two x c0 hx hcx hc hch
   ·rw [if_neg e2]; exact h.one x c hx e hcx hcl
 ·have e : x = root := by omega
  subst e
  rw [Z9c h1 h2, Z9c h1 h2, if_neg (by omega), if_pos rfl, if_neg (by omega), if_neg (by omega)]
  exact h.one c0 c (by omega) (by omega) hcc hcl
theorem Sift.leaf {lo hi f root : Nat} {l : List α} (h : Sift lt lo hi f root l) (hc : hi ≤ 2 * root + 1) : Heap lt lo hi f l := fun x c h1 h2 h3 => by
 by_cases e : x = root
 ·subst e; omega
 ·exact h.one x c h1 e h2 h3
theorem Sift.stop (hO : LtOK lt) {lo hi f root c0 : Nat} {l : List α} (h : Sift lt lo hi f root l) (hmax : ∀ c, (c = 2 * root + 1 ∨ c = 2 * root + 2) → c < hi → lt (hp l f c0) (hp l f c) = false) (hs : lt (hp l f root) (hp l f c0) = false) : Heap lt lo hi f l := fun x c h1 h2 h3 => by
 by_cases e : x = root
 ·subst e; exact hO.tr _ _ _ (hmax c h2 h3) hs
 ·exact h.one x c h1 e h2 h3
theorem Heap.top (hO : LtOK lt) {hi f : Nat} {l : List α} (h : Heap lt 0 hi f l) : ∀ x, x < hi → lt (hp l f 0) (hp l f x) = false := by
 intro x
 induction x using Nat.strongRecOn with
 | _ x ih =>
  intro hx
  by_cases e : x = 0
  ·subst e; exact hO.irr _
  ·exact hO.tr _ _ _ (h ((x - 1) / 2) x (by omega) (by omega) hx) (ih ((x - 1) / 2) (by omega) (by omega))
theorem Heap.none {hi f : Nat} {l : List α} {lo : Nat} (h : hi ≤ 2 * lo + 1) : Heap lt lo hi f l := fun x c h1 h2 h3 => by omega
structure Pops (lt : α → α → Bool) (a b i : Nat) (l : List α) : Prop where
 heap : Heap lt 0 i a l
 srt : SOn lt (a + i) b l
 le : ∀ x y, a ≤ x → x < a + i → a + i ≤ y → y < b → lt (l.getD y default) (l.getD x default) = false
theorem Pops.start {a b : Nat} {l : List α} (hab : a ≤ b) (h : Heap lt 0 (b - a) a l) : Pops lt a b (b - a) l :=
 ⟨h, fun i j h1 h2 h3 => by omega, fun x y h1 h2 h3 h4 => by omega⟩
theorem Pops.swap (hO : LtOK lt) {a b i : Nat} {l : List α} (h : Pops lt a b (i + 1) l) (hb : a + i < b) (hl : b ≤ l.length) :
  Heap lt 1 i a (swp l a (a + i)) ∧ SOn lt (a + i) b (swp l a (a + i)) ∧ ∀ x y, a ≤ x → x < a + i → a + i ≤ y → y < b → lt ((swp l a (a + i)).getD y default) ((swp l a (a + i)).getD x default) = false := by
 have ha : a < l.length := by omega
 have hi : a + i < l.length := by omega
 have top := h.heap.top hO
 have htop : ∀ x, a ≤ x → x < a + (i + 1) → lt (l.getD a default) (l.getD x default) = false := fun x h1 h2 => by
  have := top (x - a) (by omega)
  unfold hp at this
  rwa [show a + (x - a) = x from by omega, Nat.add_zero] at this
 refine ⟨fun x c h1 h2 h3 => ?_, fun x y h1 h2 h3 => ?_, fun x y h1 h2 h3 h4 => ?_⟩
 ·have := h.heap x c (by omega) h2 (by omega)
  unfold hp at this ⊢
  rwa [Z1s ha hi (by omega) (by omega), Z1s ha hi (by omega) (by omega)]
 ·by_cases e : y = a + i
  ·have : x = a + i := by omega
   subst e; subst this; exact hO.irr _
  ·rw [Z1s ha hi (by omega : y ≠ a) e]
   by_cases e2 : x = a + i
   ·subst e2; rw [Zac ha hi]; exact h.le a y (by omega) (by omega) (by omega) h3
   ·rw [Z1s ha hi (by omega) e2]; exact h.srt x y (by omega) h2 h3
 ·have hx : ∃ z, a ≤ z ∧ z < a + (i + 1) ∧ (swp l a (a + i)).getD x default = l.getD z default := by
   by_cases e : x = a
   ·subst e; exact ⟨x + i, by omega, by omega, Z6z ha hi⟩
   ·exact ⟨x, h1, by omega, Z1s ha hi e (by omega)⟩
  obtain ⟨z, z1, z2, z3⟩ := hx
  rw [z3]
  by_cases e : y = a + i
  ·subst e; rw [Zac ha hi]; exact htop z z1 z2
  ·rw [Z1s ha hi (by omega) e]; exact h.le z y z1 z2 (by omega) h4
theorem Pops.sift {a b i : Nat} {l m : List α} (hs : SOn lt (a + i) b l) (hle : ∀ x y, a ≤ x → x < a + i → a + i ≤ y → y < b → lt (l.getD y default) (l.getD x default) = false) (h : Sw a (a + i) l m) (hh : Heap lt 0 i a m) : Pops lt a b i m := by
 refine ⟨hh, fun x y h1 h2 h3 => ?_, fun x y h1 h2 h3 h4 => ?_⟩
 ·rw [h.out (.inr h1), h.out (.inr (by omega : a + i ≤ y))]; exact hs x y h1 h2 h3
 ·rw [h.out (.inr h3)]
  exact h.all (Q := fun z => lt (l.getD y default) z = false) (fun k h5 h6 => hle k y h5 h6 h3 h4) x h1 h2
structure Part (lt : α → α → Bool) (a b i j : Nat) (l : List α) : Prop where
 lo : ∀ k, a < k → k < i → lt (l.getD k default) (l.getD a default) = true
 hi : ∀ k, j < k → k < b → lt (l.getD k default) (l.getD a default) = false
structure PartR (lt : α → α → Bool) (a b m : Nat) (l : List α) : Prop where
 lo : ∀ k, a ≤ k → k < m → lt (l.getD k default) (l.getD m default) = true
 hi : ∀ k, m < k → k < b → lt (l.getD k default) (l.getD m default) = false
theorem Part.swap {a b i j : Nat} {l : List α} (h : Part lt a b i j l) (hai : a < i) (hij : i ≤ j) (hj : j < b) (hl : b ≤ l.length) (h1 : lt (l.getD i default) (l.getD a default) = false) (h2 : lt (l.getD j default) (l.getD a default) = true) :
  Part lt a b (i + 1) (j - 1) (swp l i j) := by
 have x : i < l.length := by omega
 have y : j < l.length := by omega
 refine ⟨fun k k1 k2 => ?_, fun k k1 k2 => ?_⟩
 ·rw [Z1s x y (by omega : a ≠ i) (by omega)]
  by_cases e : k = i
  ·subst e; rw [Z6z x y]; exact h2
  ·rw [Z1s x y e (by omega)]; exact h.lo k k1 (by omega)
 ·rw [Z1s x y (by omega : a ≠ i) (by omega)]
  by_cases e : k = j
  ·subst e; rw [Zac x y]; exact h1
  ·rw [Z3a x y, if_neg e, if_neg (by omega)]; exact h.hi k (by omega) k2
theorem Part.fin {a b i j : Nat} {l : List α} (h : Part lt a b i j l) (hij : i = j + 1) (ha : a ≤ j) (hj : j < b) (hl : b ≤ l.length) (hai : a < i) : PartR lt a b j (swp l j a) := by
 have x : j < l.length := by omega
 have y : a < l.length := by omega
 refine ⟨fun k k1 k2 => ?_, fun k k1 k2 => ?_⟩
 ·rw [Z6z x y]
  by_cases e : k = a
  ·subst e; rw [Zac x y]; exact h.lo j (by omega) (by omega)
  ·rw [Z1s x y (by omega) e]; exact h.lo k (by omega) (by omega)
 ·rw [Z6z x y, Z1s x y (by omega) (by omega)]; exact h.hi k k1 k2
structure PartE (lt : α → α → Bool) (a b i j : Nat) (l : List α) : Prop where
 lo : ∀ k, a < k → k < i → lt (l.getD a default) (l.getD k default) = false
 hi : ∀ k, j < k → k < b → lt (l.getD a default) (l.getD k default) = true
theorem PartE.swap {a b i j : Nat} {l : List α} (h : PartE lt a b i j l) (hai : a < i) (hij : i ≤ j) (hj : j < b) (hl : b ≤ l.length) (h1 : lt (l.getD a default) (l.getD i default) = true) (h2 : lt (l.getD a default) (l.getD j default) = false) :
  PartE lt a b (i + 1) (j - 1) (swp l i j) := by
 have x : i < l.length := by omega
 have y : j < l.length := by omega
 refine ⟨fun k k1 k2 => ?_, fun k k1 k2 => ?_⟩
 ·rw [Z1s x y (by omega : a ≠ i) (by omega)]
  by_cases e : k = i
  ·subst e; rw [Z6z x y]; exact h2
  ·rw [Z1s x y e (by omega)]; exact h.lo k k1 (by omega)
 ·rw [Z1s x y (by omega : a ≠ i) (by omega)]
  by_cases e : k = j
  ·subst e; rw [Zac x y]; exact h1
  ·rw [Z3a x y, if_neg e, if_neg (by omega)]; exact h.hi k (by omega) k2
def Bd (lt : α → α → Bool) (a b : Nat) (l : List α) : Prop := a = 0 ∨ ∀ k, a ≤ k → k < b → lt (l.getD k default) (l.getD (a - 1) default) = false
theorem Bd.sw {a b : Nat} {l m : List α} (h : Bd lt a b l) (k : Sw a b l m) : Bd lt a b m := by
 rcases h with h | h
 ·exact .inl h
 ·by_cases e : a = 0
  ·exact .inl e
  ·refine .inr ?_
   rw [k.out (.inl (by omega : a - 1 < a))]
   exact k.all (Q := fun z => lt z (l.getD (a - 1) default) = false) h
structure Rest (lt : α → α → Bool) (a0 b0 : Nat) (l0 : List α) (a b : Nat) (l : List α) : Prop where
 ha : a0 ≤ a
 hb : b ≤ b0
 hab : a ≤ b
 sw : Sw a0 b0 l0 l
 bd : Bd lt a b l
 fin : ∀ m, Sw a b l m → SOn lt a b m → SOn lt a0 b0 m
theorem Rest.start {a b : Nat} {l : List α} (hab : a ≤ b) (h : Bd lt a b l) : Rest lt a b l a b l := ⟨Nat.le_refl _, Nat.le_refl _, hab, .refl, h, fun m _ h => h⟩
theorem Rest.move {a0 b0 a b : Nat} {l0 l m : List α} (h : Rest lt a0 b0 l0 a b l) (hl : b0 ≤ l0.length) (k : Sw a b l m) : Rest lt a0 b0 l0 a b m :=
 ⟨h.ha, h.hb, h.hab, h.sw.trans (k.mono h.ha h.hb (by rw [h.sw.len]; exact hl)), h.bd.sw k, fun r hr hs => h.fin r (k.trans hr) hs⟩
theorem Rest.equal (hO : LtOK lt) {a0 b0 a b i j : Nat} {l0 l : List α} (h : Rest lt a0 b0 l0 a b l) (hl : b0 ≤ l0.length) (ha : 0 < a) (hp : lt (l.getD (a - 1) default) (l.getD a default) = false) (h2 : PartE lt a b i j l) (hij : i = j + 1) (hai : a < i) (hib : i ≤ b) : Rest lt a0 b0 l0 i b l := by
 have hbd : ∀ k, a ≤ k → k < b → lt (l.getD k default) (l.getD (a - 1) default) = false := by
  rcases h.bd with h3 | h3
  ·omega
  ·exact h3
 have hll : b ≤ l.length := by rw [h.sw.len]; have := h.hb; omega
 have lo : ∀ k, a ≤ k → k < i → lt (l.getD a default) (l.getD k default) = false := fun k k1 k2 => by
  by_cases e : k = a
  ·subst e; exact hO.irr _
  ·exact h2.lo k (by omega) k2
 refine ⟨by have := h.ha; omega, h.hb, hib, h.sw, .inr fun k k1 k2 => ?_, fun m hm hs => ?_⟩
 ·exact hO.tr _ _ _ (lo (i - 1) (by omega) (by omega)) (hO.asy _ _ (h2.hi k (by omega) k2))
 ·refine h.fin m (hm.mono (by omega) (Nat.le_refl _) hll) ?_
  intro x y h1 h3 h4
  by_cases e : i ≤ x
  ·exact hs x y e h3 h4
  ·rw [hm.out (.inl (by omega : x < i))]
   by_cases e2 : i ≤ y
   ·have := hm.all (Q := fun z => lt (l.getD a default) z = true) (fun k k1 k2 => h2.hi k (by omega) k2) y e2 h4
    exact hO.tr _ _ _ (lo x h1 (by omega)) (hO.asy _ _ this)
   ·rw [hm.out (.inl (by omega : y < i))]
    exact hO.tr _ _ _ (lo x h1 (by omega)) (hO.tr _ _ _ hp (hbd y (by omega) h4))
theorem PartR.swL {a b m : Nat} {l r : List α} (h : PartR lt a b m l) (k : Sw a m l r) : PartR lt a b m r := by
 refine ⟨?_, fun x h1 h2 => ?_⟩
 ·rw [k.out (.inr (Nat.le_refl m))]
  exact k.all (Q := fun z => lt z (l.getD m default) = true) h.lo
 ·rw [k.out (.inr (Nat.le_refl m)), k.out (.inr (by omega : m ≤ x))]; exact h.hi x h1 h2
theorem PartR.swR {a b m : Nat} {l r : List α} (h : PartR lt a b m l) (k : Sw (m + 1) b l r) : PartR lt a b m r := by
 refine ⟨fun x h1 h2 => ?_, fun x h1 h2 => ?_⟩
 ·rw [k.out (.inl (by omega : x < m + 1)), k.out (.inl (by omega : m < m + 1))]; exact h.lo x h1 h2
 ·rw [k.out (.inl (by omega : m < m + 1))]
  exact k.all (Q := fun z => lt z (l.getD m default) = false) (fun k k1 k2 => h.hi k (by omega) k2) x (by omega) h2
theorem PartR.glue (hO : LtOK lt) {a b m : Nat} {l : List α} (h : PartR lt a b m l) (h1 : SOn lt a m l) (h2 : SOn lt (m + 1) b l) : SOn lt a b l := by
 intro x y k1 k2 k3
 rcases Nat.lt_trichotomy y m with e | e | e
 ·exact h1 x y k1 k2 e
 ·subst e
  by_cases e2 : x = y
  ·subst e2; exact hO.irr _
  ·exact hO.asy _ _ (h.lo x k1 (by omega))
 ·have hy := h.hi y e k3
  rcases Nat.lt_trichotomy x m with e2 | e2 | e2
  ·exact hO.tr _ _ _ (hO.asy _ _ (h.lo x k1 e2)) hy
  ·subst e2; exact hy
  ·exact h2 x y e2 k2 k3
theorem Rest.lower (hO : LtOK lt) {a0 b0 a b m : Nat} {l0 l r : List α} (h : Rest lt a0 b0 l0 a b l) (hl : b0 ≤ l0.length) (hm : a ≤ m ∧ m < b) (hp : PartR lt a b m l) (k : Sw a m l r) (hs : SOn lt a m r) : Rest lt a0 b0 l0 (m + 1) b r := by
 have hll : b ≤ l.length := by rw [h.sw.len]; have := h.hb; omega
 have h2 := h.move hl (k.mono (Nat.le_refl _) (by omega) hll)
 have hp2 := hp.swL k
 refine ⟨by have := h.ha; omega, h.hb, by omega, h2.sw, .inr fun x x1 x2 => hp2.hi x (by omega) x2, fun q hq hsq => ?_⟩
 have hrl : b ≤ r.length := by rw [k.len]; exact hll
 refine h2.fin q (hq.mono (by omega) (Nat.le_refl _) hrl) ?_
 refine (hp2.swR hq).glue hO ?_ hsq
 intro x y x1 x2 x3
 rw [hq.out (.inl (by omega : x < m + 1)), hq.out (.inl (by omega : y < m + 1))]; exact hs x y x1 x2 x3
theorem Rest.upper (hO : LtOK lt) {a0 b0 a b m : Nat} {l0 l r : List α} (h : Rest lt a0 b0 l0 a b l) (hl : b0 ≤ l0.length) (hm : a ≤ m ∧ m < b) (hp : PartR lt a b m l) (k : Sw (m + 1) b l r) (hs : SOn lt (m + 1) b r) : Rest lt a0 b0 l0 a m r := by
 have hll : b ≤ l.length := by rw [h.sw.len]; have := h.hb; omega
 have h2 := h.move hl (k.mono (by omega) (Nat.le_refl _) hll)
 have hp2 := hp.swR k
 have hrl : b ≤ r.length := by rw [k.len]; exact hll
 refine ⟨h.ha, by have := h.hb; omega, hm.1, h2.sw, ?_, fun q hq hsq => ?_⟩
 ·rcases h2.bd with h3 | h3
  ·exact .inl h3
  ·exact .inr fun x x1 x2 => h3 x x1 (by omega)
 refine h2.fin q (hq.mono (Nat.le_refl _) (by omega) hrl) ?_
 refine (hp2.swL hq).glue hO hsq ?_
 intro x y x1 x2 x3
 rw [hq.out (.inr (by omega : m ≤ x)), hq.out (.inr (by omega : m ≤ y))]; exact hs x y x1 x2 x3
theorem SAdj.swp_ge {a u i j : Nat} {l : List α} (h : SAdj lt a u l) (hi : u ≤ i) (hj : u ≤ j) (hil : i < l.length) (hjl : j < l.length) : SAdj lt a u (swp l i j) := fun k h1 h2 => by
 rw [Z1s hil hjl (by omega) (by omega), Z1s hil hjl (by omega) (by omega)]; exact h k h1 h2
theorem SAdj.le {a u v : Nat} {l : List α} (h : SAdj lt a u l) (hv : v ≤ u) : SAdj lt a v l := fun k h1 h2 => h k h1 (by omega)
theorem SAdj.succ {a u : Nat} {l : List α} (h : SAdj lt a u l) (hv : lt (l.getD u default) (l.getD (u - 1) default) = false) : SAdj lt a (u + 1) l := fun k h1 h2 => by
 rcases Nat.lt_succ_iff_lt_or_eq.1 h2 with h3 | h3
 ·exact h k h1 h3
 ·subst h3; exact hv
theorem Bd.gt {a b j : Nat} {l : List α} (h : Bd lt a b l) (h1 : a ≤ j) (h2 : j < b) (h0 : 1 ≤ j) (hlt : lt (l.getD j default) (l.getD (j - 1) default) = true) : a < j := by
 rcases Nat.lt_or_ge a j with h3 | h3
 ·exact h3
 ·have e : j = a := by omega
  subst e
  rcases h with h | h
  ·omega
  ·rw [h j (Nat.le_refl _) h2] at hlt; cases hlt
theorem Bd.le {a b c : Nat} {l : List α} (h : Bd lt a b l) (hc : c ≤ b) : Bd lt a c l := by
 rcases h with h | h
 ·exact .inl h
 ·exact .inr fun k h1 h2 => h k h1 (by omega)
theorem PartR.bd {a b m : Nat} {l : List α} (h : PartR lt a b m l) : Bd lt (m + 1) b l := .inr fun k h1 h2 => h.hi k (by omega) h2
end
end Go.Sx
namespace Go.Sx
open Go
def ltS (a b : Str) : Bool := Op.bytesLess a.toList b.toList
def ddS (o : List Str) (s : Str) : List Str := if inL o s then o else o ++ [s]
def dd (l : List Str) : List Str := l.foldl ddS []
theorem Zaq (l : List Str) (s : Str) : s ∈ dd l ↔ s ∈ l := by
 have key : ∀ (l o : List Str), s ∈ l.foldl ddS o ↔ s ∈ o ∨ s ∈ l := by
  intro l
  induction l with
  | nil => intro o; simp
  | cons x l ih =>
   intro o
   rw [List.foldl_cons, ih]
   unfold ddS
   split
   ·rename_i h
    have h := inL_mem.1 h
    constructor
    ·rintro (h1 | h1); exact .inl h1; exact .inr (List.mem_cons_of_mem _ h1)
    ·rintro (h1 | h1); exact .inl h1; rcases List.mem_cons.1 h1 with rfl | h1; exact .inl h; exact .inr h1
   ·simp [or_assoc]
 simpa [dd] using key l []
theorem Z6j (l : List Str) : (dd l).Nodup := by
 have key : ∀ (l o : List Str), o.Nodup → (l.foldl ddS o).Nodup := by
  intro l
  induction l with
  | nil => intro o h; exact h
  | cons x l ih =>
   intro o h
   refine ih _ ?_
   unfold ddS
   split
   ·exact h
   ·rename_i h1
    rw [List.nodup_append]
    refine ⟨h, by simp, fun a ha b hb => ?_⟩
    rw [List.mem_singleton] at hb; subst hb
    rintro rfl; exact h1 (inL_mem.2 ha)
 exact key l [] List.nodup_nil
def swapS (l : List Str) (i j : Nat) : List Str := (l.set i (l.getD j default)).set j (l.getD i default)
def insK : Nat → List Str → List Str
 | 0, l => l
 | k + 1, l => if ltS (l.getD (k + 1) default) (l.getD k default) then insK k (swapS l (k + 1) k) else l
def outF : Nat → Nat → List Str → List Str
 | 0, _, l => l
 | f + 1, i, l => outF f (i + 1) (insK i l)
def risF (l : List Str) : List Str := outF ((dd l).length - 1) 1 (dd l)
theorem Z5n (l : List Str) (i j : Nat) : (swapS l i j).length = l.length := by simp [swapS]
theorem Z6p : ∀ (k : Nat) (l : List Str), (insK k l).length = l.length
 | 0, _ => rfl
 | k + 1, l => by unfold insK; split; rw [Z6p, Z5n]; rfl
theorem Z5a {l : List Str} {i : Nat} (h : i < l.length) : l.getD i default = l[i] := by simp [List.getD, h]
theorem Zab {l : List Str} {i j : Nat} (hi : i < l.length) (hj : j < l.length) : (swapS l i j).Perm l := by
 unfold swapS
 rw [Z5a hi, Z5a hj]
 exact List.set_set_perm hi hj
theorem Z7z : ∀ (k : Nat) (l : List Str), k < l.length → (insK k l).Perm l
 | 0, _, _ => .refl _
 | k + 1, l, h => by
  unfold insK
  split
  ·exact (Z7z k _ (by rw [Z5n]; omega)).trans (Zab h (by omega))
  ·exact .refl _
theorem Z85 : ∀ (f i : Nat) (l : List Str), i + f ≤ l.length → (outF f i l).Perm l
 | 0, _, _, _ => .refl _
 | f + 1, i, l, h => by
  unfold outF
  exact (Z85 f (i + 1) _ (by rw [Z6p]; omega)).trans (Z7z i l (by omega))
theorem Z3t (l : List Str) : (risF l).Perm (dd l) := by
 unfold risF
 cases h : (dd l).length with
 | zero => exact .refl _
 | succ n => exact Z85 _ _ _ (by omega)
def hasC (p : Prog) (s : Str) : Bool := (clsFind p s).isSome
def addS (p : Prog) (o : List Str) (u : Str) : List Str := if hasC p u && !inL o u then o ++ [u] else o
def addU (p : Prog) (l o : List Str) : List Str := l.foldl (addS p) o
theorem Z91 (p : Prog) : ∀ (l o : List Str), ∃ r, addU p l o = o ++ r
 | [], o => ⟨[], by simp [addU]⟩
 | x :: l, o => by
  obtain ⟨r, h⟩ := Z91 p l (addS p o x)
  have h2 : ∃ r2, addS p o x = o ++ r2 := by unfold addS; split; exact ⟨[x], rfl⟩; exact ⟨[], by simp⟩
  obtain ⟨r2, h2⟩ := h2
  exact ⟨r2 ++ r, by rw [show addU p (x :: l) o = addU p l (addS p o x) from rfl, h, h2]; simp⟩
theorem Z2o (p : Prog) (s : Str) : ∀ (l o : List Str), s ∈ addU p l o ↔ s ∈ o ∨ (s ∈ l ∧ hasC p s = true)
 | [], o => by simp [addU]
 | x :: l, o => by
  rw [show addU p (x :: l) o = addU p l (addS p o x) from rfl, Z2o p s l]
  unfold addS
  cases hx : hasC p x with
  | false =>
   simp only [Bool.false_and, Bool.false_eq_true, if_false, List.mem_cons]
   constructor
   ·rintro (h | ⟨h, h2⟩); exact .inl h; exact .inr ⟨.inr h, h2⟩
   ·rintro (h | ⟨rfl | h, h2⟩); exact .inl h; rw [hx] at h2; cases h2; exact .inr ⟨h, h2⟩
  | true =>
   cases hi : inL o x with
   | true =>
    have hi := inL_mem.1 hi
    simp only [Bool.not_true, Bool.and_false, Bool.false_eq_true, if_false, List.mem_cons]
    constructor
    ·rintro (h | ⟨h, h2⟩); exact .inl h; exact .inr ⟨.inr h, h2⟩
    ·rintro (h | ⟨rfl | h, h2⟩); exact .inl h; exact .inl hi; exact .inr ⟨h, h2⟩
   | false =>
    simp only [Bool.not_false, Bool.and_true, if_true, List.mem_append, List.mem_cons, List.not_mem_nil, or_false]
    constructor
    ·rintro ((h | rfl) | ⟨h, h2⟩); exact .inl h; exact .inr ⟨.inl rfl, hx⟩; exact .inr ⟨.inr h, h2⟩
    ·rintro (h | ⟨rfl | h, h2⟩); exact .inl (.inl h); exact .inl (.inr rfl); exact .inr ⟨h, h2⟩
theorem Z5v (p : Prog) : ∀ (l o : List Str), o.Nodup → (addU p l o).Nodup
 | [], o, h => h
 | x :: l, o, h => by
  refine Z5v p l _ ?_
  unfold addS
  split
  ·rename_i h1
   rw [List.nodup_append]
   refine ⟨h, by simp, fun a ha b hb => ?_⟩
   rw [List.mem_singleton] at hb; subst hb
   rintro rfl
   rw [inL_mem.2 ha] at h1; simp at h1
  ·exact h
theorem Z3p {p : Prog} {s : Str} (h : hasC p s = true) : ∃ c, clsFind p s = some c := Option.isSome_iff_exists.1 h
theorem Z6o {p : Prog} {s : Str} (h : hasC p s = true) : s ∈ p.classes.map Cls.name := by
 obtain ⟨c, h⟩ := Z3p h
 obtain ⟨h1, h2⟩ := Z0p h
 exact List.mem_map.2 ⟨c, h2, h1⟩
structure AncB (p : Prog) (nm : Str) (out : List Str) (i : Nat) : Prop where
 nd : out.Nodup
 has : ∀ x, x ∈ out → hasC p x = true
 snd : ∀ x, x ∈ out → Anc p nm x
 st : hasC p nm = true → nm ∈ out
 cl : ∀ j, j < i → ∀ s, out[j]? = some s → ∀ c, clsFind p s = some c → ∀ u, u ∈ upC c → hasC p u = true → u ∈ out
 le : i ≤ out.length
theorem AncB.len {p : Prog} {nm : Str} {out : List Str} {i : Nat} (h : AncB p nm out i) : out.length ≤ p.classes.length := by
 have := Z1a h.nd (fun x hx => Z6o (h.has x hx))
 simpa using this
theorem AncB.step {p : Prog} {nm : Str} {out : List Str} {i : Nat} (h : AncB p nm out i) (hi : i < out.length) {c : Cls} (hc : clsFind p out[i] = some c) : AncB p nm (addU p (upC c) out) (i + 1) := by
 obtain ⟨r, hr⟩ := Z91 p (upC c) out
 have ha := h.snd _ (List.getElem_mem hi)
 refine ⟨Z5v p _ _ h.nd, ?_, ?_, fun h2 => (Z2o ..).2 (.inl (h.st h2)), ?_, ?_⟩
 ·intro x hx
  rcases (Z2o ..).1 hx with h1 | h1
  ·exact h.has x h1
  ·exact h1.2
 ·intro x hx
  rcases (Z2o ..).1 hx with h1 | h1
  ·exact h.snd x h1
  ·obtain ⟨d, hd⟩ := Z3p h1.2
   exact .step ha hc h1.1 hd
 ·intro j hj s hs d hd u hu hh
  have hjl : j < out.length := by omega
  have hs' : out[j]? = some s := by rw [hr, List.getElem?_append_left hjl] at hs; exact hs
  rcases Nat.lt_succ_iff_lt_or_eq.1 hj with h1 | h1
  ·exact (Z2o ..).2 (.inl (h.cl j h1 s hs' d hd u hu hh))
  ·subst h1
   rw [List.getElem?_eq_getElem hjl] at hs'; cases hs'
   rw [hc] at hd; cases hd
   exact (Z2o ..).2 (.inr ⟨hu, hh⟩)
 ·rw [hr, List.length_append]; omega
theorem AncB.fin {p : Prog} {nm : Str} {out : List Str} {i : Nat} (h : AncB p nm out i) (hi : ¬ i < out.length) (s : Str) : s ∈ out ↔ Anc p nm s := by
 refine ⟨h.snd s, fun ha => ?_⟩
 induction ha with
 | base hc => exact h.st (by simp [hasC, hc])
 | step _ hc hu hd ih =>
  obtain ⟨j, hj, e⟩ := List.getElem_of_mem ih
  exact h.cl j (by omega) _ (by rw [List.getElem?_eq_getElem hj, e]) _ hc _ hu (by simp [hasC, hd])
noncomputable def chk1 (p : Prog) (c : Cls) : Int :=
 if !beqS c.super zS && !hasC p c.super then 7 else if c.ifaces.any fun s => !hasC p s then 7 else if !beqS c.super zS && ifaceP p c.super then 9 else if c.ifaces.any fun s => !ifaceP p s then 9 else 0
noncomputable def chk2 (p : Prog) (c : Cls) : Bool := (!beqS c.super zS && subP p c.super c.name) || c.ifaces.any fun s => subP p s c.name
noncomputable def checkP (p : Prog) : Int × Str := match p.classes.find? fun c => chk1 p c != 0 with
 | some c => (chk1 p c, c.name)
 | none => match p.classes.find? fun c => chk2 p c with
  | some c => (8, c.name)
  | none => (0, zS)
structure SoundP (p : Prog) : Prop where
 one : ∀ c, c ∈ p.classes → chk1 p c = 0
 two : ∀ c, c ∈ p.classes → chk2 p c = false
noncomputable def f1 (p : Prog) (c : Cls) : Bool := chk1 p c != 0
def nNo : Str := ⟨#[78, 111]⟩
def nearK (k : Int) : Int := (k.tmod 7 + 7).tmod 7
def nearF (p : Prog) (f : Fact) (k : Int) : Fact :=
 ⟨nearK f.kind, if nearK f.kind = 3 ∨ nearK f.kind = 5 then (if 0 < p.classes.length ∧ k < 250 then (p.classes.getD (k.tmod p.classes.length).toNat default).name else nNo) else zS⟩
end Go.Sx
namespace Go.Sx
open Go
theorem Zdb : ∀ l : List UInt8, Op.bytesLess l l = false
 | [] => rfl
 | x :: l => by simp [Op.bytesLess, Zdb l]
theorem Zda : ∀ l r : List UInt8, Op.bytesLess l r = true → Op.bytesLess r l = false
 | [], [], h => rfl
 | [], _ :: _, h => rfl
 | _ :: _, [], h => by simp [Op.bytesLess] at h
 | x :: l, y :: r, h => by
  simp only [Op.bytesLess] at h ⊢
  by_cases h1 : x < y
  ·have h2 : ¬ y < x := fun h => by simp [UInt8.lt_iff_toNat_lt] at h h1; omega
   have h3 : ¬ y = x := fun e => by subst e; simp at h1
   simp [h2, h3]
  ·by_cases h2 : x = y
   ·subst h2; simp at h; simp [Zda l r h]
   ·simp [h1, h2] at h
theorem Zeo : ∀ x y z : List UInt8, Op.bytesLess y x = false → Op.bytesLess z y = false → Op.bytesLess z x = false
 | [], _, [], _, _ => rfl
 | [], _, _ :: _, _, _ => rfl
 | _ :: _, [], _, h, _ => by simp [Op.bytesLess] at h
 | _ :: _, _ :: _, [], _, h => by simp [Op.bytesLess] at h
 | a :: x, b :: y, c :: z, h, k => by
  simp only [Op.bytesLess] at h k ⊢
  have ih := Zeo x y z
  simp only [UInt8.lt_iff_toNat_lt, Bool.or_eq_false_iff, Bool.and_eq_false_iff, decide_eq_false_iff_not, beq_eq_false_iff_ne, ne_eq] at h k ⊢
  refine ⟨by omega, ?_⟩
  by_cases e : c = a
  ·subst e
   have e2 : b = c := UInt8.toNat_inj.1 (by omega)
   subst e2
   exact .inr (ih (h.2.resolve_left (fun h => h rfl)) (k.2.resolve_left (fun h => h rfl)))
  ·exact .inl e
theorem ltS_ok : LtOK ltS := ⟨fun x => Zdb _, fun x y h => Zda _ _ h, fun x y z h k => Zeo _ _ _ h k⟩
end Go.Sx
