/- YtecfpjokgjdjcaaRaB1: texts of this claim, one behind the other. -/
import Derived.Test.YtecfpjokgjdjcaaProg
import Derived.AtR
import Derived.Test.YtecfpjokgjdjcaaRaB0
set_option linter.unusedVariables false
set_option linter.unusedSimpArgs false
set_option linter.unusedSectionVars false
set_option linter.unnecessarySimpa false
namespace Go.Sx
open Go
abbrev Str := ByteArray
abbrev iA (n : Int) : AV := .v (.int .i64 n)
abbrev uA (n : Int) : AV := .v (.int .u8 n)
abbrev sA (s : Str) : AV := .v (.string s)
abbrev bA (b : Bool) : AV := .v (.bool b)
def row1 {α : Type} (f : α → AV) (l : List α) : AV := .lst (l.map fun x => [f x])
structure Ty where
 kind : Int
 cls : Str
 deriving DecidableEq
structure Instr where
 op : Int
 a : Int
 b : Int
 c : Int
 k : Int
 cls : Str
 name : Str
 desc : Str
 args : List Int
 deriving DecidableEq
structure Fld where
 name : Str
 type : Ty
 static : Bool
 deriving DecidableEq
structure Meth where
 name : Str
 desc : Str
 static : Bool
 abs : Bool
 regs : Int
 code : List Instr
 deriving DecidableEq
structure Cls where
 name : Str
 super : Str
 iface : Bool
 abs : Bool
 ifaces : List Str
 fields : List Fld
 methods : List Meth
 deriving DecidableEq
structure MRef where
 cls : Str
 name : Str
 desc : Str
 deriving DecidableEq
structure Prog where
 classes : List Cls
 names : List Str
 entry : MRef
 deriving DecidableEq
structure Fact where
 kind : Int
 cls : Str
 deriving DecidableEq
def Ty.cells (t : Ty) : List AV := [iA t.kind, sA t.cls]
def Instr.cells (i : Instr) : List AV := [iA i.op, iA i.a, iA i.b, iA i.c, iA i.k, sA i.cls, sA i.name, sA i.desc, row1 iA i.args]
def Fld.cells (f : Fld) : List AV := [sA f.name, iA f.type.kind, sA f.type.cls, bA f.static]
def Meth.cells (m : Meth) : List AV := [sA m.name, sA m.desc, bA m.static, bA m.abs, iA m.regs, .lst (m.code.map Instr.cells)]
def Cls.cells (c : Cls) : List AV := [sA c.name, sA c.super, bA c.iface, bA c.abs, row1 sA c.ifaces, .lst (c.fields.map Fld.cells), .lst (c.methods.map Meth.cells)]
def MRef.cells (m : MRef) : List AV := [sA m.cls, sA m.name, sA m.desc]
def Prog.cells (p : Prog) : List AV := [.lst (p.classes.map Cls.cells), row1 sA p.names, sA p.entry.cls, sA p.entry.name, sA p.entry.desc]
def Fact.cells (f : Fact) : List AV := [iA f.kind, sA f.cls]
def i64 (n : Int) : Prop := -9223372036854775808 ≤ n ∧ n ≤ 9223372036854775807
def small (n : Nat) : Prop := n ≤ 140737488351232
structure Ty.ok (t : Ty) : Prop where
 kind : i64 t.kind
 cls : small t.cls.size
structure Instr.ok (i : Instr) : Prop where
 op : i64 i.op
 a : i64 i.a
 b : i64 i.b
 c : i64 i.c
 k : i64 i.k
 cls : small i.cls.size
 name : small i.name.size
 desc : small i.desc.size
 args : small i.args.length ∧ ∀ x, x ∈ i.args → i64 x
structure Fld.ok (f : Fld) : Prop where
 name : small f.name.size
 type : f.type.ok
structure Meth.ok (m : Meth) : Prop where
 name : small m.name.size
 desc : small m.desc.size
 regs : i64 m.regs
 code : small m.code.length ∧ ∀ x, x ∈ m.code → x.ok
structure Cls.ok (c : Cls) : Prop where
 name : small c.name.size
 super : small c.super.size
 ifaces : small c.ifaces.length ∧ ∀ x, x ∈ c.ifaces → small x.size
 fields : small c.fields.length ∧ ∀ x, x ∈ c.fields → x.ok
 methods : small c.methods.length ∧ ∀ x, x ∈ c.methods → x.ok
structure MRef.ok (m : MRef) : Prop where
 cls : small m.cls.size
 name : small m.name.size
 desc : small m.desc.size
structure Prog.ok (p : Prog) : Prop where
 classes : small p.classes.length ∧ ∀ x, x ∈ p.classes → x.ok
 names : small p.names.length ∧ ∀ x, x ∈ p.names → small x.size
 entry : p.entry.ok
structure Fact.ok (f : Fact) : Prop where
 kind : i64 f.kind
 cls : small f.cls.size
def Dec (P : Program) (t : TypeId) {α : Type} (cells : α → List AV) (ok : α → Prop) : Prop := ∀ xs, TV P t xs → ∃ x : α, xs = cells x ∧ ok x
def fts (P : Program) (t : TypeId) : Option (List TypeId) := match P.underlying t with
 | some (.struct fs) => some (fs.toList.map (·.type))
 | _ => none
theorem Zhp {P : Program} {t : TypeId} (h : (fts P t).isSome = true) : ∃ fs, P.underlying t = some (.struct fs) := by
 unfold fts at h
 split at h
 ·exact ⟨_, by assumption⟩
 ·cases h
inductive TVF (P : Program) : List TypeId → List AV → Prop
 | nil : TVF P [] []
 | cons {t : TypeId} {ts : List TypeId} {x y : List AV} (h : TV P t x) (r : TVF P ts y) : TVF P (t :: ts) (x ++ y)
section
variable {P : Program} {t : TypeId}
theorem Zhd (hu : P.underlying t = some (.int .u8)) : Dec P t (fun n => [uA n]) (fun n => 0 ≤ n ∧ n ≤ 255) := by
 intro xs h
 cases h with
 | int n h hn => rw [hu] at h; cases h; exact ⟨n, rfl, _root_.Go.bounds_u8 hn⟩
 | _ => simp_all
theorem dec_str (hu : P.underlying t = some .string) : Dec P t (fun s => [sA s]) (fun s => small s.size) := by
 intro xs h
 cases h with
 | string s h hs => exact ⟨s, rfl, hs⟩
 | _ => simp_all
theorem Zfn {α : Type} {cells : α → List AV} {ok : α → Prop} : ∀ (es : List (List AV)), (∀ x : List AV, x ∈ es → ∃ y : α, x = cells y ∧ ok y) → ∃ l : List α, es = l.map cells ∧ ∀ x, x ∈ l → ok x
 | [], _ => ⟨[], rfl, nofun⟩
 | e :: es, h => by
  obtain ⟨y, rfl, hy⟩ := h e List.mem_cons_self
  obtain ⟨l, rfl, hl⟩ := Zfn es (fun x hx => h x (List.mem_cons_of_mem _ hx))
  refine ⟨y :: l, rfl, fun x hx => ?_⟩
  rcases List.mem_cons.1 hx with rfl | hx
  ·exact hy
  ·exact hl x hx
theorem dec_list {e : TypeId} {α : Type} {cells : α → List AV} {ok : α → Prop} (hu : P.underlying t = some (.slice e)) (hb : Nat.blt 0 (P.bytesOf e) = true) (he : Dec P e cells ok) :
  Dec P t (fun l : List α => [.lst (l.map cells)]) (fun l => small l.length ∧ ∀ x, x ∈ l → ok x) := by
 intro xs h
 cases h with
 | slice es h hl hm hes =>
  rw [hu] at h; cases h
  obtain ⟨l, rfl, hok⟩ := Zfn es (fun x hx => he x (hes x hx))
  refine ⟨l, rfl, ?_, hok⟩
  have hb : 0 < P.bytesOf e := Nat.blt_eq ▸ hb
  rw [List.length_map] at hl
  have h1 : l.length * 1 ≤ l.length * P.bytesOf e := Nat.mul_le_mul_left _ hb
  have h2 : reachBytes = 140737488351232 := rfl
  unfold small
  omega
 | _ => simp_all
section
variable {i s b li ls tt ti tf tm tc tr lI lF lM lC : TypeId}
end
end
theorem txs_one {P : Program} {α : Type} {f : α → AV} {ok : α → Prop} {t : TypeId} {ts : List TypeId} {xs : List AV} (hd : Dec P t (fun a => [f a]) ok) (hn : isAggT P t = false) (h : TXs P (t :: ts) xs) :
  ∃ (a : α) (ys : List AV), xs = f a :: ys ∧ ok a ∧ TXs P ts ys := by
 cases h with
 | agg hn' _ _ => rw [hn] at hn'; cases hn'
 | one _ h r => obtain ⟨a, e, ha⟩ := hd _ h; cases e; exact ⟨a, _, rfl, ha, r⟩
end Go.Sx
namespace Go.Sx
open Go
instance : TK Proofs.Try.prog 0 false 1 := ⟨by kernel_rfl⟩
instance : TK Proofs.Try.prog 1 false 1 := ⟨by kernel_rfl⟩
instance : ZC Proofs.Try.prog 1 [.nilFunc] := ⟨by kernel_rfl⟩
instance : TK Proofs.Try.prog 2 false 1 := ⟨by kernel_rfl⟩
instance : UD Proofs.Try.prog 2 (.int .i64) := ⟨by kernel_rfl⟩
instance : ZC Proofs.Try.prog 2 [.int .i64 0] := ⟨by kernel_rfl⟩
instance : TK Proofs.Try.prog 3 false 1 := ⟨by kernel_rfl⟩
instance : UD Proofs.Try.prog 3 (.int .i64) := ⟨by kernel_rfl⟩
instance : ZC Proofs.Try.prog 3 [.int .i64 0] := ⟨by kernel_rfl⟩
instance : TK Proofs.Try.prog 4 false 1 := ⟨by kernel_rfl⟩
instance : UD Proofs.Try.prog 4 (.bool) := ⟨by kernel_rfl⟩
instance : ZC Proofs.Try.prog 4 [.bool false] := ⟨by kernel_rfl⟩
instance : TK Proofs.Try.prog 5 false 1 := ⟨by kernel_rfl⟩
instance : UD Proofs.Try.prog 5 (.int .u8) := ⟨by kernel_rfl⟩
instance : ZC Proofs.Try.prog 5 [.int .u8 0] := ⟨by kernel_rfl⟩
instance : TK Proofs.Try.prog 9 false 1 := ⟨by kernel_rfl⟩
instance : UD Proofs.Try.prog 9 (.string) := ⟨by kernel_rfl⟩
instance : ZC Proofs.Try.prog 9 [.string ⟨#[]⟩] := ⟨by kernel_rfl⟩
instance : TK Proofs.Try.prog 20 false 1 := ⟨by kernel_rfl⟩
instance : ZC Proofs.Try.prog 20 [.nilIface] := ⟨by kernel_rfl⟩
instance : TK Proofs.Try.prog 23 false 1 := ⟨by kernel_rfl⟩
instance : UD Proofs.Try.prog 23 (.slice 9) := ⟨by kernel_rfl⟩
instance : ZC Proofs.Try.prog 23 [.slice none 0 0] := ⟨by kernel_rfl⟩
instance : TK Proofs.Try.prog 30 false 1 := ⟨by kernel_rfl⟩
instance : UD Proofs.Try.prog 30 (.int .i64) := ⟨by kernel_rfl⟩
instance : ZC Proofs.Try.prog 30 [.int .i64 0] := ⟨by kernel_rfl⟩
instance : TK Proofs.Try.prog 31 false 1 := ⟨by kernel_rfl⟩
instance : TK Proofs.Try.prog 33 false 1 := ⟨by kernel_rfl⟩
instance : UD Proofs.Try.prog 33 (.slice 5) := ⟨by kernel_rfl⟩
instance : ZC Proofs.Try.prog 33 [.slice none 0 0] := ⟨by kernel_rfl⟩
instance : TK Proofs.Try.prog 34 false 1 := ⟨by kernel_rfl⟩
instance : TK Proofs.Try.prog 37 false 1 := ⟨by kernel_rfl⟩
instance : UD Proofs.Try.prog 37 (.pointer 68) := ⟨by kernel_rfl⟩
instance : ZC Proofs.Try.prog 37 [.pointer none] := ⟨by kernel_rfl⟩
instance : TK Proofs.Try.prog 49 true 2 := ⟨by kernel_rfl⟩
instance : FO Proofs.Try.prog 49 0 0 30 := ⟨by kernel_rfl⟩
instance : FO Proofs.Try.prog 49 1 1 3 := ⟨by kernel_rfl⟩
instance : ZC Proofs.Try.prog 49 [.int .i64 0, .int .i64 0] := ⟨by kernel_rfl⟩
instance : TK Proofs.Try.prog 50 true 2 := ⟨by kernel_rfl⟩
instance : FO Proofs.Try.prog 50 0 0 30 := ⟨by kernel_rfl⟩
instance : FO Proofs.Try.prog 50 1 1 3 := ⟨by kernel_rfl⟩
instance : ZC Proofs.Try.prog 50 [.int .i64 0, .int .i64 0] := ⟨by kernel_rfl⟩
instance : TK Proofs.Try.prog 55 false 1 := ⟨by kernel_rfl⟩
instance : ZC Proofs.Try.prog 55 [.nilFunc] := ⟨by kernel_rfl⟩
instance : TK Proofs.Try.prog 57 false 1 := ⟨by kernel_rfl⟩
instance : UD Proofs.Try.prog 57 (.map 9 4) := ⟨by kernel_rfl⟩
instance : ZC Proofs.Try.prog 57 [.map none] := ⟨by kernel_rfl⟩
instance : TK Proofs.Try.prog 60 false 1 := ⟨by kernel_rfl⟩
instance : UD Proofs.Try.prog 60 (.int .u64) := ⟨by kernel_rfl⟩
instance : ZC Proofs.Try.prog 60 [.int .u64 0] := ⟨by kernel_rfl⟩
instance : TK Proofs.Try.prog 67 true 5 := ⟨by kernel_rfl⟩
instance : FO Proofs.Try.prog 67 0 0 33 := ⟨by kernel_rfl⟩
instance : FO Proofs.Try.prog 67 1 1 3 := ⟨by kernel_rfl⟩
instance : FO Proofs.Try.prog 67 2 2 3 := ⟨by kernel_rfl⟩
instance : FO Proofs.Try.prog 67 3 3 50 := ⟨by kernel_rfl⟩
instance : ZC Proofs.Try.prog 67 [.slice none 0 0, .int .i64 0, .int .i64 0, .int .i64 0, .int .i64 0] := ⟨by kernel_rfl⟩
instance : TK Proofs.Try.prog 68 true 5 := ⟨by kernel_rfl⟩
instance : FO Proofs.Try.prog 68 0 0 33 := ⟨by kernel_rfl⟩
instance : FO Proofs.Try.prog 68 1 1 3 := ⟨by kernel_rfl⟩
instance : FO Proofs.Try.prog 68 2 2 3 := ⟨by kernel_rfl⟩
instance : FO Proofs.Try.prog 68 3 3 50 := ⟨by kernel_rfl⟩
instance : ZC Proofs.Try.prog 68 [.slice none 0 0, .int .i64 0, .int .i64 0, .int .i64 0, .int .i64 0] := ⟨by kernel_rfl⟩
instance : TK Proofs.Try.prog 82 false 1 := ⟨by kernel_rfl⟩
instance : UD Proofs.Try.prog 82 (.int .u64) := ⟨by kernel_rfl⟩
instance : ZC Proofs.Try.prog 82 [.int .u64 0] := ⟨by kernel_rfl⟩
instance : TK Proofs.Try.prog 83 true 10 := ⟨by kernel_rfl⟩
instance : UD Proofs.Try.prog 83 (.array 10 5) := ⟨by kernel_rfl⟩
instance : ZC Proofs.Try.prog 83 [.int .u8 0, .int .u8 0, .int .u8 0, .int .u8 0, .int .u8 0, .int .u8 0, .int .u8 0, .int .u8 0, .int .u8 0, .int .u8 0] := ⟨by kernel_rfl⟩
instance : TK Proofs.Try.prog 93 true 2 := ⟨by kernel_rfl⟩
instance : FO Proofs.Try.prog 93 0 0 50 := ⟨by kernel_rfl⟩
instance : ZC Proofs.Try.prog 93 [.int .i64 0, .int .i64 0] := ⟨by kernel_rfl⟩
instance : TK Proofs.Try.prog 94 true 2 := ⟨by kernel_rfl⟩
instance : FO Proofs.Try.prog 94 0 0 50 := ⟨by kernel_rfl⟩
instance : ZC Proofs.Try.prog 94 [.int .i64 0, .int .i64 0] := ⟨by kernel_rfl⟩
instance : TK Proofs.Try.prog 98 false 1 := ⟨by kernel_rfl⟩
instance : UD Proofs.Try.prog 98 (.int .i64) := ⟨by kernel_rfl⟩
instance : ZC Proofs.Try.prog 98 [.int .i64 0] := ⟨by kernel_rfl⟩
instance : TK Proofs.Try.prog 99 false 1 := ⟨by kernel_rfl⟩
instance : TK Proofs.Try.prog 104 false 1 := ⟨by kernel_rfl⟩
instance : TK Proofs.Try.prog 107 false 1 := ⟨by kernel_rfl⟩
instance : UD Proofs.Try.prog 107 (.int .u32) := ⟨by kernel_rfl⟩
instance : ZC Proofs.Try.prog 107 [.int .u32 0] := ⟨by kernel_rfl⟩
instance : TK Proofs.Try.prog 112 false 1 := ⟨by kernel_rfl⟩
instance : TK Proofs.Try.prog 114 false 1 := ⟨by kernel_rfl⟩
instance : UD Proofs.Try.prog 114 (.int .u64) := ⟨by kernel_rfl⟩
instance : ZC Proofs.Try.prog 114 [.int .u64 0] := ⟨by kernel_rfl⟩
instance : TK Proofs.Try.prog 117 false 1 := ⟨by kernel_rfl⟩
instance : UD Proofs.Try.prog 117 (.pointer 3) := ⟨by kernel_rfl⟩
instance : ZC Proofs.Try.prog 117 [.pointer none] := ⟨by kernel_rfl⟩
instance : TK Proofs.Try.prog 119 false 1 := ⟨by kernel_rfl⟩
instance : UD Proofs.Try.prog 119 (.pointer 114) := ⟨by kernel_rfl⟩
instance : ZC Proofs.Try.prog 119 [.pointer none] := ⟨by kernel_rfl⟩
instance : TK Proofs.Try.prog 120 false 1 := ⟨by kernel_rfl⟩
instance : AP Proofs.Try.prog 1 1 8 := ⟨by kernel_rfl⟩
instance : ZV Proofs.Try.prog 1 (.nilFunc) := ⟨by kernel_rfl⟩
instance : AP Proofs.Try.prog 2 1 8 := ⟨by kernel_rfl⟩
instance : ZV Proofs.Try.prog 2 (.int .i64 0) := ⟨by kernel_rfl⟩
instance : AP Proofs.Try.prog 3 1 8 := ⟨by kernel_rfl⟩
instance : ZV Proofs.Try.prog 3 (.int .i64 0) := ⟨by kernel_rfl⟩
instance : AP Proofs.Try.prog 4 1 1 := ⟨by kernel_rfl⟩
instance : ZV Proofs.Try.prog 4 (.bool false) := ⟨by kernel_rfl⟩
instance : AP Proofs.Try.prog 5 1 1 := ⟨by kernel_rfl⟩
instance : ZV Proofs.Try.prog 5 (.int .u8 0) := ⟨by kernel_rfl⟩
instance : AP Proofs.Try.prog 9 1 16 := ⟨by kernel_rfl⟩
instance : ZV Proofs.Try.prog 9 (.string ⟨#[]⟩) := ⟨by kernel_rfl⟩
instance : AP Proofs.Try.prog 20 1 16 := ⟨by kernel_rfl⟩
instance : ZV Proofs.Try.prog 20 (.nilIface) := ⟨by kernel_rfl⟩
instance : AP Proofs.Try.prog 23 1 24 := ⟨by kernel_rfl⟩
instance : ZV Proofs.Try.prog 23 (.slice none 0 0) := ⟨by kernel_rfl⟩
instance : AP Proofs.Try.prog 30 1 8 := ⟨by kernel_rfl⟩
instance : ZV Proofs.Try.prog 30 (.int .i64 0) := ⟨by kernel_rfl⟩
instance : AP Proofs.Try.prog 33 1 24 := ⟨by kernel_rfl⟩
instance : ZV Proofs.Try.prog 33 (.slice none 0 0) := ⟨by kernel_rfl⟩
instance : AP Proofs.Try.prog 37 1 8 := ⟨by kernel_rfl⟩
instance : ZV Proofs.Try.prog 37 (.pointer none) := ⟨by kernel_rfl⟩
instance : AP Proofs.Try.prog 49 2 16 := ⟨by kernel_rfl⟩
instance : PL Proofs.Try.prog 49 [(0, 1), (1, 1)] := ⟨by kernel_rfl⟩
instance : AP Proofs.Try.prog 50 2 16 := ⟨by kernel_rfl⟩
instance : PL Proofs.Try.prog 50 [(0, 1), (1, 1)] := ⟨by kernel_rfl⟩
instance : EQ Proofs.Try.prog 50 [.int .i64, .int .i64] := ⟨by kernel_rfl, by kernel_rfl, Zhp (by kernel_rfl)⟩
instance : AP Proofs.Try.prog 55 1 8 := ⟨by kernel_rfl⟩
instance : ZV Proofs.Try.prog 55 (.nilFunc) := ⟨by kernel_rfl⟩
instance : AP Proofs.Try.prog 57 1 8 := ⟨by kernel_rfl⟩
instance : ZV Proofs.Try.prog 57 (.map none) := ⟨by kernel_rfl⟩
instance : AP Proofs.Try.prog 60 1 8 := ⟨by kernel_rfl⟩
instance : ZV Proofs.Try.prog 60 (.int .u64 0) := ⟨by kernel_rfl⟩
instance : AP Proofs.Try.prog 67 5 56 := ⟨by kernel_rfl⟩
instance : PL Proofs.Try.prog 67 [(0, 1), (1, 1), (2, 1), (3, 2)] := ⟨by kernel_rfl⟩
instance : AP Proofs.Try.prog 68 5 56 := ⟨by kernel_rfl⟩
instance : PL Proofs.Try.prog 68 [(0, 1), (1, 1), (2, 1), (3, 2)] := ⟨by kernel_rfl⟩
instance : AP Proofs.Try.prog 82 1 8 := ⟨by kernel_rfl⟩
instance : ZV Proofs.Try.prog 82 (.int .u64 0) := ⟨by kernel_rfl⟩
instance : AP Proofs.Try.prog 83 10 10 := ⟨by kernel_rfl⟩
instance : AP Proofs.Try.prog 93 2 16 := ⟨by kernel_rfl⟩
instance : PL Proofs.Try.prog 93 [(0, 2)] := ⟨by kernel_rfl⟩
instance : AP Proofs.Try.prog 94 2 16 := ⟨by kernel_rfl⟩
instance : PL Proofs.Try.prog 94 [(0, 2)] := ⟨by kernel_rfl⟩
instance : EQ Proofs.Try.prog 94 [.int .i64, .int .i64] := ⟨by kernel_rfl, by kernel_rfl, Zhp (by kernel_rfl)⟩
instance : AP Proofs.Try.prog 98 1 8 := ⟨by kernel_rfl⟩
instance : ZV Proofs.Try.prog 98 (.int .i64 0) := ⟨by kernel_rfl⟩
instance : AP Proofs.Try.prog 107 1 4 := ⟨by kernel_rfl⟩
instance : ZV Proofs.Try.prog 107 (.int .u32 0) := ⟨by kernel_rfl⟩
instance : AP Proofs.Try.prog 114 1 8 := ⟨by kernel_rfl⟩
instance : ZV Proofs.Try.prog 114 (.int .u64 0) := ⟨by kernel_rfl⟩
instance : AP Proofs.Try.prog 117 1 8 := ⟨by kernel_rfl⟩
instance : ZV Proofs.Try.prog 117 (.pointer none) := ⟨by kernel_rfl⟩
instance : AP Proofs.Try.prog 119 1 8 := ⟨by kernel_rfl⟩
instance : ZV Proofs.Try.prog 119 (.pointer none) := ⟨by kernel_rfl⟩
end Go.Sx
namespace Go.Sx
open Go
theorem Z1j {P : Program} {b : Frame} {a : Act} {k : List Item} {cs : List Frame} {w : World} {c : Code} : step P (lone (b.atR a (.code (.scope c) :: k)) cs w) = .next (lone (b.atR a (.code c :: .inScope c :: k)) cs w) :=
 step_lone_go (by simp [stepG, stepG.exec, Frame.atR])
theorem Z7i {P : Program} {b : Frame} {a : Act} {k : List Item} {cs : List Frame} {w : World} {c : Code} : step P (lone (b.atR a (.inScope c :: k)) cs w) = .next (lone (b.atR a k) cs w) :=
 step_lone_go (by simp [stepG, stepG.exec, Frame.atR])
theorem Z6t {F : Fence} {n : Nat} {P : Program} {c : Code} {Q : Exit → Act → World → Prop} {a : Act} {w : World} (h : c.wpIn F n P (Exit.noGoto Q) a w) : (Code.scope c).wpIn F n P Q a w := by
 intro b k cs hro hb hr
 have h0 : (lone (b.atR a (.code (.scope c) :: k)) cs w).fenced P F := fenced_calm hb hr rfl
 obtain ⟨e, a₁, w₁, hq, harr⟩ := h b (.inScope c :: k) cs hro hb hr
 cases e with
 | normal => exact ⟨.normal, a₁, w₁, hq, .head h0 Z1j (StepsIn.trans harr (.one (fenced_calm hb hr rfl) Z7i))⟩
 | exit id =>
  have hx : exitTo id (.inScope c :: k) = exitTo id k := by simp [exitTo]
  exact ⟨.exit id, a₁, w₁, hq, fun k' hk => .head h0 Z1j (harr.1 k' (by rw [hx]; exact hk)),
   fun hr' hk => let ⟨k₁, h1, h2⟩ := harr.2 hr' (by rw [hx]; exact hk); ⟨k₁, h1, .head h0 Z1j h2⟩⟩
 | goto l => exact hq.elim
 | ret => exact ⟨_, a₁, w₁, hq, .of_steps (.one h0 Z1j) harr⟩
 | panic ch => exact ⟨_, a₁, w₁, hq, .of_steps (.one h0 Z1j) harr⟩
 | outgrown => exact ⟨_, a₁, w₁, hq, .of_steps (.one h0 Z1j) harr⟩
def scopeQ (Q : Exit → St → Prop) : Exit → St → Prop
 | .goto _, _ => False
 | .normal, s => Q .normal s
 | .exit i, s => Q (.exit i) s
 | .ret, s => Q .ret s
 | .panic c, s => Q (.panic c) s
 | .outgrown, s => Q .outgrown s
theorem Zbm {P : Program} {ro : Option Nat} {Q : Exit → St → Prop} {s : St} {c : Code} (h : AWp P ro c (scopeQ Q) s) : AWp P ro (.scope c) Q s :=
 fun Z C0 H0 w0 C a w he hs => Z6t (wpIn_mono (h Z C0 H0 w0 C a w he hs) (by
  rintro e a' w' ⟨h1, C', s', hq, hs', he'⟩
  cases e with
  | goto l => exact hq.elim
  | outgrown => exact absurd rfl h1
  | _ => exact ⟨h1, C', s', hq, hs', he'⟩))
end Go.Sx
namespace Go.Sx
open Go
variable {P : Program} {ro : Option Nat} {Q : Exit → St → Prop} {s : St} {ops : Array Oper} {o : Oper} {rest : List Oper} {T : List (Nat × AV)}
def Sub (x y : AV) : Prop := ∀ C v, VR C x v → VR C y v
theorem Sub.refl (x : AV) : Sub x x := fun _ _ h => h
theorem Sub.z : Sub (.v (.slice none 0 0)) (.lst []) := fun C v h => by cases h; exact .lstNil
inductive Subs : List AV → List AV → Prop
 | nil : Subs [] []
 | keep {x : AV} {xs ys : List AV} (h : Subs xs ys) : Subs (x :: xs) (x :: ys)
 | z {xs ys : List AV} (h : Subs xs ys) : Subs (.v (.slice none 0 0) :: xs) (.lst [] :: ys)
 | to {x y : AV} {xs ys : List AV} (h0 : Sub x y) (h : Subs xs ys) : Subs (x :: xs) (y :: ys)
theorem Subs.len : ∀ {xs ys : List AV}, Subs xs ys → xs.length = ys.length
 | _, _, .nil => rfl
 | _, _, .keep h => by simp [h.len]
 | _, _, .z h => by simp [h.len]
 | _, _, .to _ h => by simp [h.len]
theorem Subs.get {C : Ctx} : ∀ {xs ys : List AV}, Subs xs ys → ∀ (i : Nat) (y : AV), ys[i]? = some y → ∃ x, xs[i]? = some x ∧ Sub x y
 | _, _, .nil, i, y, h => by simp at h
 | _, _, .keep h, 0, y, hy => by simp at hy; subst hy; exact ⟨_, rfl, .refl _⟩
 | _, _, .z h, 0, y, hy => by simp at hy; subst hy; exact ⟨_, rfl, .z⟩
 | _, _, .to h0 h, 0, y, hy => by simp at hy; subst hy; exact ⟨_, rfl, h0⟩
 | _, _, .keep h, i + 1, y, hy => by simpa using h.get (C := C) i y (by simpa using hy)
 | _, _, .z h, i + 1, y, hy => by simpa using h.get (C := C) i y (by simpa using hy)
 | _, _, .to _ h, i + 1, y, hy => by simpa using h.get (C := C) i y (by simpa using hy)
theorem Sub.agg {xs ys : List AV} (h : Subs xs ys) : Sub (.agg xs) (.agg ys) := fun C v hv => by
 cases hv with
 | agg _ vs hl hh =>
  refine .agg ys vs (h.len.symm.trans hl) fun i y x h1 h2 => ?_
  obtain ⟨z, h3, h4⟩ := h.get (C := C) i y h1
  exact h4 C x (hh i z x h3 h2)
theorem Zca {x y : AV} {Hn On : AHeap} (h : Eff P o T Hn x On) (hs : Sub x y) : Eff P o T Hn y On :=
 fun Z C H a w h1 h2 h3 h4 h5 h6 ro next R hk => h Z C H a w h1 h2 h3 h4 h5 h6 ro next R fun v w1 C1 hv => hk v w1 C1 (hs _ _ hv)
theorem Zy {x y : AV} {Hn On : AHeap} (h : Eff P o T Hn x On) (hs : x = y) : Eff P o T Hn y On := hs ▸ h
theorem Z96 {el sz len : Nat} {es : List (List AV)} (h : ∀ id, Eff P o T [] (.own id sz 0 len) [(id, .rows el sz es)]) (hl : len = es.length) : Eff P o T [] (.lst es) [] := by
 intro Z C H a w hw hn hv _ _ _ ro next R hk
 obtain ⟨id, hid⟩ := Z8c (C.U ++ Z)
 rw [List.mem_append, not_or] at hid
 refine h id Z C H a w hw nofun hv (by intro p hp; simp at hp; subst hp; exact hid.1) (by simp) (fun z hz => by simp; rintro rfl; exact hid.2 hz) ro next R ?_
 intro v w1 C1 hx hw1 he1
 obtain ⟨b, ob, h1, h2, h3, h4, h5, h6⟩ := frz hw1
 refine hk v w1 _ (h6 v len hl hx) h4 (he1.trans ⟨h5, fun _ _ h => h, rfl, rfl, rfl, Nat.le_refl _, fun _ _ _ => rfl, ?_, ?_, ?_⟩)
 ·intro x o hx
  simp only [Ctx.hpSet] at hx
  split at hx
  ·rename_i e
   obtain ⟨_, N, hm⟩ := h2 x e
   exact .inr (.inr ⟨id, _, N, List.mem_cons_self, hm⟩)
  ·exact .inl ⟨o, hx⟩
 ·rintro x ⟨i, o, N, hi, hm⟩
  exact .inl ⟨i, o, N, List.mem_cons_of_mem _ hi, hm⟩
 ·intro i o hi
  exact .inl ⟨o, List.mem_cons_of_mem _ hi⟩
def bitOf (ms : List Nat) (i j : Nat) : Bool := Nat.testBit (ms.getD i 0) j
def okCert (ops : Array Oper) (ms : List Nat) : Bool := (List.range ops.size).all fun i => match ops[i]? with
 | some o => (List.range i).all fun j => !bitOf ms i j || o.after.any fun e => Region.binds .any e && (e.on == j || (Nat.blt j e.on && bitOf ms e.on j))
 | none => true
def okLooksM (ops : Array Oper) (ms : List Nat) (np : Nat) : Bool := (List.range np).all fun i => match ops[i]? with
 | some o => (o.looksAt ops).all fun t => (List.range np).all fun j => !((ops[j]?).bind (·.dst) == some t) || (Nat.blt j i && bitOf ms i j)
 | none => false
def okTailM (ops : Array Oper) (ms : List Nat) (np : Nat) : Bool := (List.range (ops.size - np)).all fun d => (List.range (np + d)).all fun i => bitOf ms (np + d) i
def tidyM (ops : Array Oper) (ms : List Nat) (np : Nat) : Bool := Nat.ble np ops.size && okEdges ops && okDst ops np && okCert ops ms && okLooksM ops ms np && okTailM ops ms np
theorem Z9r {ops : Array Oper} : ∀ {f g i j : Nat}, f ≤ g → anc ops f i j = true → anc ops g i j = true
 | 0, _, _, _, _, h => by cases h
 | f + 1, 0, _, _, hl, _ => by omega
 | f + 1, g + 1, i, j, hl, h => by
  unfold anc at h ⊢
  cases ho : ops[i]? with
  | none => rw [ho] at h; cases h
  | some o =>
   rw [ho] at h
   simp only [Array.any_eq_true, Bool.and_eq_true, Bool.or_eq_true] at h ⊢
   obtain ⟨k, hk, hb, h1⟩ := h
   exact ⟨k, hk, hb, h1.imp id fun h2 => Z9r (by omega) h2⟩
theorem Z4t {ops : Array Oper} {ms : List Nat} (he : okEdges ops = true) (hc : okCert ops ms = true) : ∀ i, i < ops.size → ∀ j, j < i → bitOf ms i j = true → anc ops i i j = true := by
 intro i
 induction i using Nat.strongRecOn with
 | _ i ih =>
  intro hi j hj hb
  have h1 := List.all_eq_true.1 hc i (List.mem_range.2 hi)
  have h2 := List.all_eq_true.1 he i (List.mem_range.2 hi)
  rw [Array.getElem?_eq_getElem hi] at h1 h2
  simp only at h1 h2
  have h1 := List.all_eq_true.1 h1 j (List.mem_range.2 hj)
  rw [hb] at h1
  simp only [Bool.not_true, Bool.false_or, Array.any_eq_true, Bool.and_eq_true, Bool.or_eq_true] at h1
  obtain ⟨k, hk, hbn, h3⟩ := h1
  obtain ⟨i', rfl⟩ : ∃ i', i = i' + 1 := ⟨i - 1, by omega⟩
  have h4 : Nat.blt (ops[i' + 1].after[k]).on (i' + 1) = true := by
   have := Array.all_eq_true.1 h2 k hk
   rw [hbn, Bool.not_true, Bool.false_or] at this
   exact this
  have h4 : (ops[i' + 1].after[k]).on < i' + 1 := Nat.blt_eq ▸ h4
  unfold anc
  rw [Array.getElem?_eq_getElem hi]
  simp only [Array.any_eq_true, Bool.and_eq_true, Bool.or_eq_true]
  refine ⟨k, hk, hbn, h3.imp id fun h5 => ?_⟩
  have h6 : j < (ops[i' + 1].after[k]).on := Nat.blt_eq ▸ h5.1
  exact Z9r (by omega) (ih _ h4 (by omega) j h6 h5.2)
theorem Zgt {ops : Array Oper} {ms : List Nat} {np : Nat} (h : tidyM ops ms np = true) : tidy ops np = true := by
 simp only [tidyM, Bool.and_eq_true] at h
 obtain ⟨⟨⟨⟨⟨h1, h2⟩, h3⟩, h4⟩, h5⟩, h6⟩ := h
 have hle : np ≤ ops.size := Nat.le_of_ble_eq_true h1
 simp only [tidy, Bool.and_eq_true]
 refine ⟨⟨⟨⟨h1, h2⟩, h3⟩, ?_⟩, ?_⟩
 ·refine List.all_eq_true.2 fun i hi => ?_
  have h7 := List.all_eq_true.1 h5 i hi
  have hi' : i < ops.size := by have := List.mem_range.1 hi; omega
  rw [Array.getElem?_eq_getElem hi'] at h7 ⊢
  refine List.all_eq_true.2 fun t ht => List.all_eq_true.2 fun j hj => ?_
  have h8 := List.all_eq_true.1 (List.all_eq_true.1 h7 t ht) j hj
  simp only [Bool.or_eq_true, Bool.and_eq_true] at h8 ⊢
  exact h8.imp id fun h9 => ⟨h9.1, Z4t h2 h4 i hi' j (Nat.blt_eq ▸ h9.1) h9.2⟩
 ·refine List.all_eq_true.2 fun d hd => List.all_eq_true.2 fun i hi => ?_
  have h7 := List.all_eq_true.1 (List.all_eq_true.1 h6 d hd) i hi
  have hd' := List.mem_range.1 hd
  exact Z4t h2 h4 (np + d) (by omega) i (List.mem_range.1 hi) h7
theorem Z0e {id : Nat} {l : List Oper} (ms : List Nat) (np : Nat) (hm : P.follows .mixedOrders = true) (ht : tidyM l.toArray ms (l.take np).length = true)
  (h : Calm P l.toArray s.H (AOps P ro l.toArray (l.drop np) Q) 0 (l.take np) [] s) : AWp P ro (.region id l.toArray true) Q s :=
 Z14 np hm (Zgt ht) h
def GSome {α : Type} (f : α → AV) (φ : α → Prop) : AEnd → AHeap → Prop := fun e H => ∃ a, φ a ∧ e = .ret (f a) ∧ H = []
theorem Z2y {fo : Operand} {args : Array Operand} {ats : Array TypeId} {g : Nat} {caps xs : List AV} {α : Type} {f : α → AV} {φ : α → Prop} (hw : Wanted ops s.T o true) (hd : dok o.dst s.n = true)
  (ho : o.op = .call { callee := .value fo, args := args, argTypes := ats }) (hfo : ev s.T fo = some (.fn (.func g) caps)) (hxs : evs s.T args.toList = some xs) (hc : ACalls P g (xs ++ caps) [] (GSome f φ))
  (h : ∀ a, φ a → AOps P ro ops rest Q { s with T := put s.T o.dst (f a) }) : AOps P ro ops (o :: rest) Q s :=
 Zap hw hd ho hfo hxs hc (fun ch H' hR => by obtain ⟨_, _, h, _⟩ := hR; cases h) (fun x H' hR => by obtain ⟨a, h1, h2, rfl⟩ := hR; cases h2; exact h a h1)
abbrev SomeB : AEnd → AHeap → Prop := GSome bA (fun _ => True)
abbrev SomeI : AEnd → AHeap → Prop := GSome iA (fun _ => True)
abbrev SomeS : AEnd → AHeap → Prop := GSome sA (fun _ => True)
theorem Z67 {α : Type} {f : α → AV} {φ : α → Prop} {xs : List AV} (a : α) (h : φ a) (hx : mkRes xs = f a) : GSome f φ (.ret (mkRes xs)) [] := ⟨a, h, congrArg _ hx, rfl⟩
def byteAt (u : ByteArray) (k : Int) : Int := match u[k.toNat]? with | some c => c.toNat | none => 0
theorem Z12 {t : Nat} {p q : Operand} {u : ByteArray} {kd : IntKind} {k : Int} [h : UD P t .string] (ho : o.op = .index t p q)
  (hp : ev T p = some (.v (.string u))) (hq : ev T q = some (.v (.int kd k))) (h0 : 0 ≤ k) (h1 : k < u.size) : Eff P o T [] (.v (.int .u8 (byteAt u k))) [] := by
 have hl : k.toNat < u.size := by omega
 have e : u[k.toNat]? = some u[k.toNat] := getElem?_pos u k.toNat hl
 have := Z75 (P := P) (T := T) ho hp hq h0 e
 unfold byteAt; rw [e]; exact this
theorem Z53 {t : Nat} {x : AV} (ht : lk s.T t = some x) : Weak s { s with T := (t, x) :: s.T } := fun Z C a w hs =>
 ⟨C, ⟨hs.wr, fun t' y hy => by
  simp only [lk] at hy
  cases hb : Nat.beq t t' with
  | true => simp only [hb, cond_true] at hy; have e := Nat.eq_of_beq_eq_true hb; subst e; exact hs.sl t y (ht.trans hy)
  | false => simp only [hb, cond_false] at hy; exact hs.sl t' y hy, hs.df, hs.du, hs.sz⟩, .refl ..⟩
theorem Z0o {c : Code} {b : Bool} (t : Nat) (ht : lk s.T t = some (.v (.bool b))) (h : ∀ d, d = b → AWp P ro c Q { s with T := (t, .v (.bool d)) :: s.T }) : AWp P ro c Q s := Z15 (Z53 ht) (h b rfl)
theorem Zdr {c : Code} {k : IntKind} {b : Int} (t : Nat) (ht : lk s.T t = some (.v (.int k b))) (h : ∀ d, d = b → AWp P ro c Q { s with T := (t, .v (.int k d)) :: s.T }) : AWp P ro c Q s := Z15 (Z53 ht) (h b rfl)
theorem Zz {l : List ByteArray} {i : Nat} (h : i < l.length) : (l.map fun x => [AV.v (.string x)])[i]? = some [.v (.string (l.getD i default))] := by simp [h, List.getD]
theorem Zge {t t' : TypeId} {p q : Operand} {k : IntKind} {x y : Int} (ho : o.op = .binOp .rem t p q t') (hp : ev T p = some (.v (.int k x))) (hq : ev T q = some (.v (.int k y))) (hy : y ≠ 0) : Eff P o T [] (.v (.int k (x.tmod y))) [] :=
 Z01 (by intro c; rw [ho]; nofun) fun C H a w hw hn hv => by
  have h2 := VR.val (hv p (by rw [ho]; simp [Op.operands]) _ hp)
  have h3 := VR.val (hv q (by rw [ho]; simp [Op.operands]) _ hq)
  refine ⟨_, ?_, .v _⟩
  simp [execOp, ho, h2, h3, eqGuard, binOp, Op.intDiv, hy, Sem.run_bind, Result.andThen]
def GP {β : Type} (f : β → AV) (Hb : β → AHeap) (φ : β → Prop) : AEnd → AHeap → Prop := fun e H => ∃ b, φ b ∧ e = .ret (f b) ∧ H = Hb b
theorem Z1e {H : AHeap} {k j : Nat} {p q : Nat × AObj} (h : H[k]? = some p) (h2 : (H.eraseIdx k)[j]? = some q) : H.Perm ([p, q] ++ (H.eraseIdx k).eraseIdx j) := (Zt h).trans ((Zt h2).cons p)
theorem Zk {fo : Operand} {args : Array Operand} {ats : Array TypeId} {g : Nat} {caps xs : List AV} {β : Type} {f : β → AV} {Hb : β → AHeap} {φ : β → Prop} (Hf Fr : AHeap) (hw : Wanted ops s.T o true) (hd : dok o.dst s.n = true)
  (ho : o.op = .call { callee := .value fo, args := args, argTypes := ats }) (hfo : ev s.T fo = some (.fn (.func g) caps)) (hxs : evs s.T args.toList = some xs) (hp : s.H.Perm (Hf ++ Fr)) (hc : ACalls P g (xs ++ caps) Hf (GP f Hb φ))
  (h : ∀ b, φ b → AOps P ro ops rest Q { s with T := put s.T o.dst (f b), H := Hb b ++ Fr }) : AOps P ro ops (o :: rest) Q s :=
 Zao Hf Fr hw hd ho hfo hxs hp hc (fun ch H' hR => by obtain ⟨_, _, h, _⟩ := hR; cases h) (fun x H' hR => by obtain ⟨b, h1, h2, rfl⟩ := hR; cases h2; exact h b h1)
theorem gp {β : Type} {f : β → AV} {Hb : β → AHeap} {φ : β → Prop} {xs : List AV} {H : AHeap} (b : β) (h : φ b) (hx : mkRes xs = f b) (hH : H = Hb b) : GP f Hb φ (.ret (mkRes xs)) H := ⟨b, h, congrArg _ hx, hH⟩
theorem Z1u {x y : Int} (h : -9223372036854775808 ≤ x * y ∧ x * y ≤ 9223372036854775807) : arith .mul .i64 x y = some (x * y) := by simp [arith, Z0t h]
theorem Z17 {t t' : TypeId} {p q : Operand} {x y : Int} (ho : o.op = .binOp .quo t p q t') (hp : ev T p = some (.v (.int .i64 x))) (hq : ev T q = some (.v (.int .i64 y))) (hy : y ≠ 0) (hr : -9223372036854775808 ≤ x.tdiv y ∧ x.tdiv y ≤ 9223372036854775807) : Eff P o T [] (.v (.int .i64 (x.tdiv y))) [] :=
 Z01 (by intro c; rw [ho]; nofun) fun C H a w hw hn hv => by
  have h2 := VR.val (hv p (by rw [ho]; simp [Op.operands]) _ hp)
  have h3 := VR.val (hv q (by rw [ho]; simp [Op.operands]) _ hq)
  refine ⟨_, ?_, .v _⟩
  simp [execOp, ho, h2, h3, eqGuard, binOp, Op.intDiv, hy, Z0t hr, Sem.run_bind, Result.andThen]
theorem Zs {H0 : AHeap} {K : St → Prop} {kk : Nat} {M : List (Nat × (Nat × AObj))} {e : Bool} {t : TypeId} {p : Operand} {id el i : Nat} {l : List ByteArray} (k : Nat) (hw : Wanted ops s.T o e) (hd : dok o.dst s.n = true) (ho : o.op = .load t p) (hp : e = true → ev s.T p = some (.ptr id 1 i 0))
  (hH : H0[k]? = some (id, .rows el 1 (l.map fun x => [AV.v (.string x)]))) (hi : e = true → i < l.length) (hl : ∀ x, Ld P t [x] x) (h : Calm P ops H0 K (kk + 1) rest M { s with T := put s.T o.dst (cond e (.v (.string (l.getD i default))) (.v undef)) }) : Calm P ops H0 K kk (o :: rest) M s := by
 cases e
 ·exact .off hw hd h
 ·exact Zw k hw hd ho (hp rfl) hH (Zz (hi rfl)) (hl _) h
theorem Z6v {c : Code} {k : IntKind} {b d : Int} (t : Nat) (ht : lk s.T t = some (.v (.int k b))) (e : b = d) (h : AWp P ro c Q { s with T := (t, .v (.int k d)) :: s.T }) : AWp P ro c Q s := by subst e; exact Z15 (Z53 ht) h
theorem Zhq {a b : Nat} (h : a ≤ b) : (((b - a : Nat) : Int) - 1).tdiv 2 = (((b - a - 1) / 2 : Nat) : Int) := by
 cases e : b - a with
 | zero => decide
 | succ k =>
  rw [show ((k + 1 : Nat) : Int) - 1 = (k : Int) from by omega, show k + 1 - 1 = k from by omega]
  exact (Int.ofNat_tdiv k 2).symm
theorem Z3m (a b : Nat) : ((a : Int)).tdiv b = ((a / b : Nat) : Int) := (Int.ofNat_tdiv a b).symm
theorem Z10 (a b : Nat) (h : a ≤ 9223372036854775807) : -9223372036854775808 ≤ ((a : Int)).tdiv b ∧ ((a : Int)).tdiv b ≤ 9223372036854775807 := by
 rw [Z3m]
 have := Nat.div_le_self a b
 generalize a / b = c at *
 omega
def bitsI (op : BinOp) (k : IntKind) (x y : Int) : Int := match op with
 | .and => k.wrap (BitVec.ofInt k.bits x &&& BitVec.ofInt k.bits y).toNat
 | .or => k.wrap (BitVec.ofInt k.bits x ||| BitVec.ofInt k.bits y).toNat
 | .xor => k.wrap (BitVec.ofInt k.bits x ^^^ BitVec.ofInt k.bits y).toNat
 | _ => k.wrap (BitVec.ofInt k.bits x &&& ~~~BitVec.ofInt k.bits y).toNat
theorem Z1k {b : BinOp} {t t' : TypeId} {p q : Operand} {k : IntKind} {x y : Int} (ho : o.op = .binOp b t p q t') (hb : b = .and ∨ b = .or ∨ b = .xor) (hp : ev T p = some (.v (.int k x))) (hq : ev T q = some (.v (.int k y))) : Eff P o T [] (.v (.int k (bitsI b k x y))) [] :=
 Z01 (by intro c; rw [ho]; nofun) fun C H a w hw hn hv => by
  have h2 := VR.val (hv p (by rw [ho]; simp [Op.operands]) _ hp)
  have h3 := VR.val (hv q (by rw [ho]; simp [Op.operands]) _ hq)
  refine ⟨_, ?_, .v _⟩
  rcases hb with rfl | rfl | rfl <;> simp [execOp, ho, h2, h3, eqGuard, binOp, Op.intBits, bitsI, Sem.run_bind, Result.andThen]
theorem Z5d {t t' : TypeId} {p q : Operand} {k k' : IntKind} {x y : Int} (ho : o.op = .binOp .shl t p q t') (hp : ev T p = some (.v (.int k x))) (hq : ev T q = some (.v (.int k' y))) (hy : 0 ≤ y) : Eff P o T [] (.v (.int k (k.wrap (x * 2 ^ (min y.toNat k.bits))))) [] :=
 Z01 (by intro c; rw [ho]; nofun) fun C H a w hw hn hv => by
  have h2 := VR.val (hv p (by rw [ho]; simp [Op.operands]) _ hp)
  have h3 := VR.val (hv q (by rw [ho]; simp [Op.operands]) _ hq)
  refine ⟨_, ?_, .v _⟩
  have : ¬ y < 0 := by omega
  simp [execOp, ho, h2, h3, eqGuard, binOp, Op.shift, this, Sem.run_bind, Result.andThen]
theorem Z26 {t t' : TypeId} {p q : Operand} {k k' : IntKind} {x y : Int} (ho : o.op = .binOp .shr t p q t') (hp : ev T p = some (.v (.int k x))) (hq : ev T q = some (.v (.int k' y))) (hy : 0 ≤ y) : Eff P o T [] (.v (.int k (x.fdiv (2 ^ (min y.toNat k.bits))))) [] :=
 Z01 (by intro c; rw [ho]; nofun) fun C H a w hw hn hv => by
  have h2 := VR.val (hv p (by rw [ho]; simp [Op.operands]) _ hp)
  have h3 := VR.val (hv q (by rw [ho]; simp [Op.operands]) _ hq)
  refine ⟨_, ?_, .v _⟩
  have : ¬ y < 0 := by omega
  simp [execOp, ho, h2, h3, eqGuard, binOp, Op.shift, this, Sem.run_bind, Result.andThen]
theorem Z1w {t e n : Nat} {b : Bool} {p q : Operand} {es : List (List AV)} {kd : IntKind} {k : Int} [h : UD P t (.slice e)] [k1 : TK P e b n] (ho : o.op = .slice t p none (some q) none)
  (hp : ev T p = some (.lst es)) (hq : ev T q = some (.v (.int kd k))) (h0 : 0 ≤ k) (h1 : k ≤ es.length) : Eff P o T [] (.lst (es.take k.toNat)) [] :=
 Z01 (by intro c; rw [ho]; nofun) fun C H a w hw hn hv => by
  have h2 := hv p (by rw [ho]; simp [Op.operands]) _ hp
  have h3 := VR.val (hv q (by rw [ho]; simp [Op.operands]) _ hq)
  generalize hpv : a.eval p = u at h2
  cases h2 with
  | lstNil =>
   have hk : k = 0 := by simp at h1; omega
   subst hk
   refine ⟨.slice none 0 0, ?_, by simpa using VR.lstNil⟩
   have hb : ∀ code, (Instr.sliceBound (.int kd 0) 0 code).run P w = .ok 0 w := fun code => Z1f rfl (by omega) (by omega) w
   simp [execOp, ho, hpv, h3, Instr.sliceAt, Instr.slice, Instr.sliceBounds, run_underlying (d := .slice e), Z0d k1.tk, hb, Sem.run_bind, Result.andThen, Sem.run_pure]
  | lst _ ad sz cap cells elem fz xs hs hb hz hc hvv ho' hcap =>
   have hkc : k ≤ (cap : Int) := by omega
   refine ⟨.slice (some ad) k.toNat cap, ?_, ?_⟩
   ·have e0 : ad.add 0 = ad := by simp [Addr.add]
    simp [execOp, ho, hpv, h3, Instr.sliceAt, Instr.slice, Instr.sliceBounds, run_underlying (d := .slice e), Z0d k1.tk, Z1f rfl h0 hkc, Sem.run_bind, Result.andThen, Sem.run_pure, e0]
   ·have hl : (es.take k.toNat).length = k.toNat := by rw [List.length_take]; omega
    have hne : es.take k.toNat ≠ [] → es ≠ [] := fun h e => h (by rw [e]; simp)
    have hget : ∀ (i : Nat) (e : List AV), (es.take k.toNat)[i]? = some e → es[i]? = some e := fun i e h => by
     rw [List.getElem?_take] at h; split at h <;> simp_all
    have hfin := VR.lst (C := C) (es.take k.toNat) ad sz cap cells elem fz xs (fun h => hs (hne h)) (fun h => hb (hne h)) (fun e he => hz e (List.mem_of_mem_take he)) (fun i e j c h1 h2 => hc i e j c (hget i e h1) h2)
     (fun i e j c h1 h2 => hvv i e j c (hget i e h1) h2) (fun i e j c h1 h2 => ho' i e j c (hget i e h1) h2) (by omega)
    rw [hl] at hfin
    exact hfin
end Go.Sx
namespace Go.Sx
open Go
def EffW (P : Program) (o : Oper) (T : List (Nat × AV)) (H H' : AHeap) : Prop :=
 ∀ Z C a w, WR C H w → (∀ p, p ∈ o.op.operands → ∀ y, ev T p = some y → VR C y (a.eval p)) →
  ∀ ro next R, (∀ v w1 C1, VR C1 (.v undef) v → WR C1 H' w1 → Ext Z C H w C1 H' w1 → next (a.put o.dst v) w1) → o.uponIn (Wd ro) 0 P a next R ((o.semAt ro a.eval).run P w)
section
variable {P : Program} {ro : Option Nat} {Q : Exit → St → Prop} {s : St} {ops : Array Oper} {o : Oper} {rest : List Oper} {T : List (Nat × AV)}
theorem Z6d {t n id sz i c el : Nat} {b : Bool} {p q : Operand} {es : List (List AV)} {e : List AV} {x : AV} {H : AHeap} (k : Nat) [kt : TK P t b n]
  (ho : o.op = .store t p q) (hp : ev T p = some (.ptr id sz i c)) (hH : H[k]? = some (id, .rows el sz es)) (he : es[i]? = some e) (hq : ev T q = some x)
  (hx : (cellsA x).length = n) (h1 : (cellsA x).all one = true) (hc : Nat.ble (c + n) sz = true) :
  EffW P o T H (H.set k (id, .rows el sz (es.set i (e.take c ++ cellsA x ++ e.drop (c + (cellsA x).length))))) := by
 intro Z C a w hswr hv ro next R hk
 have hc := Nat.le_of_ble_eq_true hc
 have hmem := List.mem_of_getElem? hH
 obtain ⟨hu, hlen, hor⟩ := hswr.ids _ _ hmem
 have hpv := hv p (by rw [ho]; simp [Op.operands]) _ hp
 have hqv := hv q (by rw [ho]; simp [Op.operands]) _ hq
 obtain ⟨hcl, hcr⟩ := Z1v hqv
 have hone := Zgl hcl hcr h1
 have hel : e.length = sz := hlen e (List.mem_of_getElem? he)
 have hie : i < es.length := (List.getElem?_eq_some_iff.1 he).1
 rcases hor with ⟨hm, _⟩ | ⟨b', N, cells, hm, hh, hsz, hfit, hrow⟩
 ·generalize a.eval p = u at hpv
  cases hpv with
  | ptr _ _ _ _ b2 N2 hid _ => rw [hm] at hid; cases hid
 ·have hpe : a.eval p = .pointer (some ⟨b', i * sz + c, none⟩) := by
   generalize a.eval p = u at hpv
   cases hpv with
   | ptr _ _ _ _ b2 N2 hid _ => rw [hm] at hid; cases hid; rfl
  have hrowfit : i * sz + sz ≤ es.length * sz := by
   have : (i + 1) * sz ≤ es.length * sz := Nat.mul_le_mul_right _ hie
   rw [Nat.add_mul] at this; omega
  have hvs : (a.eval q).cells.toList.length = n := by rw [Array.length_toList, ← hcl, hx]
  have hst := run_storeCells_at P b' (i * sz + c) el (a.eval q).cells.toList 0 cells w hh (by rw [hvs]; omega) (by
   intro v hv'
   obtain ⟨j, hj⟩ := List.mem_iff_getElem?.1 hv'
   exact hone j v (by rw [← Array.getElem?_toList]; exact hj))
  simp only [Nat.add_zero] at hst
  have hrun : (o.semAt ro a.eval).run P w = .ok .skip (w.setRow b' (cells.toList.take (i * sz + c) ++ (a.eval q).cells.toList ++ cells.toList.drop (i * sz + c + (a.eval q).cells.toList.length)).toArray) := by
   rw [Oper.semAt_eq _ _ _ (by intro c; rw [ho]; nofun)]
   have hsz1 : (a.eval q).cells.size = n := by rw [← hcl, hx]
   simp [execOp, ho, Instr.storeAt, hpe, Instr.sureAddr, storeVar, Z0d kt.tk, hsz1, Sem.run_bind, Result.andThen]
   rw [hst]
   simp [hsz1]
  rw [hrun]
  obtain ⟨hw1, he1⟩ := Z18 (Z := Z) (C' := C) (id' := id) (o' := .rows el sz (es.set i (e.take c ++ cellsA x ++ e.drop (c + (cellsA x).length))))
   (w' := w.setRow b' (cells.toList.take (i * sz + c) ++ (a.eval q).cells.toList ++ cells.toList.drop (i * sz + c + (a.eval q).cells.toList.length)).toArray) hswr hH (.refl C) rfl (.inl rfl) hu (fun _ _ h => h) rfl rfl rfl (by simp)
   (fun b N' hm' => .inl ⟨N', hm'⟩) (fun b hb hne => setRow_other w b' b _ (by rintro rfl; exact hne N hm)) (by
    refine ⟨?_, .inr ⟨b', N, _, hm, setRow_heap w b' cells _ el (0, 0) hh, ?_, by simpa using hfit, ?_⟩⟩
    ·intro e' he'
     rcases List.mem_or_eq_of_mem_set he' with h2 | h2
     ·exact hlen e' h2
     ·subst h2
      simp only [List.length_append, List.length_take, List.length_drop]
      omega
    ·simp only [List.size_toArray, List.length_append, List.length_take, List.length_drop, Array.length_toList]
     have := hvs
     rw [Array.length_toList] at this
     omega
    ·intro i' e' j cc he' hcc
     rw [List.getElem?_toArray, Z0x _ _ _ _ (by rw [hvs, Array.length_toList]; omega), hvs]
     rw [List.getElem?_set] at he'
     by_cases hi : i = i'
     ·subst hi
      rw [if_pos rfl, if_pos hie] at he'
      simp only [Option.some.injEq] at he'
      subst he'
      rw [Z0x _ _ _ _ (by omega), hx] at hcc
      have hjlt : j < sz := by
       rcases Nat.lt_or_ge j sz with h2 | h2
       ·exact h2
       ·rw [if_neg (by omega), if_neg (by omega), List.getElem?_eq_none (by omega)] at hcc; cases hcc
      by_cases hj1 : j < c
      ·rw [if_pos hj1] at hcc
       rw [if_pos (by omega)]
       rw [Array.getElem?_toList]
       exact hrow i e j cc he hcc
      ·rw [if_neg hj1] at hcc
       rw [if_neg (by omega)]
       by_cases hj2 : j < c + n
       ·rw [if_pos hj2] at hcc
        rw [if_pos (by omega), show i * sz + j - (i * sz + c) = j - c from by omega]
        have hlt : j - c < (a.eval q).cells.size := by rw [← hcl]; exact (List.getElem?_eq_some_iff.1 hcc).1
        have hg : (a.eval q).cells[j - c]? = some (a.eval q).cells[j - c] := Array.getElem?_eq_getElem hlt
        exact ⟨_, by rw [Array.getElem?_toList]; exact hg, hcr _ _ _ hcc hg, hone _ _ hg⟩
       ·rw [if_neg hj2] at hcc
        rw [if_neg (by omega), Array.getElem?_toList]
        exact hrow i e j cc he hcc
     ·rw [if_neg hi] at he'
      have hel' : e'.length = sz := hlen e' (List.mem_of_getElem? he')
      have hj : j < sz := by rw [← hel']; exact (List.getElem?_eq_some_iff.1 hcc).1
      have hout : ¬ (i * sz + c ≤ i' * sz + j ∧ i' * sz + j < i * sz + c + n) := by
       rintro ⟨h2, h3⟩
       rcases Nat.lt_or_ge i i' with h4 | h4
       ·have := Z1b (k := c + n - 1) (sz := sz) h4 (by omega)
        omega
       ·have h5 : i' < i := by omega
        have := Z1b (k := j) (sz := sz) h5 hj
        omega
      have hg := hrow i' e' j cc he' hcc
      rw [← Array.getElem?_toList] at hg
      split
      ·exact hg
      ·split
       ·exact (hout ⟨by omega, by omega⟩).elim
       ·exact hg)
  exact hk undef _ C (.v undef) hw1 he1
theorem Z94 {t n id el i : Nat} {b : Bool} {p q : Operand} {l : List ByteArray} {x : ByteArray} {H : AHeap} (k : Nat) [kt : TK P t b n] (hn1 : n = 1)
  (ho : o.op = .store t p q) (hp : ev T p = some (.ptr id 1 i 0)) (hH : H[k]? = some (id, .rows el 1 (l.map fun x => [AV.v (.string x)]))) (hi : i < l.length) (hq : ev T q = some (.v (.string x))) :
  EffW P o T H (H.set k (id, .rows el 1 ((l.set i x).map fun x => [AV.v (.string x)]))) := by
 subst hn1
 have e : (l.map fun x => [AV.v (.string x)]).set i ([AV.v (.string (l.getD i default))].take 0 ++ cellsA (.v (.string x)) ++ [AV.v (.string (l.getD i default))].drop (0 + (cellsA (.v (.string x))).length)) = (l.set i x).map fun x => [AV.v (.string x)] := by
  rw [List.map_set]; rfl
 rw [← e]
 exact Z6d k ho hp hH (Zz hi) hq rfl rfl rfl
end
inductive WCalm (P : Program) (ops : Array Oper) (H0 : AHeap) (ws rs : List Nat) (K : St → Prop) : Nat → List Oper → St → Prop
 | done {k : Nat} {s : St} (h : K s) : WCalm P ops H0 ws rs K k [] s
 | eff {k : Nat} {o : Oper} {r : List Oper} {s : St} (Hn : AHeap) (x : AV) (hw : Wanted ops s.T o true) (hd : dok o.dst s.n = true) (he : Eff P o s.T Hn x []) (hn : ∀ p, p ∈ Hn → p ∈ H0) (hr : Hn = [] ∨ rs.contains k = true) (hk : ws.contains k = false)
   (h : WCalm P ops H0 ws rs K (k + 1) r { s with T := put s.T o.dst x }) : WCalm P ops H0 ws rs K k (o :: r) s
 | off {k : Nat} {o : Oper} {r : List Oper} {s : St} (hw : Wanted ops s.T o false) (hd : dok o.dst s.n = true) (hk : ws.contains k = false) (h : WCalm P ops H0 ws rs K (k + 1) r { s with T := put s.T o.dst (.v undef) }) : WCalm P ops H0 ws rs K k (o :: r) s
 | write {k : Nat} {o : Oper} {r : List Oper} {s : St} (H' : AHeap) (hw : Wanted ops s.T o true) (hd : dok o.dst s.n = true) (he : EffW P o s.T s.H H') (hk : ws.contains k = true)
   (h : WCalm P ops H0 ws rs K (k + 1) r { s with T := put s.T o.dst (.v undef), H := H' }) : WCalm P ops H0 ws rs K k (o :: r) s
def GoodW (P : Program) (ops : Array Oper) (n : Nat) (ws rs : List Nat) (xs : Nat → AV) (B : Nat → AHeap) (T0 : List (Nat × AV)) (i : Nat) : Prop :=
 ∃ o, ops[i]? = some o ∧ dok o.dst n = true ∧
  ((ws.contains i = false ∧ B (i + 1) = B i ∧ ((Wanted ops (TT ops xs T0 i) o false ∧ xs i = .v undef) ∨
   (Wanted ops (TT ops xs T0 i) o true ∧ ∃ Hn, Eff P o (TT ops xs T0 i) Hn (xs i) [] ∧ (∀ p, p ∈ Hn → p ∈ B 0) ∧ (Hn = [] ∨ rs.contains i = true)))) ∨
  (ws.contains i = true ∧ Wanted ops (TT ops xs T0 i) o true ∧ xs i = .v undef ∧ EffW P o (TT ops xs T0 i) (B i) (B (i + 1))))
theorem GoodW.congr {P : Program} {ops : Array Oper} {n : Nat} {ws rs : List Nat} {xs ys : Nat → AV} {B D : Nat → AHeap} {T0 : List (Nat × AV)} {i : Nat} (h1 : ∀ j, j ≤ i → xs j = ys j) (h2 : ∀ j, j ≤ i + 1 → B j = D j) (h : GoodW P ops n ws rs xs B T0 i) : GoodW P ops n ws rs ys D T0 i := by
 obtain ⟨o, ho, hd, h⟩ := h
 refine ⟨o, ho, hd, ?_⟩
 rw [← Z0n (ops := ops) (T0 := T0) i (fun j hj => h1 j (by omega)), ← h1 i (Nat.le_refl _), ← h2 i (by omega), ← h2 (i + 1) (Nat.le_refl _), ← h2 0 (by omega)]
 exact h
theorem WCalm.tell {P : Program} {ops : Array Oper} {H0 : AHeap} {ws rs : List Nat} {K : St → Prop} {T0 : List (Nat × AV)} {D : List Nat} {n : Nat} {k : Nat} {l : List Oper} {s : St} (h : WCalm P ops H0 ws rs K k l s) :
  ∀ (xs : Nat → AV) (B : Nat → AHeap), ops.toList.drop k = l → B 0 = H0 → s = ⟨TT ops xs T0 k, B k, D, n⟩ → (∀ i, i < k → GoodW P ops n ws rs xs B T0 i) →
   ∃ (ys : Nat → AV) (E : Nat → AHeap), E 0 = H0 ∧ K ⟨TT ops ys T0 (k + l.length), E (k + l.length), D, n⟩ ∧ ∀ i, i < k + l.length → GoodW P ops n ws rs ys E T0 i := by
 have step : ∀ (k : Nat) (o : Oper) (xs : Nat → AV) (B : Nat → AHeap) (x : AV) (H' : AHeap), ops[k]? = some o → (∀ i, i < k → GoodW P ops n ws rs xs B T0 i) → dok o.dst n = true →
   ((ws.contains k = false ∧ H' = B k ∧ ((Wanted ops (TT ops xs T0 k) o false ∧ x = .v undef) ∨
    (Wanted ops (TT ops xs T0 k) o true ∧ ∃ Hn, Eff P o (TT ops xs T0 k) Hn x [] ∧ (∀ p, p ∈ Hn → p ∈ B 0) ∧ (Hn = [] ∨ rs.contains k = true)))) ∨
   (ws.contains k = true ∧ Wanted ops (TT ops xs T0 k) o true ∧ x = .v undef ∧ EffW P o (TT ops xs T0 k) (B k) H')) →
   ∃ (ys : Nat → AV) (E : Nat → AHeap), (∀ i, i < k → ys i = xs i) ∧ (∀ i, i ≤ k → E i = B i) ∧ ys k = x ∧ E (k + 1) = H' ∧ (∀ i, i < k + 1 → GoodW P ops n ws rs ys E T0 i) := by
  intro k o xs B x H' ho hg hd hx
  refine ⟨fun i => if i = k then x else xs i, fun i => if i = k + 1 then H' else B i, fun i hi => if_neg (by omega), fun i hi => if_neg (by omega), if_pos rfl, if_pos rfl, ?_⟩
  intro i hi
  rcases Nat.lt_or_ge i k with hlt | hge
  ·exact (hg i hlt).congr (fun j hj => (if_neg (by omega)).symm) (fun j hj => (if_neg (by omega)).symm)
  ·have e : i = k := by omega
   subst e
   refine ⟨o, ho, hd, ?_⟩
   have e1 : TT ops (fun j => if j = i then x else xs j) T0 i = TT ops xs T0 i := Z0n i (fun j hj => if_neg (by omega))
   have e2 : (if i = i + 1 then H' else B i) = B i := if_neg (by omega)
   have e3 : (if 0 = i + 1 then H' else B 0) = B 0 := if_neg (by omega)
   simp only [e1, if_true, e2, e3]
   exact hx
 induction h with
 | done h =>
  intro xs B hl hB hs hg
  subst hs
  exact ⟨xs, B, hB, h, hg⟩
 | @eff k o r s Hn x hw hd he hn hr hk h ih =>
  intro xs B hl hB hs hg
  subst hs
  obtain ⟨h1, h2⟩ := Z07 hl
  have ho : ops[k]? = some o := by rw [← Array.getElem?_toList]; exact h1
  obtain ⟨ys, E, e1, e2, e3, e4, e5⟩ := step k o xs B x (B k) ho hg hd (.inl ⟨hk, rfl, .inr ⟨hw, Hn, he, fun p hp => hB ▸ hn p hp, hr⟩⟩)
  have hlen : k + (o :: r).length = k + 1 + r.length := by simp; omega
  rw [hlen]
  refine ih ys E h2 ((e2 0 (by omega)).trans hB) ?_ e5
  simp only [TT, ho, Option.bind_some, e3, e4]
  rw [Z0n k e1]
 | @off k o r s hw hd hk h ih =>
  intro xs B hl hB hs hg
  subst hs
  obtain ⟨h1, h2⟩ := Z07 hl
  have ho : ops[k]? = some o := by rw [← Array.getElem?_toList]; exact h1
  obtain ⟨ys, E, e1, e2, e3, e4, e5⟩ := step k o xs B (.v undef) (B k) ho hg hd (.inl ⟨hk, rfl, .inl ⟨hw, rfl⟩⟩)
  have hlen : k + (o :: r).length = k + 1 + r.length := by simp; omega
  rw [hlen]
  refine ih ys E h2 ((e2 0 (by omega)).trans hB) ?_ e5
  simp only [TT, ho, Option.bind_some, e3, e4]
  rw [Z0n k e1]
 | @write k o r s H' hw hd he hk h ih =>
  intro xs B hl hB hs hg
  subst hs
  obtain ⟨h1, h2⟩ := Z07 hl
  have ho : ops[k]? = some o := by rw [← Array.getElem?_toList]; exact h1
  obtain ⟨ys, E, e1, e2, e3, e4, e5⟩ := step k o xs B (.v undef) H' ho hg hd (.inr ⟨hk, hw, rfl, he⟩)
  have hlen : k + (o :: r).length = k + 1 + r.length := by simp; omega
  rw [hlen]
  refine ih ys E h2 ((e2 0 (by omega)).trans hB) ?_ e5
  simp only [TT, ho, Option.bind_some, e3, e4]
  rw [Z0n k e1]
def okWrites (ms ws rs : List Nat) : Bool := ws.all fun w => (rs.all fun r => Nat.blt r w && bitOf ms w r) && ws.all fun v => Nat.beq v w || (Nat.blt v w && bitOf ms w v) || (Nat.blt w v && bitOf ms v w)
def tidyW (ops : Array Oper) (ms ws rs : List Nat) : Bool := okEdges ops && okDst ops ops.size && okCert ops ms && okLooksM ops ms ops.size && okWrites ms ws rs && (ws ++ rs).all fun i => Nat.blt i ops.size
structure InvW (P : Program) (ops : Array Oper) (ws : List Nat) (ys : Nat → AV) (B : Nat → AHeap) (cur : Nat) (s : St) (Z : List Nat) (C0 : Ctx) (H0 : AHeap) (w0 : World) (listed : Array Bool) (a : Act) (w : World) (C : Ctx) : Prop where
 wr : WR C (B cur) w
 sl0 : ∀ t x, lk s.T t = some x → (∀ j, j < ops.size → (ops[j]?).bind (·.dst) ≠ some t) → ∃ v, a.tmps[t]? = some v ∧ VR C x v
 sl1 : ∀ j t, j < ops.size → listed.getD j false = true → (ops[j]?).bind (·.dst) = some t → ∃ v, a.tmps[t]? = some v ∧ VR C (ys j) v
 df : a.defers = s.D.map (mark C)
 du : ∀ i, i ∈ s.D → i ∈ C.U
 sz : a.tmps.size = s.n
 ext : Ext Z C0 H0 w0 C (B cur) w
 dn : ∀ i o, ops[i]? = some o → listed.getD i false = true → ∀ e, e ∈ o.after → Region.binds .any e = true → listed.getD e.on false = true
 lw : ∀ v, ws.contains v = true → v < ops.size → (listed.getD v false = true ↔ v < cur)
 lc : cur ≤ ops.size
theorem Zeg {B : Nat → AHeap} {ws : List Nat} {N : Nat} (hB : ∀ i, i < N → ws.contains i = false → B (i + 1) = B i) : ∀ (d a : Nat), a + d ≤ N → (∀ i, a ≤ i → i < a + d → ws.contains i = false) → B (a + d) = B a
 | 0, a, _, _ => rfl
 | d + 1, a, h, hw => by
  rw [show a + (d + 1) = (a + d) + 1 from by omega, hB (a + d) (by omega) (hw _ (by omega) (by omega))]
  exact Zeg hB d a (by omega) (fun i h1 h2 => hw i h1 (by omega))
theorem Zho {P : Program} {ro : Option Nat} {ops : Array Oper} {Q : Exit → St → Prop} {ms ws rs : List Nat} {ys : Nat → AV} {B : Nat → AHeap} {s : St} {Z : List Nat} {C0 : Ctx} {H0 : AHeap} {w0 : World}
  (ht : tidyW ops ms ws rs = true) (hK : Q .normal ⟨TT ops ys s.T ops.size, B ops.size, s.D, s.n⟩) (hg : ∀ i, i < ops.size → GoodW P ops s.n ws rs ys B s.T i) :
  ∀ (fuel : Nat) (listed : Array Bool) (cur : Nat) (a : Act) (w : World) (C : Ctx), listed.size = ops.size → left ops listed = fuel →
   InvW P ops ws ys B cur s Z C0 H0 w0 listed a w C → wpAnyIn (Wd ro) 0 P .any ops (Post Z C0 H0 w0 Q) fuel listed a w := by
 simp only [tidyW, Bool.and_eq_true] at ht
 obtain ⟨⟨⟨⟨⟨hE, hD⟩, hCt⟩, hL⟩, hW⟩, hIn⟩ := ht
 have hcert := Z4t hE hCt
 have hwsz : ∀ v, ws.contains v = true → v < ops.size := fun v hv => Nat.blt_eq ▸ List.all_eq_true.1 hIn v (List.mem_append_left _ (by simpa using hv))
 have hrsz : ∀ v, rs.contains v = true → v < ops.size := fun v hv => Nat.blt_eq ▸ List.all_eq_true.1 hIn v (List.mem_append_right _ (by simpa using hv))
 have hrw : ∀ v r, ws.contains v = true → rs.contains r = true → anc ops v v r = true := by
  intro v r hv hr
  have h1 := List.all_eq_true.1 hW v (by simpa using hv)
  rw [Bool.and_eq_true] at h1
  have h2 := List.all_eq_true.1 h1.1 r (by simpa using hr)
  rw [Bool.and_eq_true] at h2
  exact hcert v (hwsz v hv) r (Nat.blt_eq ▸ h2.1) h2.2
 have hww : ∀ v u, ws.contains v = true → ws.contains u = true → u < v → anc ops v v u = true := by
  intro v u hv hu hlt
  have h1 := List.all_eq_true.1 hW v (by simpa using hv)
  rw [Bool.and_eq_true] at h1
  have h2 := List.all_eq_true.1 h1.2 u (by simpa using hu)
  simp only [Bool.or_eq_true, Bool.and_eq_true] at h2
  rcases h2 with (h2 | h2) | h2
  ·have := Nat.eq_of_beq_eq_true h2; omega
  ·exact hcert v (hwsz v hv) u hlt h2.2
  ·have : v < u := Nat.blt_eq ▸ h2.1; omega
 have hBs : ∀ i, i < ops.size → ws.contains i = false → B (i + 1) = B i := by
  intro i hi hw
  obtain ⟨o, _, _, h | h⟩ := hg i hi
  ·exact h.2.1
  ·rw [hw] at h; cases h.1
 intro fuel
 induction fuel with
 | zero =>
  intro listed cur a w C hls hleft hI
  have hall : ∀ i, i < ops.size → listed.getD i false = true := by
   intro i hi
   cases hb : listed.getD i false with
   | true => rfl
   | false => have := Z45 hi hls hb; omega
  refine ⟨?_, ?_⟩
  ·rw [List.eq_nil_iff_forall_not_mem]
   intro j hj
   obtain ⟨h3, o, h4, _⟩ := mem_ready.1 hj
   have hlt : j < ops.size := (Array.getElem?_eq_some_iff.1 h4).1
   have := hall j hlt
   simp [hls, hlt] at h3 this
   rw [h3] at this; cases this
  ·have hB : B ops.size = B cur := by
    have := Zeg hBs (ops.size - cur) cur (by have := hI.lc; omega) (fun i h1 h2 => by
     cases hw : ws.contains i with
     | false => rfl
     | true => have := (hI.lw i hw (hwsz i hw)).1 (hall i (hwsz i hw)); omega)
    rwa [show cur + (ops.size - cur) = ops.size from by have := hI.lc; omega] at this
   refine ⟨nofun, C, _, hK, ⟨by rw [hB]; exact hI.wr, ?_, hI.df, hI.du, hI.sz⟩, by rw [hB]; exact hI.ext⟩
   intro t x hx
   rcases Z3e ops.size hx with ⟨j, h1, h2, rfl⟩ | ⟨h1, h2⟩
   ·exact hI.sl1 j t h1 (hall j h1) h2
   ·exact hI.sl0 t x h1 h2
 | succ fuel ih =>
  intro listed cur a w C hls hleft hI
  refine ⟨fun hnil => ?_, fun i hi => ?_⟩
  ·exfalso
   obtain ⟨i, h1, h2, h3⟩ := Za9 (ops := ops) (listed := listed) (by omega)
   have : i ∈ Region.ready .any ops listed := by
    rw [mem_ready]
    refine ⟨?_, ops[i], Array.getElem?_eq_getElem h1, ?_⟩
    ·simp [hls, h1] at h2 ⊢; exact h2
    ·intro e he hbd
     have := List.all_eq_true.1 hE i (List.mem_range.2 h1)
     rw [Array.getElem?_eq_getElem h1] at this
     have h5 := Array.all_eq_true_iff_forall_mem.1 this e he
     rw [hbd, Bool.not_true, Bool.false_or, Nat.blt_eq] at h5
     exact h3 e.on h5
   rw [hnil] at this; cases this
  ·obtain ⟨h3, o, ho, hdeps⟩ := mem_ready.1 hi
   have hlt : i < ops.size := (Array.getElem?_eq_some_iff.1 ho).1
   have hunl : listed.getD i false = false := by simp [hls, hlt] at h3 ⊢; exact h3
   obtain ⟨o', ho', hd, hgood⟩ := hg i hlt
   rw [ho] at ho'; cases ho'
   have hanc : ∀ j, anc ops i i j = true → listed.getD j false = true := fun j hj => Z19 hI.dn i i j o ho hdeps hj
   have hLi := List.all_eq_true.1 hL i (List.mem_range.2 hlt)
   simp only [ho] at hLi
   have hlook : ∀ t x, t ∈ o.looksAt ops → lk (TT ops ys s.T i) t = some x → ∃ v, a.tmps[t]? = some v ∧ VR C x v := by
    intro t x htl' hx
    have h5 := List.all_eq_true.1 hLi t htl'
    have h6 : ∀ j, j < ops.size → (ops[j]?).bind (·.dst) = some t → j < i ∧ listed.getD j false = true := by
     intro j hj hjt
     have h7 := List.all_eq_true.1 h5 j (List.mem_range.2 hj)
     rw [hjt] at h7
     simp only [beq_self_eq_true, Bool.not_true, Bool.false_or, Bool.and_eq_true, Nat.blt_eq] at h7
     exact ⟨h7.1, hanc j (hcert i hlt j h7.1 h7.2)⟩
    rcases Z3e i hx with ⟨j, h7, h8, rfl⟩ | ⟨h7, h8⟩
    ·exact hI.sl1 j t (by omega) (h6 j (by omega) h8).2 h8
    ·refine hI.sl0 t x h7 (fun j hj hjt => ?_)
     exact h8 j (h6 j hj hjt).1 hjt
   have hwant : ∀ b, Wanted ops (TT ops ys s.T i) o b → Region.wanted o (yielded ops a.tmps) = b := by
    intro b hb
    rcases hb with ⟨h, rfl⟩ | ⟨g, c, d, og, t, h1, h2, h4, ⟨h5, h6⟩ | ⟨h5, rfl⟩⟩
    ·simp [Region.wanted, h]
    ·obtain ⟨v, h7, h8⟩ := hlook t _ (Z2h h1 h2 h4) h5
     have := VR.val h8
     subst this
     have hy : yielded ops a.tmps g = some d := by
      have hb : (ops[g]?.bind fun x => x.dst) = some t := by rw [h2]; exact h4
      have hb2 : ((ops[g]?.bind fun x => x.dst).bind fun x => a.tmps[x]?) = some (.bool d) := by rw [hb]; exact h7
      unfold yielded
      rw [hb2]
     rw [← h6]
     cases d <;> cases c <;> simp [Region.wanted, h1, hy]
    ·obtain ⟨v, h7, h8⟩ := hlook t _ (Z2h h1 h2 h4) h5
     have := VR.val h8
     subst this
     have hy : yielded ops a.tmps g = none := by
      have hb : (ops[g]?.bind fun x => x.dst) = some t := by rw [h2]; exact h4
      have hb2 : ((ops[g]?.bind fun x => x.dst).bind fun x => a.tmps[x]?) = some undef := by rw [hb]; exact h7
      unfold yielded
      rw [hb2]
      rfl
     simp [Region.wanted, h1, hy]
   have hdst : ∀ j t, j < ops.size → j ≠ i → o.dst = some t → (ops[j]?).bind (·.dst) ≠ some t := by
    intro j t hj hne hot hjt
    have hbi : (ops[i]?).bind (·.dst) = some t := by rw [ho]; exact hot
    rcases Nat.lt_or_ge j i with h | h
    ·have h5 := List.all_eq_true.1 (List.all_eq_true.1 hD i (List.mem_range.2 hlt)) j (List.mem_range.2 h)
     rw [hbi, hjt] at h5; simp at h5
    ·have h5 := List.all_eq_true.1 (List.all_eq_true.1 hD j (List.mem_range.2 hj)) i (List.mem_range.2 (by omega))
     rw [hbi, hjt] at h5; simp at h5
   have hset : ∀ j, (listed.setIfInBounds i true).getD j false = if j = i then true else listed.getD j false := by
    intro j
    by_cases e : j = i
    ·subst e; have : j < listed.size := by omega
     simp [this]
    ·rw [if_neg e, getD_set_ne _ (Ne.symm e)]
   have hops : ∀ p, p ∈ o.op.operands → ∀ y, ev (TT ops ys s.T i) p = some y → VR C y (a.eval p) := by
    intro p hp y hy
    cases p with
    | tmp t =>
     obtain ⟨v, h5, h6⟩ := hlook t y (Z5m hp) hy
     have e : a.eval (.tmp t) = v := by simp [Act.eval, h5]
     rw [e]; exact h6
    | const c => cases hy; exact .v c
    | func f => cases hy; exact .fn _ [] #[] rfl (by intro i c x h; simp at h)
    | global g => cases hy
   -- behind it
   have next : ∀ (cur' : Nat) (v : Value) (w1 : World) (C1 : Ctx), VR C1 (ys i) v → WR C1 (B cur') w1 → Ext Z C (B cur) w C1 (B cur') w1 → cur' ≤ ops.size →
     (∀ u, ws.contains u = true → u < ops.size → ((listed.setIfInBounds i true).getD u false = true ↔ u < cur')) →
     wpAnyIn (Wd ro) 0 P .any ops (Post Z C0 H0 w0 Q) fuel (listed.setIfInBounds i true) (a.put o.dst v) w1 := by
    intro cur' v w1 C1 hv hw1 he1 hcs hlw
    refine ih _ cur' _ _ C1 (by simpa using hls) (by have := Z45 hlt hls hunl; omega) ?_
    refine ⟨hw1, ?_, ?_, ?_, fun j hj => he1.le.U j (hI.du j hj), ?_, hI.ext.trans he1, ?_, hlw, hcs⟩
    ·intro t x hx hno
     obtain ⟨u, h5, h6⟩ := hI.sl0 t x hx hno
     refine ⟨u, ?_, h6.mono he1.le⟩
     cases hod : o.dst with
     | none => exact h5
     | some d =>
      have hne : d ≠ t := by
       rintro rfl
       exact hno i hlt (by rw [ho]; exact hod)
      simpa [Act.put, Array.getElem?_setIfInBounds_ne hne] using h5
    ·intro j t hj hlj hjt
     by_cases e : j = i
     ·subst e
      have hod : o.dst = some t := by rw [ho] at hjt; exact hjt
      refine ⟨v, ?_, hv⟩
      have := Z0s hd t hod
      rw [← hI.sz] at this
      simp [Act.put, hod, this]
     ·rw [hset, if_neg e] at hlj
      obtain ⟨u, h5, h6⟩ := hI.sl1 j t hj hlj hjt
      refine ⟨u, ?_, h6.mono he1.le⟩
      cases hod : o.dst with
      | none => exact h5
      | some d =>
       have hne : d ≠ t := by
        rintro rfl
        exact hdst j d hj e hod hjt
       simpa [Act.put, Array.getElem?_setIfInBounds_ne hne] using h5
    ·have e1 : (a.put o.dst v).defers = a.defers := by cases o.dst <;> rfl
     rw [e1, hI.df]
     exact List.map_congr_left fun j hj => by simp [mark, he1.le.m j (hI.du j hj), he1.le.df j (hI.du j hj)]
    ·have e1 : (a.put o.dst v).tmps.size = a.tmps.size := by cases o.dst <;> simp [Act.put]
     rw [e1]; exact hI.sz
    ·intro j o2 ho2 hlj e he hb
     rw [hset]
     split
     ·rfl
     ·by_cases e2 : j = i
      ·subst e2; rw [ho] at ho2; cases ho2; exact hdeps e he hb
      ·rw [hset, if_neg e2] at hlj; exact hI.dn j o2 ho2 hlj e he hb
   have hlw0 : ws.contains i = false → ∀ u, ws.contains u = true → u < ops.size → ((listed.setIfInBounds i true).getD u false = true ↔ u < cur) := by
    intro hw u hu hus
    have : u ≠ i := fun e => by rw [e, hw] at hu; cases hu
    rw [hset, if_neg this]; exact hI.lw u hu hus
   unfold wpOpIn
   simp only [ho]
   rcases hgood with ⟨hwi, hBi, ⟨hw, hx⟩ | ⟨hw, Hn, heff, hHn, hrd⟩⟩ | ⟨hwi, hw, hx, heff⟩
   ·rw [hwant false hw]
    simp only [Bool.false_eq_true, if_false]
    exact ⟨fun _ _ => trivial, next cur undef w C (by rw [hx]; exact .v undef) hI.wr (.refl ..) hI.lc (hlw0 hwi)⟩
   ·rw [hwant true hw]
    simp only [if_true]
    refine ⟨fun _ _ => trivial, ?_⟩
    refine heff Z C (B cur) a w hI.wr ?_ hops nofun List.nodup_nil (fun _ _ => by simp) ro _ _ (fun v w1 C1 hv hw1 he1 => next cur v w1 C1 hv hw1 he1 hI.lc (hlw0 hwi))
    intro p hp
    rcases hrd with h | h
    ·subst h; cases hp
    ·have hno : ∀ j, j < cur → ws.contains j = false := by
      intro j hj
      cases hwj : ws.contains j with
      | false => rfl
      | true =>
       have hjs := hwsz j hwj
       have hlj := (hI.lw j hwj hjs).2 hj
       have hoj := Array.getElem?_eq_getElem hjs
       have := Z19 hI.dn j j i _ hoj (fun e he hb => hI.dn j _ hoj hlj e he hb) (hrw j i hwj h)
       rw [hunl] at this; cases this
     have e := Zeg hBs cur 0 (by have := hI.lc; omega) (fun j _ h2 => hno j (by omega))
     rw [Nat.zero_add] at e
     rw [e]; exact hHn p hp
   ·rw [hwant true hw]
    simp only [if_true]
    refine ⟨fun _ _ => trivial, ?_⟩
    have hge : cur ≤ i := Nat.le_of_not_lt fun h => by
     have := (hI.lw i hwi hlt).2 h
     rw [hunl] at this; cases this
    have hBi : B i = B cur := by
     have := Zeg hBs (i - cur) cur (by omega) (fun j h1 h2 => by
      cases hwj : ws.contains j with
      | false => rfl
      | true =>
       have := hanc j (hww i j hwi hwj (by omega))
       have := (hI.lw j hwj (hwsz j hwj)).1 this
       omega)
     rwa [show cur + (i - cur) = i from by omega] at this
    rw [hBi] at heff
    refine heff Z C a w hI.wr hops ro _ _ (fun v w1 C1 hv hw1 he1 => next (i + 1) v w1 C1 (by rw [hx]; exact hv) hw1 he1 (by omega) ?_)
    intro u hu hus
    rw [hset]
    by_cases e : u = i
    ·subst e; simp
    ·rw [if_neg e]
     constructor
     ·intro h; have := (hI.lw u hu hus).1 h; omega
     ·intro h; exact hanc u (hww i u hwi hu (by omega))
theorem Z0j {P : Program} {ro : Option Nat} {Q : Exit → St → Prop} {s : St} {id : Nat} {l : List Oper} (ms ws rs : List Nat) (hm : P.follows .mixedOrders = true) (ht : tidyW l.toArray ms ws rs = true)
  (h : WCalm P l.toArray s.H ws rs (Q .normal) 0 l s) : AWp P ro (.region id l.toArray true) Q s := by
 intro Z C0 H0 w0 C a w he hs
 refine wpIn_region_any hm ?_
 obtain ⟨ys, B, h0, h1, h2⟩ := h.tell (T0 := s.T) (D := s.D) (n := s.n) (fun _ => .v undef) (fun _ => s.H) (by simp) rfl rfl (fun i hi => absurd hi (Nat.not_lt_zero _))
 simp only [Nat.zero_add] at h1 h2
 have hw1 : WR C s.H { w with drawn := w.drawn + 1 } := ⟨hs.wr.hp, hs.wr.nd, fun i o hi => ⟨(hs.wr.ids i o hi).1, (hs.wr.ids i o hi).2.keep (.refl C) (hs.wr.ids i o hi).1 (fun _ _ _ => rfl)⟩, hs.wr.inj, hs.wr.dis⟩
 have he1 : Ext Z C0 H0 w0 C s.H { w with drawn := w.drawn + 1 } := ⟨he.le, he.av, he.os, he.tape, he.output, he.size, he.fr, he.nhp, he.nbl, he.nid⟩
 have hf : ∀ i, (Array.replicate l.toArray.size false).getD i false = false := by
  intro i
  rw [Array.getD_eq_getD_getElem?, Array.getElem?_replicate]
  split <;> rfl
 refine Zho (ys := ys) (B := B) (s := s) (cur := 0) ht (by simpa using h1) (by simpa using h2) l.toArray.size _ _ _ C (by simp) ?_ ?_
 ·unfold left
  rw [List.filter_eq_self.2 (fun i _ => by rw [hf]; rfl), List.length_range]
 ·refine ⟨by rw [h0]; exact hw1, fun t x hx _ => hs.sl t x hx, fun j t _ hj => (by rw [hf] at hj; cases hj), hs.df, hs.du, hs.sz, by rw [h0]; exact he1, fun i o _ hi => (by rw [hf] at hi; cases hi), fun v _ _ => by rw [hf]; simp, Nat.zero_le _⟩
section
variable {P : Program} {ops : Array Oper} {o : Oper} {rest : List Oper} {H0 : AHeap} {ws rs : List Nat} {K : St → Prop} {k : Nat} {s : St}
theorem Z8 {x : AV} (hw : Wanted ops s.T o true) (hd : dok o.dst s.n = true) (he : Eff P o s.T [] x []) (hk : ws.contains k = false) (h : WCalm P ops H0 ws rs K (k + 1) rest { s with T := put s.T o.dst x }) : WCalm P ops H0 ws rs K k (o :: rest) s :=
 .eff [] x hw hd he nofun (.inl rfl) hk h
theorem Zj {t : TypeId} {p : Operand} {id sz i c el : Nat} {es : List (List AV)} {e : List AV} {x : AV} (j : Nat) (hw : Wanted ops s.T o true) (hd : dok o.dst s.n = true)
  (ho : o.op = .load t p) (hp : ev s.T p = some (.ptr id sz i c)) (hH : H0[j]? = some (id, .rows el sz es)) (he : es[i]? = some e) (hl : Ld P t (e.drop c) x) (hr : rs.contains k = true) (hk : ws.contains k = false)
  (h : WCalm P ops H0 ws rs K (k + 1) rest { s with T := put s.T o.dst x }) : WCalm P ops H0 ws rs K k (o :: rest) s :=
 .eff [(id, .rows el sz es)] x hw hd (Z22 ho hp ⟨el, es, e, List.mem_cons_self, he, rfl⟩ hl) (fun p hp => by rw [List.mem_singleton.1 hp]; exact List.mem_of_getElem? hH) (.inr hr) hk h
theorem Zn {t n id el i : Nat} {b : Bool} {p q : Operand} {l : List ByteArray} {x : ByteArray} (j : Nat) [kt : TK P t b n] (hn1 : n = 1) (hw : Wanted ops s.T o true) (hd : dok o.dst s.n = true)
  (ho : o.op = .store t p q) (hp : ev s.T p = some (.ptr id 1 i 0)) (hH : s.H[j]? = some (id, .rows el 1 (l.map fun x => [AV.v (.string x)]))) (hi : i < l.length) (hq : ev s.T q = some (.v (.string x))) (hk : ws.contains k = true)
  (h : WCalm P ops H0 ws rs K (k + 1) rest { s with T := put s.T o.dst (.v undef), H := s.H.set j (id, .rows el 1 ((l.set i x).map fun x => [AV.v (.string x)])) }) : WCalm P ops H0 ws rs K k (o :: rest) s :=
 .write _ hw hd (Z94 j hn1 ho hp hH hi hq) hk h
end
end Go.Sx
namespace Go.Sx
open Go
abbrev xA (n : Int) : AV := .v (.int .u64 n)
theorem Z2p {n : Int} (h : 0 ≤ n ∧ n < 18446744073709551616) : IntKind.u64.wrap n = n := by
 unfold IntKind.wrap
 simp [IntKind.bits, IntKind.signed]
 omega
theorem Z2v {n : Int} (h : 0 ≤ n ∧ n < 256) : IntKind.u8.wrap n = n := by
 unfold IntKind.wrap
 simp [IntKind.bits, IntKind.signed]
 omega
def LenJ (x y n : Nat) : Prop := y * 2 ^ n ≤ x ∧ (0 < x → 0 < y)
theorem LenJ.start (x : Nat) : LenJ x x 0 := ⟨by simp, id⟩
theorem LenJ.shr {x y n : Nat} (h : LenJ x y n) (s : Nat) (hy : 2 ^ s ≤ y) : LenJ x (y / 2 ^ s) (n + s) := by
 refine ⟨?_, fun _ => Nat.div_pos hy (Nat.two_pow_pos s)⟩
 have h1 : y / 2 ^ s * 2 ^ s ≤ y := Nat.div_mul_le_self y (2 ^ s)
 calc y / 2 ^ s * 2 ^ (n + s) = (y / 2 ^ s * 2 ^ s) * 2 ^ n := by rw [Nat.pow_add]; simp only [Nat.mul_assoc, Nat.mul_comm, Nat.mul_left_comm]
  _ ≤ y * 2 ^ n := Nat.mul_le_mul_right _ h1
  _ ≤ x := h.1
theorem LenJ.fin {x y n t : Nat} (h : LenJ x y n) (ht : 0 < y → 2 ^ t ≤ 2 * y) (hx : 0 < x) : 2 ^ (n + t) ≤ 2 * x := by
 have h1 := ht (h.2 hx)
 calc 2 ^ (n + t) = 2 ^ t * 2 ^ n := by rw [Nat.pow_add, Nat.mul_comm]
  _ ≤ (2 * y) * 2 ^ n := Nat.mul_le_mul_right _ h1
  _ = 2 * (y * 2 ^ n) := by rw [Nat.mul_assoc]
  _ ≤ 2 * x := Nat.mul_le_mul_left _ h.1
theorem Zgs (x k : Nat) (hk : k ≤ 64) : ((x : Int)).fdiv (2 ^ (min ((k : Int)).toNat 64)) = ((x / 2 ^ k : Nat) : Int) := by
 have e : min ((k : Int)).toNat 64 = k := by omega
 rw [e, Int.ofNat_fdiv]; simp
theorem Zgz {v : Int} {m : Nat} (h0 : 0 < m) (hm : m ≤ 4611686018427387904) : 0 ≤ IntKind.i64.wrap (bitsI .and .u64 v (IntKind.u64.wrap ((m : Int) - 1))) ∧ IntKind.i64.wrap (bitsI .and .u64 v (IntKind.u64.wrap ((m : Int) - 1))) < m := by
 rw [Z2p (n := (m : Int) - 1) (by omega)]
 have e : (BitVec.ofInt IntKind.u64.bits ((m : Int) - 1)).toNat = m - 1 := by
  rw [BitVec.toNat_ofInt]
  simp [IntKind.bits]
  omega
 have hle : (BitVec.ofInt IntKind.u64.bits v &&& BitVec.ofInt IntKind.u64.bits ((m : Int) - 1)).toNat ≤ m - 1 := by
  rw [BitVec.toNat_and, e]; exact Nat.and_le_right
 unfold bitsI
 simp only
 generalize (BitVec.ofInt IntKind.u64.bits v &&& BitVec.ofInt IntKind.u64.bits ((m : Int) - 1)).toNat = d at hle ⊢
 rw [Z2p (by omega), Z0t (by omega)]
 omega
theorem Zgn {x k : Nat} (h0 : 0 < x) (hx : x ≤ 140737488355328) (hk : k ≤ 64 ∧ (0 < x → 2 ^ k ≤ 2 * x)) : IntKind.u64.wrap (1 * 2 ^ (min ((k : Int)).toNat IntKind.u64.bits)) = ((2 ^ k : Nat) : Int) := by
 have h := hk.2 h0
 have e : min ((k : Int)).toNat IntKind.u64.bits = k := by simp [IntKind.bits]; omega
 rw [e, Int.one_mul, show ((2 : Int) ^ k) = ((2 ^ k : Nat) : Int) from by simp]
 have h2 : (0 : Int) ≤ ((2 ^ k : Nat) : Int) := Int.natCast_nonneg _
 have h3 : ((2 ^ k : Nat) : Int) ≤ ((2 * x : Nat) : Int) := Int.ofNat_le.2 h
 generalize ((2 ^ k : Nat) : Int) = z at *
 exact Z2p (by omega)
def len8 : ByteArray := ⟨#[0, 1, 2, 2, 3, 3, 3, 3, 4, 4, 4, 4, 4, 4, 4, 4, 5, 5, 5, 5, 5, 5, 5, 5, 5, 5, 5, 5, 5, 5, 5, 5, 6, 6, 6, 6, 6, 6, 6, 6, 6, 6, 6, 6, 6, 6, 6, 6, 6, 6, 6, 6, 6, 6, 6, 6, 6, 6, 6, 6, 6, 6, 6, 6, 7, 7, 7, 7, 7, 7, 7, 7, 7, 7, 7, 7, 7, 7, 7, 7, 7, 7, 7, 7, 7, 7, 7, 7, 7, 7, 7, 7, 7, 7, 7, 7, 7, 7, 7, 7, 7, 7, 7, 7, 7, 7, 7, 7, 7, 7, 7, 7, 7, 7, 7, 7, 7, 7, 7, 7, 7, 7, 7, 7, 7, 7, 7, 7, 8, 8, 8, 8, 8, 8, 8, 8, 8, 8, 8, 8, 8, 8, 8, 8, 8, 8, 8, 8, 8, 8, 8, 8, 8, 8, 8, 8, 8, 8, 8, 8, 8, 8, 8, 8, 8, 8, 8, 8, 8, 8, 8, 8, 8, 8, 8, 8, 8, 8, 8, 8, 8, 8, 8, 8, 8, 8, 8, 8, 8, 8, 8, 8, 8, 8, 8, 8, 8, 8, 8, 8, 8, 8, 8, 8, 8, 8, 8, 8, 8, 8, 8, 8, 8, 8, 8, 8, 8, 8, 8, 8, 8, 8, 8, 8, 8, 8, 8, 8, 8, 8, 8, 8, 8, 8, 8, 8, 8, 8, 8, 8, 8, 8, 8, 8, 8, 8, 8, 8, 8, 8, 8, 8, 8, 8, 8, 8]⟩
theorem Z0a : ∀ y : Fin 256, 0 ≤ byteAt len8 (y.val : Int) ∧ byteAt len8 (y.val : Int) ≤ 8 ∧ (0 < y.val → 2 ^ (byteAt len8 (y.val : Int)).toNat ≤ 2 * y.val) := by decide +kernel
theorem Z1p {u : ByteArray} (h : u = len8) (k : Int) : uA (byteAt u k) = uA (byteAt len8 k) := by rw [h]
theorem Z13 {u : ByteArray} {k : Int} (h : u = len8) (hk : k < 256) : k < u.size := by rw [h, show len8.size = 256 from by decide +kernel]; exact hk
variable {P : Program} {ro : Option Nat} {Q : Exit → St → Prop} {s : St}
theorem Z08 {c : Code} {k : IntKind} {b : Nat} (t : Nat) (ht : lk s.T t = some (.v (.int k (b : Int)))) (h : ∀ d : Nat, d = b → AWp P ro c Q { s with T := (t, .v (.int k (d : Int))) :: s.T }) : AWp P ro c Q s := Z15 (Z53 ht) (h b rfl)
end Go.Sx
namespace Go.Sx
open Go
def idxFrom {α : Type} (f : α → Bool) : List α → Nat → Int
 | [], _ => -1
 | a :: r, i => if f a then i else idxFrom f r (i + 1)
def Prog.av (p : Prog) : AV := .agg p.cells
def classAt (p : Prog) (nm : Str) : Int := idxFrom (fun c => beqS c.name nm) p.classes 0
def inL (l : List Str) (s : Str) : Bool := l.any fun x => beqS x s
theorem Zej (x : Str) (l : List Str) (s : Str) : inL (x :: l) s = (beqS x s || inL l s) := rfl
theorem Z9g {a : Bool} (h : (!a) = false) : a = true := by cases a <;> simp_all
theorem Z30 {α : Type} {l : List α} {i : Nat} (h : i < l.length) : l.drop i = l[i] :: l.drop (i + 1) := List.drop_eq_getElem_cons h
theorem Z74 {α : Type} {l : List α} {i : Nat} (h : ¬ i < l.length) : l.drop i = [] := List.drop_of_length_le (by omega)
def Fact.av (f : Fact) : AV := .agg f.cells
def Ty.av (t : Ty) : AV := .agg t.cells
def Cls.av (c : Cls) : AV := .agg c.cells
def clsFind (p : Prog) (nm : Str) : Option Cls := p.classes.find? fun c => beqS c.name nm
def ifaceP (p : Prog) (nm : Str) : Bool := match clsFind p nm with | some c => c.iface | none => false
def isRefK (k : Int) : Bool := decide (2 ≤ k) && decide (k ≤ 6)
def eqF (a b : Fact) : Bool := a.kind == b.kind && beqS a.cls b.cls
def zS : Str := ⟨#[]⟩
def ofT (t : Ty) : Fact :=
 if t.kind = 2 then ⟨1, zS⟩ else if t.kind = 3 then ⟨3, t.cls⟩ else if t.kind = 4 then ⟨4, zS⟩ else if t.kind = 5 then ⟨5, t.cls⟩ else ⟨0, zS⟩
def joinBy (com : Str → Str → Str) (a b : Fact) : Fact :=
 if eqF a b then a else if !isRefK a.kind || !isRefK b.kind then ⟨0, zS⟩ else if a.kind = 2 then b else if b.kind = 2 then a
 else if a.kind = 3 ∧ b.kind = 3 then (if beqS (com a.cls b.cls) zS then ⟨6, zS⟩ else ⟨3, com a.cls b.cls⟩) else ⟨6, zS⟩
def zCls : List AV := [sA zS, sA zS, bA false, bA false, .v (.slice none 0 0), .v (.slice none 0 0), .v (.slice none 0 0)]
def knownA : Option Cls → AV
 | some c => .tup [.agg c.cells, bA true]
 | none => .tup [.agg zCls, bA false]
def upC (c : Cls) : List Str := if beqS c.super zS then c.ifaces else c.super :: c.ifaces
instance : Inhabited Cls := ⟨⟨⟨#[]⟩, ⟨#[]⟩, false, false, [], [], []⟩⟩
instance : Inhabited Fld := ⟨⟨⟨#[]⟩, ⟨0, ⟨#[]⟩⟩, false⟩⟩
instance : Inhabited Meth := ⟨⟨⟨#[]⟩, ⟨#[]⟩, false, false, 0, []⟩⟩
instance : Inhabited Instr := ⟨⟨0, 0, 0, 0, 0, ⟨#[]⟩, ⟨#[]⟩, ⟨#[]⟩, []⟩⟩
instance : Inhabited Fact := ⟨⟨0, ⟨#[]⟩⟩⟩
theorem Z4x {α β : Type} [Inhabited α] {l : List α} {f : α → β} {i : Nat} (h : i < l.length) : (l.map f)[i]? = some (f (l.getD i default)) := by simp [h, List.getD]
def sameF : List Fact → List Fact → Bool
 | [], [] => true
 | x :: l, y :: r => eqF x y && sameF l r
 | _, _ => false
theorem Z23 {α : Type} (f : α → Bool) : ∀ (l : List α) (k : Nat), (idxFrom f l k = -1 ∧ l.find? f = none) ∨ ∃ (j : Nat) (h : j < l.length), idxFrom f l k = ((k + j : Nat) : Int) ∧ l.find? f = some l[j] ∧ f l[j] = true
 | [], k => .inl ⟨rfl, rfl⟩
 | a :: r, k => by
  simp only [idxFrom]
  cases hf : f a with
  | true => exact .inr ⟨0, by simp, by simp, by simp [List.find?, hf], by simpa using hf⟩
  | false =>
   rcases Z23 f r (k + 1) with ⟨h1, h2⟩ | ⟨j, h, h1, h2, h3⟩
   ·exact .inl ⟨by simpa using h1, by simp [List.find?, hf, h2]⟩
   ·exact .inr ⟨j + 1, by simp; omega, by simp [h1]; omega, by simp [List.find?, hf, h2], by simpa using h3⟩
theorem Z1n {α : Type} [DecidableEq α] : ∀ {l m : List α}, l.Nodup → (∀ x, x ∈ l → x ∈ m) → l.length ≤ m.length
 | [], m, _, _ => Nat.zero_le _
 | x :: l, m, hn, hs => by
  rw [List.nodup_cons] at hn
  have hx : x ∈ m := hs x List.mem_cons_self
  have h1 : ∀ y, y ∈ l → y ∈ m.erase x := fun y hy => (List.mem_erase_of_ne (by rintro rfl; exact hn.1 hy)).2 (hs y (List.mem_cons_of_mem _ hy))
  have h2 := Z1n hn.2 h1
  have h3 := List.length_erase_of_mem hx
  have h4 : 0 < m.length := List.length_pos_of_mem hx
  simp only [List.length_cons]
  omega
theorem inL_mem {l : List Str} {s : Str} : inL l s = true ↔ s ∈ l := by
 simp only [inL, List.any_eq_true, beqS_iff]
 exact ⟨fun ⟨x, h, e⟩ => e ▸ h, fun h => ⟨s, h, rfl⟩⟩
theorem inL_false {l : List Str} {s : Str} : inL l s = false ↔ s ∉ l := by
 rw [← inL_mem]; cases inL l s <;> simp
def supF (p : Prog) : Nat → Str → List Str → List Str
 | 0, _, out => out
 | n + 1, nm, out => match clsFind p nm with
  | none => out
  | some c => if inL out c.name then out else if beqS c.super zS then out ++ [c.name] else supF p n c.super (out ++ [c.name])
def supers (p : Prog) (nm : Str) : List Str := supF p (p.classes.length + 1) nm []
theorem Z0q {p : Prog} {nm : Str} {c : Cls} (h : clsFind p nm = some c) : c.name = nm ∧ c ∈ p.classes := by
 unfold clsFind at h
 have h1 := List.find?_some h
 exact ⟨beqS_iff.1 h1, List.mem_of_find?_eq_some h⟩
structure SupJ (p : Prog) (nm0 nm : Str) (out : List Str) : Prop where
 nd : out.Nodup
 sub : ∀ x, x ∈ out → x ∈ p.classes.map Cls.name
 eq : supF p (p.classes.length + 1 - out.length) nm out = supers p nm0
theorem SupJ.len {p : Prog} {nm0 nm : Str} {out : List Str} (h : SupJ p nm0 nm out) : out.length ≤ p.classes.length := by
 have := Z1n h.nd h.sub
 simpa using this
theorem SupJ.start (p : Prog) (nm : Str) : SupJ p nm nm [] := ⟨List.nodup_nil, nofun, rfl⟩
theorem SupJ.eq' {p : Prog} {nm0 nm : Str} {out : List Str} (h : SupJ p nm0 nm out) : (match clsFind p nm with
  | none => out
  | some c => if inL out c.name then out else if beqS c.super zS then out ++ [c.name] else supF p (p.classes.length - out.length) c.super (out ++ [c.name])) = supers p nm0 := by
 have h1 := h.eq
 have h2 := h.len
 rw [show p.classes.length + 1 - out.length = (p.classes.length - out.length) + 1 from by omega] at h1
 exact h1
theorem SupJ.none {p : Prog} {nm0 nm : Str} {out : List Str} (h : SupJ p nm0 nm out) (hc : clsFind p nm = none) : out = supers p nm0 := by have := h.eq'; rwa [hc] at this
theorem SupJ.top {p : Prog} {nm0 nm : Str} {out : List Str} {c : Cls} (h : SupJ p nm0 nm out) (hc : clsFind p nm = some c) (hi : inL out c.name = false) (hs : beqS c.super zS = true) : out ++ [c.name] = supers p nm0 := by
 have := h.eq'; simpa [hc, hi, hs] using this
theorem SupJ.sub1 {p : Prog} {nm0 nm : Str} {out : List Str} {c : Cls} (h : SupJ p nm0 nm out) (hc : clsFind p nm = some c) (hi : inL out c.name = false) : (out ++ [c.name]).Nodup ∧ ∀ x, x ∈ out ++ [c.name] → x ∈ p.classes.map Cls.name := by
 refine ⟨?_, ?_⟩
 ·rw [List.nodup_append]
  refine ⟨h.nd, by simp, ?_⟩
  intro a ha b hb
  rw [List.mem_singleton] at hb
  rintro rfl
  subst hb
  exact inL_false.1 hi ha
 ·intro x hx
  rcases List.mem_append.1 hx with hx | hx
  ·exact h.sub x hx
  ·rw [List.mem_singleton] at hx
   subst hx
   exact List.mem_map.2 ⟨c, (Z0q hc).2, rfl⟩
theorem SupJ.next {p : Prog} {nm0 nm : Str} {out : List Str} {c : Cls} (h : SupJ p nm0 nm out) (hc : clsFind p nm = some c) (hi : inL out c.name = false) (hs : beqS c.super zS = false) : SupJ p nm0 c.super (out ++ [c.name]) := by
 obtain ⟨h1, h2⟩ := h.sub1 hc hi
 refine ⟨h1, h2, ?_⟩
 have h3 := h.eq'
 have h4 := Z1n h1 h2
 simp only [List.length_append, List.length_map, List.length_cons, List.length_nil] at h4
 rw [hc] at h3
 simp only [hi, hs, Bool.false_eq_true, if_false] at h3
 rw [show p.classes.length + 1 - (out ++ [c.name]).length = p.classes.length - out.length from by simp]
 exact h3
theorem SupJ.lt {p : Prog} {nm0 nm : Str} {out : List Str} {c : Cls} (h : SupJ p nm0 nm out) (hc : clsFind p nm = some c) (hi : inL out c.name = false) : out.length + 1 ≤ p.classes.length := by
 obtain ⟨h1, h2⟩ := h.sub1 hc hi
 have h4 := Z1n h1 h2
 simpa using h4
def comF (x y : List Str) : Str := (x.find? fun s => inL y s).getD zS
def com (p : Prog) (a b : Str) : Str := if !beqS a b && (ifaceP p a || ifaceP p b) then zS else comF (supers p a) (supers p b)
def mergeF (j : Fact → Fact → Fact) : List Fact → List Fact → List Fact
 | x :: l, y :: r => j x y :: mergeF j l r
 | _, _ => []
def greatI (x : Instr) : Bool := decide (x.args.length > 60) || decide (x.cls.size > 300) || decide (x.name.size > 300) || decide (x.desc.size > 300)
def greatM0 (m : Meth) : Bool := decide (m.code.length > 300) || decide (m.name.size > 300) || decide (m.desc.size > 300)
def greatM (m : Meth) : Bool := greatM0 m || m.code.any greatI
def greatC0 (c : Cls) : Bool := decide (c.ifaces.length > 40) || decide (c.fields.length > 40) || decide (c.methods.length > 40) || decide (c.name.size > 300) || decide (c.super.size > 300)
def greatC (c : Cls) : Bool := greatC0 c || c.methods.any greatM
def greatP0 (p : Prog) : Bool := decide (p.classes.length > 70) || decide (p.names.length > 70)
def greatP (p : Prog) : Bool := greatP0 p || p.classes.any greatC
def PairsR (f t : Nat) (x y : AV) : AEnd → AHeap → Prop := fun e H => ∃ i1 i2, e = .ret (.fn (.func f) [.ptr i1 1 0 0, .ptr i2 1 0 0]) ∧ H = [(i2, .rows t 1 [[y]]), (i1, .rows t 1 [[x]])]
theorem Zbn (a b : Str) : beqS a b = beqS b a := by
 cases h : beqS b a with
 | true => exact beqS_iff.2 (beqS_iff.1 h).symm
 | false => cases h2 : beqS a b with
  | true => rw [beqS_iff.2 (beqS_iff.1 h2).symm] at h; cases h
  | false => rfl
def setM (out : List Str) : List (Value × AV) := out.map fun s => (.string s, bA true)
theorem Z8n (out : List Str) : strKeys (setM out) := by
 intro k x h
 obtain ⟨s, _, e⟩ := List.mem_map.1 h
 cases e
 exact ⟨s, rfl⟩
theorem Z7e : ∀ (out : List Str) (k : Str), mget (setM out) k = if inL out k then some (bA true) else none
 | [], k => rfl
 | x :: out, k => by
  have ih := Z7e out k
  unfold setM at ih ⊢
  simp only [List.map_cons, mget, skey, Zej, ih, Zbn x k]
  cases beqS k x <;> simp
theorem Zer (out : List Str) (k : Str) (h : inL out k = false) : mput (setM out) k (bA true) = setM (out ++ [k]) := by
 rw [Z5r _ _ _ (by rw [Z7e, h]; rfl)]
 simp [setM]
section
variable {P : Program} {ro : Option Nat} {Q : Exit → St → Prop} {s : St} {ops : Array Oper} {o : Oper} {rest : List Oper} {T : List (Nat × AV)}
theorem Ze5 {t kt et id : Nat} {p q : Operand} {k : ByteArray} {out : List Str} [hu : UD P t (.map kt et)] [hk : UD P kt .string] [hz : ZV P et (.bool false)] (ho : o.op = .lookup t p q false)
  (hp : ev T p = some (.map id)) (hq : ev T q = some (.v (.string k))) : Eff P o T [(id, .mp (setM out))] (.v (.bool (inL out k))) [] := by
 have h := Z66 (P := P) (T := T) ho hp hq (Z8n out)
 rw [Z7e] at h
 cases hi : inL out k <;> simpa [hi] using h
theorem Zbj {t kt et id : Nat} {p q : Operand} {k : ByteArray} {out : List Str} (j : Nat) [hu : UD P t (.map kt et)] [hk : UD P kt .string] [hz : ZV P et (.bool false)] (hw : Wanted ops s.T o true) (hd : dok o.dst s.n = true) (ho : o.op = .lookup t p q false)
  (hp : ev s.T p = some (.map id)) (hq : ev s.T q = some (.v (.string k))) (hH : s.H[j]? = some (id, .mp (setM out))) (h : AOps P ro ops rest Q { s with T := put s.T o.dst (.v (.bool (inL out k))) }) : AOps P ro ops (o :: rest) Q s :=
 Z3q [(id, .mp (setM out))] _ hw hd (Ze5 ho hp hq) (fun p hp => by rw [List.mem_singleton.1 hp]; exact List.mem_of_getElem? hH) h
theorem Zbk {t kt et id : Nat} {p q r : Operand} {key : ByteArray} {out : List Str} (k : Nat) [hu : UD P t (.map kt et)] [hk : UD P kt .string] (hw : Wanted ops s.T o true) (hd : dok o.dst s.n = true)
  (ho : o.op = .mapUpdate t p q r) (hp : ev s.T p = some (.map id)) (hH : s.H[k]? = some (id, .mp (setM out))) (hq : ev s.T q = some (.v (.string key))) (hr : ev s.T r = some (.v (.bool true))) (hin : inL out key = false)
  (h : AOps P ro ops rest Q { s with T := put s.T o.dst (.v undef), H := s.H.set k (id, .mp (setM (out ++ [key]))) }) : AOps P ro ops (o :: rest) Q s := by
 refine Z3r k hw hd ho hp hH hq hr (Z8n out) ?_
 rw [Zer out key hin]
 exact h
end
theorem Zal (p : Prog) : ∀ (n : Nat) (nm : Str) (out : List Str), ∃ suf, supF p n nm out = out ++ suf
 | 0, _, out => ⟨[], by simp [supF]⟩
 | n + 1, nm, out => by
  unfold supF
  cases clsFind p nm with
  | none => exact ⟨[], by simp⟩
  | some c =>
   simp only
   split
   ·exact ⟨[], by simp⟩
   ·split
    ·exact ⟨[c.name], rfl⟩
    ·obtain ⟨suf, h⟩ := Zal p n c.super (out ++ [c.name])
     exact ⟨c.name :: suf, by rw [h]; simp⟩
theorem SupJ.pre {p : Prog} {nm0 nm : Str} {out : List Str} {c : Cls} (h : SupJ p nm0 nm out) (hc : clsFind p nm = some c) (hi : inL out nm = false) : ∃ suf, supers p nm0 = out ++ nm :: suf := by
 have hn := (Z0q hc).1
 have := h.eq'
 rw [hc] at this
 simp only [hn, hi, Bool.false_eq_true, if_false] at this
 split at this
 ·exact ⟨[], this.symm⟩
 ·obtain ⟨suf, h2⟩ := Zal p (p.classes.length - out.length) c.super (out ++ [nm])
  rw [h2] at this
  exact ⟨suf, by rw [← this]; simp⟩
def AboveR (f t n u : Nat) (cells : List AV) (nm : Str) : AEnd → AHeap → Prop := fun e H => ∃ i1 i2, e = .ret (.fn (.func f) [.ptr i1 n 0 0, .ptr i2 1 0 0]) ∧ H = [(i2, .rows u 1 [[sA nm]]), (i1, .rows t n [cells])]
inductive Anc (p : Prog) (nm : Str) : Str → Prop
 | base {c : Cls} (h : clsFind p nm = some c) : Anc p nm nm
 | step {s u : Str} {c d : Cls} (h : Anc p nm s) (hc : clsFind p s = some c) (hu : u ∈ upC c) (hd : clsFind p u = some d) : Anc p nm u
structure AncJ (p : Prog) (nm : Str) (todo out : List Str) : Prop where
 nd : out.Nodup
 sub : ∀ x, x ∈ out → x ∈ p.classes.map Cls.name
 snd : ∀ x, x ∈ out → Anc p nm x
 tsnd : ∀ x, x ∈ todo → ∀ c, clsFind p x = some c → Anc p nm x
 cl : ∀ s, s ∈ out → ∀ c, clsFind p s = some c → ∀ u, u ∈ upC c → ∀ d, clsFind p u = some d → u ∈ out ∨ u ∈ todo
 st : ∀ c, clsFind p nm = some c → nm ∈ out ∨ nm ∈ todo
theorem AncJ.start (p : Prog) (nm : Str) : AncJ p nm [nm] [] :=
 ⟨List.nodup_nil, nofun, nofun, fun x hx c hc => by rw [List.mem_singleton.1 hx] at hc ⊢; exact .base hc, nofun, fun _ _ => .inr List.mem_cons_self⟩
theorem AncJ.fin {p : Prog} {nm : Str} {out : List Str} (h : AncJ p nm [] out) (s : Str) : s ∈ out ↔ Anc p nm s := by
 refine ⟨h.snd s, fun ha => ?_⟩
 induction ha with
 | base hc => exact (h.st _ hc).resolve_right nofun
 | step _ hc hu hd ih => exact (h.cl _ ih _ hc _ hu _ hd).resolve_right nofun
theorem AncJ.skip {p : Prog} {nm sx : Str} {t out : List Str} (h : AncJ p nm (t ++ [sx]) out) (hs : clsFind p sx = none ∨ sx ∈ out) : AncJ p nm t out := by
 refine ⟨h.nd, h.sub, h.snd, fun x hx => h.tsnd x (List.mem_append_left _ hx), ?_, ?_⟩
 ·intro s hs' c hc u hu d hd
  rcases h.cl s hs' c hc u hu d hd with h1 | h1
  ·exact .inl h1
  ·rcases List.mem_append.1 h1 with h2 | h2
   ·exact .inr h2
   ·rw [List.mem_singleton] at h2
    subst h2
    rcases hs with h3 | h3
    ·rw [h3] at hd; cases hd
    ·exact .inl h3
 ·intro c hc
  rcases h.st c hc with h1 | h1
  ·exact .inl h1
  ·rcases List.mem_append.1 h1 with h2 | h2
   ·exact .inr h2
   ·rw [List.mem_singleton] at h2
    subst h2
    rcases hs with h3 | h3
    ·rw [h3] at hc; cases hc
    ·exact .inl h3
theorem AncJ.sub1 {p : Prog} {nm sx : Str} {t out : List Str} {c : Cls} (h : AncJ p nm (t ++ [sx]) out) (hc : clsFind p sx = some c) (hn : sx ∉ out) : (out ++ [sx]).Nodup ∧ ∀ x, x ∈ out ++ [sx] → x ∈ p.classes.map Cls.name := by
 refine ⟨?_, ?_⟩
 ·rw [List.nodup_append]
  refine ⟨h.nd, by simp, ?_⟩
  intro a ha b hb
  rw [List.mem_singleton] at hb
  subst hb
  rintro rfl
  exact hn ha
 ·intro x hx
  rcases List.mem_append.1 hx with hx | hx
  ·exact h.sub x hx
  ·rw [List.mem_singleton] at hx
   subst hx
   obtain ⟨h1, h2⟩ := Z0q hc
   exact List.mem_map.2 ⟨c, h2, h1⟩
theorem AncJ.add {p : Prog} {nm sx : Str} {t out : List Str} {c : Cls} (h : AncJ p nm (t ++ [sx]) out) (hc : clsFind p sx = some c) (hn : sx ∉ out) : AncJ p nm (t ++ upC c) (out ++ [sx]) := by
 have ha : Anc p nm sx := h.tsnd sx (List.mem_append_right _ List.mem_cons_self) c hc
 refine ⟨(h.sub1 hc hn).1, (h.sub1 hc hn).2, ?_, ?_, ?_, ?_⟩
 ·intro x hx
  rcases List.mem_append.1 hx with hx | hx
  ·exact h.snd x hx
  ·rw [List.mem_singleton.1 hx]; exact ha
 ·intro x hx d hd
  rcases List.mem_append.1 hx with hx | hx
  ·exact h.tsnd x (List.mem_append_left _ hx) d hd
  ·exact .step ha hc hx hd
 ·intro s hs' c' hc' u hu d hd
  rcases List.mem_append.1 hs' with hs' | hs'
  ·rcases h.cl s hs' c' hc' u hu d hd with h1 | h1
   ·exact .inl (List.mem_append_left _ h1)
   ·rcases List.mem_append.1 h1 with h2 | h2
    ·exact .inr (List.mem_append_left _ h2)
    ·exact .inl (List.mem_append_right _ h2)
  ·rw [List.mem_singleton] at hs'
   subst hs'
   rw [hc] at hc'; cases hc'
   exact .inr (List.mem_append_right _ hu)
 ·intro c' hc'
  rcases h.st c' hc' with h1 | h1
  ·exact .inl (List.mem_append_left _ h1)
  ·rcases List.mem_append.1 h1 with h2 | h2
   ·exact .inr (List.mem_append_left _ h2)
   ·exact .inl (List.mem_append_right _ h2)
theorem AncJ.lt {p : Prog} {nm sx : Str} {t out : List Str} {c : Cls} (h : AncJ p nm (t ++ [sx]) out) (hc : clsFind p sx = some c) (hn : sx ∉ out) : out.length + 1 ≤ p.classes.length := by
 have h4 := Z1n (h.sub1 hc hn).1 (h.sub1 hc hn).2
 simpa using h4
theorem AncJ.len {p : Prog} {nm : Str} {t out : List Str} (h : AncJ p nm t out) : out.length ≤ p.classes.length := by
 have h4 := Z1n h.nd h.sub
 simpa using h4
def MapR (p : Prog) (nm : Str) : AEnd → AHeap → Prop := fun e H => ∃ q out, e = .ret (.map q) ∧ H = [(q, .mp (setM out))] ∧ ∀ s, s ∈ out ↔ Anc p nm s
noncomputable def subP (p : Prog) (a b : Str) : Bool := open Classical in decide (Anc p a b)
def fitsBy (sub : Bool) (f : Fact) (t : Ty) : Bool :=
 if t.kind = 2 then f.kind == 1 else if t.kind = 3 then f.kind == 2 || (f.kind == 3 && sub) else if t.kind = 4 then f.kind == 2 || f.kind == 4 else if t.kind = 5 then f.kind == 2 || (f.kind == 5 && beqS f.cls t.cls) else false
theorem Z28 (a : Str) : beqS a a = true := beqS_iff.2 rfl
def ancRun (p : Prog) : Nat → List Str → List Str → Option (List Str)
 | 0, _, _ => none
 | n + 1, todo, out => match todo.getLast? with
  | none => some out
  | some s => match clsFind p s with
   | none => ancRun p n todo.dropLast out
   | some c => if inL out s then ancRun p n todo.dropLast out else ancRun p n (todo.dropLast ++ upC c) (out ++ [s])
def nA : Str := ⟨#[65]⟩
def nB : Str := ⟨#[66]⟩
def nC : Str := ⟨#[67]⟩
def lvCA : Cls := ⟨nA, zS, false, false, [], [], []⟩
def lvCB : Cls := ⟨nB, nA, false, false, [], [], []⟩
def lvCC : Cls := ⟨nC, nA, false, false, [], [], []⟩
def lvP : Prog := ⟨[lvCA, lvCB, lvCC], [], ⟨zS, zS, zS⟩⟩
end Go.Sx
namespace Go.Sx
open Go
structure LtOK {α : Type} (lt : α → α → Bool) : Prop where
 irr : ∀ x, lt x x = false
 asy : ∀ x y, lt x y = true → lt y x = false
 tr : ∀ x y z, lt y x = false → lt z y = false → lt z x = false
section
variable {α : Type} [Inhabited α]
def swp (l : List α) (i j : Nat) : List α := (l.set i (l.getD j default)).set j (l.getD i default)
theorem Z62 (l : List α) (i j : Nat) : (swp l i j).length = l.length := by simp [swp]
theorem Z3l {l : List α} {i j : Nat} (hi : i < l.length) (hj : j < l.length) (k : Nat) : (swp l i j).getD k default = if k = j then l.getD i default else if k = i then l.getD j default else l.getD k default := by
 unfold swp
 simp only [List.getD_eq_getElem?_getD, List.getElem?_set, List.length_set]
 by_cases h1 : j = k
 ·subst h1; simp [hj]
 ·by_cases h2 : i = k
  ·subst h2; simp [h1, Ne.symm h1, hi]
  ·simp [h1, h2, Ne.symm h1, Ne.symm h2]
theorem Z7j {l : List α} {i j : Nat} (hi : i < l.length) (hj : j < l.length) : (swp l i j).getD i default = l.getD j default := by
 rw [Z3l hi hj]; by_cases h : i = j
 ·subst h; simp
 ·simp [h]
theorem Zbd {l : List α} {i j : Nat} (hi : i < l.length) (hj : j < l.length) : (swp l i j).getD j default = l.getD i default := by rw [Z3l hi hj]; simp
theorem Z20 {l : List α} {i j k : Nat} (hi : i < l.length) (hj : j < l.length) (h1 : k ≠ i) (h2 : k ≠ j) : (swp l i j).getD k default = l.getD k default := by rw [Z3l hi hj]; simp [h1, h2]
theorem Zez {l : List α} {i j : Nat} (hi : i < l.length) (hj : j < l.length) : (swp l i j).Perm l := by
 unfold swp
 rw [show l.getD i default = l[i] from by simp [List.getD, hi], show l.getD j default = l[j] from by simp [List.getD, hj]]
 exact List.set_set_perm hi hj
inductive Sw (a b : Nat) (l : List α) : List α → Prop
 | refl : Sw a b l l
 | step {m : List α} (i j : Nat) (h : Sw a b l m) (hi : a ≤ i ∧ i < b) (hj : a ≤ j ∧ j < b) (hb : b ≤ m.length) : Sw a b l (swp m i j)
theorem Sw.len {a b : Nat} {l m : List α} (h : Sw a b l m) : m.length = l.length := by
 induction h with
 | refl => rfl
 | step i j _ _ _ _ ih => rw [Z62, ih]
theorem Sw.out {a b : Nat} {l m : List α} (h : Sw a b l m) {k : Nat} (hk : k < a ∨ b ≤ k) : m.getD k default = l.getD k default := by
 induction h with
 | refl => rfl
 | step i j _ hi hj hb ih => rw [Z20 (by omega) (by omega) (by omega) (by omega), ih]
theorem Sw.all {a b : Nat} {l m : List α} (h : Sw a b l m) {Q : α → Prop} (hq : ∀ k, a ≤ k → k < b → Q (l.getD k default)) : ∀ k, a ≤ k → k < b → Q (m.getD k default) := by
 induction h with
 | refl => exact hq
 | step i j _ hi hj hb ih =>
  intro k h1 h2
  rw [Z3l (by omega) (by omega)]
  split
  ·exact ih i hi.1 hi.2
  ·split
   ·exact ih j hj.1 hj.2
   ·exact ih k h1 h2
theorem Sw.perm {a b : Nat} {l m : List α} (h : Sw a b l m) : m.Perm l := by
 induction h with
 | refl => exact .refl _
 | step i j _ hi hj hb ih => exact (Zez (by omega) (by omega)).trans ih
theorem Sw.trans {a b : Nat} {l m r : List α} (h : Sw a b l m) (k : Sw a b m r) : Sw a b l r := by
 induction k with
 | refl => exact h
 | step i j _ hi hj hb ih => exact .step i j ih hi hj hb
theorem Sw.mono {a b a' b' : Nat} {l m : List α} (h : Sw a b l m) (ha : a' ≤ a) (hb' : b ≤ b') (hl : b' ≤ l.length) : Sw a' b' l m := by
 induction h with
 | refl => exact .refl
 | step i j h hi hj hb ih => exact .step i j ih (by omega) (by omega) (by rw [h.len]; exact hl)
variable {lt : α → α → Bool}
def SAdj (lt : α → α → Bool) (a b : Nat) (l : List α) : Prop := ∀ k, a < k → k < b → lt (l.getD k default) (l.getD (k - 1) default) = false
def SOn (lt : α → α → Bool) (a b : Nat) (l : List α) : Prop := ∀ i j, a ≤ i → i ≤ j → j < b → lt (l.getD j default) (l.getD i default) = false
theorem SAdj.on (hO : LtOK lt) {a b : Nat} {l : List α} (h : SAdj lt a b l) : SOn lt a b l := by
 intro i j h1 h2 h3
 induction j with
 | zero =>
  have : i = 0 := by omega
  subst this; exact hO.irr _
 | succ j ih =>
  rcases Nat.lt_or_ge j i with h4 | h4
  ·have : i = j + 1 := by omega
   subst this; exact hO.irr _
  ·exact hO.tr _ _ _ (ih h4 (by omega)) (h (j + 1) (by omega) h3)
theorem SAdj.refl1 {a b : Nat} {l : List α} (h : b ≤ a + 1) : SAdj lt a b l := fun k h1 h2 => by omega
structure Ins (lt : α → α → Bool) (a j i : Nat) (l : List α) : Prop where
 one : ∀ k, a < k → k ≤ i → k ≠ j → lt (l.getD k default) (l.getD (k - 1) default) = false
 two : j < i → a < j → lt (l.getD (j + 1) default) (l.getD (j - 1) default) = false
theorem Ins.start {a i : Nat} {l : List α} (h : SAdj lt a i l) : Ins lt a i i l := ⟨fun k h1 h2 h3 => h k h1 (by omega), fun h => by omega⟩
theorem Ins.step (hO : LtOK lt) {a j i : Nat} {l : List α} (h : Ins lt a j i l) (hj : a < j) (hi : j ≤ i) (hl : i < l.length) (hlt : lt (l.getD j default) (l.getD (j - 1) default) = true) : Ins lt a (j - 1) i (swp l j (j - 1)) := by
 have hjl : j < l.length := by omega
 have hjl1 : j - 1 < l.length := by omega
 refine ⟨fun k h1 h2 h3 => ?_, fun h1 h2 => ?_⟩
 ·by_cases e1 : k = j
  ·subst e1; rw [Z7j hjl hjl1, Zbd hjl hjl1]; exact hO.asy _ _ hlt
  ·by_cases e2 : k = j + 1
   ·subst e2
    rw [Z20 hjl hjl1 (by omega) (by omega), show j + 1 - 1 = j from by omega, Z7j hjl hjl1]
    exact h.two (by omega) hj
   ·rw [Z20 hjl hjl1 e1 h3, Z20 hjl hjl1 (by omega) (by omega)]; exact h.one k h1 h2 e1
 ·rw [show j - 1 + 1 = j from by omega, Z7j hjl hjl1, Z20 hjl hjl1 (by omega) (by omega)]
  exact h.one (j - 1) h2 (by omega) (by omega)
theorem Ins.done {a j i : Nat} {l : List α} (h : Ins lt a j i l) (he : j ≤ a ∨ lt (l.getD j default) (l.getD (j - 1) default) = false) : SAdj lt a (i + 1) l := by
 intro k h1 h2
 by_cases e : k = j
 ·subst e; rcases he with he | he; omega; exact he
 ·exact h.one k h1 (by omega) e
def hp (l : List α) (f x : Nat) : α := l.getD (f + x) default
def Heap (lt : α → α → Bool) (lo hi f : Nat) (l : List α) : Prop := ∀ x c, lo ≤ x → (c = 2 * x + 1 ∨ c = 2 * x + 2) → c < hi → lt (hp l f x) (hp l f c) = false
structure Sift (lt : α → α → Bool) (lo hi f root : Nat) (l : List α) : Prop where
 one : ∀ x c, lo ≤ x → x ≠ root → (c = 2 * x + 1 ∨ c = 2 * x + 2) → c < hi → lt (hp l f x) (hp l f c) = false
 two : ∀ x c, lo ≤ x → (root = 2 * x + 1 ∨ root = 2 * x + 2) → (c = 2 * root + 1 ∨ c = 2 * root + 2) → c < hi → lt (hp l f x) (hp l f c) = false
theorem Sift.start {lo hi f : Nat} {l : List α} (h : Heap lt (lo + 1) hi f l) : Sift lt lo hi f lo l :=
 ⟨fun x c h1 h2 h3 h4 => h x c (by omega) h3 h4, fun x c h1 h2 => by omega⟩
theorem Za6 {l : List α} {f i j k : Nat} (hi : f + i < l.length) (hj : f + j < l.length) : hp (swp l (f + i) (f + j)) f k = if k = j then hp l f i else if k = i then hp l f j else hp l f k := by
 unfold hp; rw [Z3l hi hj]; simp only [Nat.add_left_cancel_iff]
theorem Sift.step (hO : LtOK lt) {lo hi f root c0 : Nat} {l : List α} (h : Sift lt lo hi f root l) (hlo : lo ≤ root) (hc : c0 = 2 * root + 1 ∨ c0 = 2 * root + 2) (hch : c0 < hi) (hl : f + hi ≤ l.length)
  (hmax : ∀ c, (c = 2 * root + 1 ∨ c = 2 * root + 2) → c < hi → lt (hp l f c0) (hp l f c) = false) (hlt : lt (hp l f root) (hp l f c0) = true) : Sift lt lo hi f c0 (swp l (f + root) (f + c0)) := by
 have h1 : f + root < l.length := by omega
 have h2 : f + c0 < l.length := by omega
 refine ⟨fun x c hx hne hcx hcl => ?_, fun x c hx hcx hcc hcl => ?_⟩
 ·rw [Za6 h1 h2, Za6 h1 h2, if_neg hne]
  by_cases e : x = root
  ·subst e
   rw [if_pos rfl]
   by_cases e2 : c = c0
   ·subst e2; rw [if_pos rfl]; exact hO.asy _ _ hlt
   ·rw [if_neg e2, if_neg (by omega)]; exact hmax c hcx hcl
  ·rw [if_neg e, if_neg (by omega : c ≠ c0)]
   by_cases e2 : c = root
   ·subst e2; rw [if_pos rfl]; exact h.two x c0 hx hcx hc hch
   ·rw [if_neg e2]; exact h.one x c hx e hcx hcl
 ·have e : x = root := by omega
  subst e
  rw [Za6 h1 h2, Za6 h1 h2, if_neg (by omega), if_pos rfl, if_neg (by omega), if_neg (by omega)]
  exact h.one c0 c (by omega) (by omega) hcc hcl
theorem Sift.leaf {lo hi f root : Nat} {l : List α} (h : Sift lt lo hi f root l) (hc : hi ≤ 2 * root + 1) : Heap lt lo hi f l := fun x c h1 h2 h3 => by
 by_cases e : x = root
 ·subst e; omega
 ·exact h.one x c h1 e h2 h3
theorem Sift.stop (hO : LtOK lt) {lo hi f root c0 : Nat} {l : List α} (h : Sift lt lo hi f root l) (hmax : ∀ c, (c = 2 * root + 1 ∨ c = 2 * root + 2) → c < hi → lt (hp l f c0) (hp l f c) = false) (hs : lt (hp l f root) (hp l f c0) = false) : Heap lt lo hi f l := fun x c h1 h2 h3 => by
 by_cases e : x = root
 ·subst e; exact hO.tr _ _ _ (hmax c h2 h3) hs
 ·exact h.one x c h1 e h2 h3
theorem Heap.top (hO : LtOK lt) {hi f : Nat} {l : List α} (h : Heap lt 0 hi f l) : ∀ x, x < hi → lt (hp l f 0) (hp l f x) = false := by
 intro x
 induction x using Nat.strongRecOn with
 | _ x ih =>
  intro hx
  by_cases e : x = 0
  ·subst e; exact hO.irr _
  ·exact hO.tr _ _ _ (h ((x - 1) / 2) x (by omega) (by omega) hx) (ih ((x - 1) / 2) (by omega) (by omega))
theorem Heap.none {hi f : Nat} {l : List α} {lo : Nat} (h : hi ≤ 2 * lo + 1) : Heap lt lo hi f l := fun x c h1 h2 h3 => by omega
structure Pops (lt : α → α → Bool) (a b i : Nat) (l : List α) : Prop where
 heap : Heap lt 0 i a l
 srt : SOn lt (a + i) b l
 le : ∀ x y, a ≤ x → x < a + i → a + i ≤ y → y < b → lt (l.getD y default) (l.getD x default) = false
theorem Pops.start {a b : Nat} {l : List α} (hab : a ≤ b) (h : Heap lt 0 (b - a) a l) : Pops lt a b (b - a) l :=
 ⟨h, fun i j h1 h2 h3 => by omega, fun x y h1 h2 h3 h4 => by omega⟩
theorem Pops.swap (hO : LtOK lt) {a b i : Nat} {l : List α} (h : Pops lt a b (i + 1) l) (hb : a + i < b) (hl : b ≤ l.length) :
  Heap lt 1 i a (swp l a (a + i)) ∧ SOn lt (a + i) b (swp l a (a + i)) ∧ ∀ x y, a ≤ x → x < a + i → a + i ≤ y → y < b → lt ((swp l a (a + i)).getD y default) ((swp l a (a + i)).getD x default) = false := by
 have ha : a < l.length := by omega
 have hi : a + i < l.length := by omega
 have top := h.heap.top hO
 have htop : ∀ x, a ≤ x → x < a + (i + 1) → lt (l.getD a default) (l.getD x default) = false := fun x h1 h2 => by
  have := top (x - a) (by omega)
  unfold hp at this
  rwa [show a + (x - a) = x from by omega, Nat.add_zero] at this
 refine ⟨fun x c h1 h2 h3 => ?_, fun x y h1 h2 h3 => ?_, fun x y h1 h2 h3 h4 => ?_⟩
 ·have := h.heap x c (by omega) h2 (by omega)
  unfold hp at this ⊢
  rwa [Z20 ha hi (by omega) (by omega), Z20 ha hi (by omega) (by omega)]
 ·by_cases e : y = a + i
  ·have : x = a + i := by omega
   subst e; subst this; exact hO.irr _
  ·rw [Z20 ha hi (by omega : y ≠ a) e]
   by_cases e2 : x = a + i
   ·subst e2; rw [Zbd ha hi]; exact h.le a y (by omega) (by omega) (by omega) h3
   ·rw [Z20 ha hi (by omega) e2]; exact h.srt x y (by omega) h2 h3
 ·have hx : ∃ z, a ≤ z ∧ z < a + (i + 1) ∧ (swp l a (a + i)).getD x default = l.getD z default := by
   by_cases e : x = a
   ·subst e; exact ⟨x + i, by omega, by omega, Z7j ha hi⟩
   ·exact ⟨x, h1, by omega, Z20 ha hi e (by omega)⟩
  obtain ⟨z, z1, z2, z3⟩ := hx
  rw [z3]
  by_cases e : y = a + i
  ·subst e; rw [Zbd ha hi]; exact htop z z1 z2
  ·rw [Z20 ha hi (by omega) e]; exact h.le z y z1 z2 (by omega) h4
theorem Pops.sift {a b i : Nat} {l m : List α} (hs : SOn lt (a + i) b l) (hle : ∀ x y, a ≤ x → x < a + i → a + i ≤ y → y < b → lt (l.getD y default) (l.getD x default) = false) (h : Sw a (a + i) l m) (hh : Heap lt 0 i a m) : Pops lt a b i m := by
 refine ⟨hh, fun x y h1 h2 h3 => ?_, fun x y h1 h2 h3 h4 => ?_⟩
 ·rw [h.out (.inr h1), h.out (.inr (by omega : a + i ≤ y))]; exact hs x y h1 h2 h3
 ·rw [h.out (.inr h3)]
  exact h.all (Q := fun z => lt (l.getD y default) z = false) (fun k h5 h6 => hle k y h5 h6 h3 h4) x h1 h2
structure Part (lt : α → α → Bool) (a b i j : Nat) (l : List α) : Prop where
 lo : ∀ k, a < k → k < i → lt (l.getD k default) (l.getD a default) = true
 hi : ∀ k, j < k → k < b → lt (l.getD k default) (l.getD a default) = false
structure PartR (lt : α → α → Bool) (a b m : Nat) (l : List α) : Prop where
 lo : ∀ k, a ≤ k → k < m → lt (l.getD k default) (l.getD m default) = true
 hi : ∀ k, m < k → k < b → lt (l.getD k default) (l.getD m default) = false
theorem Part.swap {a b i j : Nat} {l : List α} (h : Part lt a b i j l) (hai : a < i) (hij : i ≤ j) (hj : j < b) (hl : b ≤ l.length) (h1 : lt (l.getD i default) (l.getD a default) = false) (h2 : lt (l.getD j default) (l.getD a default) = true) :
  Part lt a b (i + 1) (j - 1) (swp l i j) := by
 have x : i < l.length := by omega
 have y : j < l.length := by omega
 refine ⟨fun k k1 k2 => ?_, fun k k1 k2 => ?_⟩
 ·rw [Z20 x y (by omega : a ≠ i) (by omega)]
  by_cases e : k = i
  ·subst e; rw [Z7j x y]; exact h2
  ·rw [Z20 x y e (by omega)]; exact h.lo k k1 (by omega)
 ·rw [Z20 x y (by omega : a ≠ i) (by omega)]
  by_cases e : k = j
  ·subst e; rw [Zbd x y]; exact h1
  ·rw [Z3l x y, if_neg e, if_neg (by omega)]; exact h.hi k (by omega) k2
theorem Part.fin {a b i j : Nat} {l : List α} (h : Part lt a b i j l) (hij : i = j + 1) (ha : a ≤ j) (hj : j < b) (hl : b ≤ l.length) (hai : a < i) : PartR lt a b j (swp l j a) := by
 have x : j < l.length := by omega
 have y : a < l.length := by omega
 refine ⟨fun k k1 k2 => ?_, fun k k1 k2 => ?_⟩
 ·rw [Z7j x y]
  by_cases e : k = a
  ·subst e; rw [Zbd x y]; exact h.lo j (by omega) (by omega)
  ·rw [Z20 x y (by omega) e]; exact h.lo k (by omega) (by omega)
 ·rw [Z7j x y, Z20 x y (by omega) (by omega)]; exact h.hi k k1 k2
structure PartE (lt : α → α → Bool) (a b i j : Nat) (l : List α) : Prop where
 lo : ∀ k, a < k → k < i → lt (l.getD a default) (l.getD k default) = false
 hi : ∀ k, j < k → k < b → lt (l.getD a default) (l.getD k default) = true
theorem PartE.swap {a b i j : Nat} {l : List α} (h : PartE lt a b i j l) (hai : a < i) (hij : i ≤ j) (hj : j < b) (hl : b ≤ l.length) (h1 : lt (l.getD a default) (l.getD i default) = true) (h2 : lt (l.getD a default) (l.getD j default) = false) :
  PartE lt a b (i + 1) (j - 1) (swp l i j) := by
 have x : i < l.length := by omega
 have y : j < l.length := by omega
 refine ⟨fun k k1 k2 => ?_, fun k k1 k2 => ?_⟩
 ·rw [Z20 x y (by omega : a ≠ i) (by omega)]
  by_cases e : k = i
  ·subst e; rw [Z7j x y]; exact h2
  ·rw [Z20 x y e (by omega)]; exact h.lo k k1 (by omega)
 ·rw [Z20 x y (by omega : a ≠ i) (by omega)]
  by_cases e : k = j
  ·subst e; rw [Zbd x y]; exact h1
  ·rw [Z3l x y, if_neg e, if_neg (by omega)]; exact h.hi k (by omega) k2
def Bd (lt : α → α → Bool) (a b : Nat) (l : List α) : Prop := a = 0 ∨ ∀ k, a ≤ k → k < b → lt (l.getD k default) (l.getD (a - 1) default) = false
theorem Bd.sw {a b : Nat} {l m : List α} (h : Bd lt a b l) (k : Sw a b l m) : Bd lt a b m := by
 rcases h with h | h
 ·exact .inl h
 ·by_cases e : a = 0
  ·exact .inl e
  ·refine .inr ?_
   rw [k.out (.inl (by omega : a - 1 < a))]
   exact k.all (Q := fun z => lt z (l.getD (a - 1) default) = false) h
structure Rest (lt : α → α → Bool) (a0 b0 : Nat) (l0 : List α) (a b : Nat) (l : List α) : Prop where
 ha : a0 ≤ a
 hb : b ≤ b0
 hab : a ≤ b
 sw : Sw a0 b0 l0 l
 bd : Bd lt a b l
 fin : ∀ m, Sw a b l m → SOn lt a b m → SOn lt a0 b0 m
theorem Rest.start {a b : Nat} {l : List α} (hab : a ≤ b) (h : Bd lt a b l) : Rest lt a b l a b l := ⟨Nat.le_refl _, Nat.le_refl _, hab, .refl, h, fun m _ h => h⟩
theorem Rest.move {a0 b0 a b : Nat} {l0 l m : List α} (h : Rest lt a0 b0 l0 a b l) (hl : b0 ≤ l0.length) (k : Sw a b l m) : Rest lt a0 b0 l0 a b m :=
 ⟨h.ha, h.hb, h.hab, h.sw.trans (k.mono h.ha h.hb (by rw [h.sw.len]; exact hl)), h.bd.sw k, fun r hr hs => h.fin r (k.trans hr) hs⟩
theorem Rest.equal (hO : LtOK lt) {a0 b0 a b i j : Nat} {l0 l : List α} (h : Rest lt a0 b0 l0 a b l) (hl : b0 ≤ l0.length) (ha : 0 < a) (hp : lt (l.getD (a - 1) default) (l.getD a default) = false) (h2 : PartE lt a b i j l) (hij : i = j + 1) (hai : a < i) (hib : i ≤ b) : Rest lt a0 b0 l0 i b l := by
 have hbd : ∀ k, a ≤ k → k < b → lt (l.getD k default) (l.getD (a - 1) default) = false := by
  rcases h.bd with h3 | h3
  ·omega
  ·exact h3
 have hll : b ≤ l.length := by rw [h.sw.len]; have := h.hb; omega
 have lo : ∀ k, a ≤ k → k < i → lt (l.getD a default) (l.getD k default) = false := fun k k1 k2 => by
  by_cases e : k = a
  ·subst e; exact hO.irr _
  ·exact h2.lo k (by omega) k2
 refine ⟨by have := h.ha; omega, h.hb, hib, h.sw, .inr fun k k1 k2 => ?_, fun m hm hs => ?_⟩
 ·exact hO.tr _ _ _ (lo (i - 1) (by omega) (by omega)) (hO.asy _ _ (h2.hi k (by omega) k2))
 ·refine h.fin m (hm.mono (by omega) (Nat.le_refl _) hll) ?_
  intro x y h1 h3 h4
  by_cases e : i ≤ x
  ·exact hs x y e h3 h4
  ·rw [hm.out (.inl (by omega : x < i))]
   by_cases e2 : i ≤ y
   ·have := hm.all (Q := fun z => lt (l.getD a default) z = true) (fun k k1 k2 => h2.hi k (by omega) k2) y e2 h4
    exact hO.tr _ _ _ (lo x h1 (by omega)) (hO.asy _ _ this)
   ·rw [hm.out (.inl (by omega : y < i))]
    exact hO.tr _ _ _ (lo x h1 (by omega)) (hO.tr _ _ _ hp (hbd y (by omega) h4))
theorem PartR.swL {a b m : Nat} {l r : List α} (h : PartR lt a b m l) (k : Sw a m l r) : PartR lt a b m r := by
 refine ⟨?_, fun x h1 h2 => ?_⟩
 ·rw [k.out (.inr (Nat.le_refl m))]
  exact k.all (Q := fun z => lt z (l.getD m default) = true) h.lo
 ·rw [k.out (.inr (Nat.le_refl m)), k.out (.inr (by omega : m ≤ x))]; exact h.hi x h1 h2
theorem PartR.swR {a b m : Nat} {l r : List α} (h : PartR lt a b m l) (k : Sw (m + 1) b l r) : PartR lt a b m r := by
 refine ⟨fun x h1 h2 => ?_, fun x h1 h2 => ?_⟩
 ·rw [k.out (.inl (by omega : x < m + 1)), k.out (.inl (by omega : m < m + 1))]; exact h.lo x h1 h2
 ·rw [k.out (.inl (by omega : m < m + 1))]
  exact k.all (Q := fun z => lt z (l.getD m default) = false) (fun k k1 k2 => h.hi k (by omega) k2) x (by omega) h2
theorem PartR.glue (hO : LtOK lt) {a b m : Nat} {l : List α} (h : PartR lt a b m l) (h1 : SOn lt a m l) (h2 : SOn lt (m + 1) b l) : SOn lt a b l := by
 intro x y k1 k2 k3
 rcases Nat.lt_trichotomy y m with e | e | e
 ·exact h1 x y k1 k2 e
 ·subst e
  by_cases e2 : x = y
  ·subst e2; exact hO.irr _
  ·exact hO.asy _ _ (h.lo x k1 (by omega))
 ·have hy := h.hi y e k3
  rcases Nat.lt_trichotomy x m with e2 | e2 | e2
  ·exact hO.tr _ _ _ (hO.asy _ _ (h.lo x k1 e2)) hy
  ·subst e2; exact hy
  ·exact h2 x y e2 k2 k3
theorem Rest.lower (hO : LtOK lt) {a0 b0 a b m : Nat} {l0 l r : List α} (h : Rest lt a0 b0 l0 a b l) (hl : b0 ≤ l0.length) (hm : a ≤ m ∧ m < b) (hp : PartR lt a b m l) (k : Sw a m l r) (hs : SOn lt a m r) : Rest lt a0 b0 l0 (m + 1) b r := by
 have hll : b ≤ l.length := by rw [h.sw.len]; have := h.hb; omega
 have h2 := h.move hl (k.mono (Nat.le_refl _) (by omega) hll)
 have hp2 := hp.swL k
 refine ⟨by have := h.ha; omega, h.hb, by omega, h2.sw, .inr fun x x1 x2 => hp2.hi x (by omega) x2, fun q hq hsq => ?_⟩
 have hrl : b ≤ r.length := by rw [k.len]; exact hll
 refine h2.fin q (hq.mono (by omega) (Nat.le_refl _) hrl) ?_
 refine (hp2.swR hq).glue hO ?_ hsq
 intro x y x1 x2 x3
 rw [hq.out (.inl (by omega : x < m + 1)), hq.out (.inl (by omega : y < m + 1))]; exact hs x y x1 x2 x3
theorem Rest.upper (hO : LtOK lt) {a0 b0 a b m : Nat} {l0 l r : List α} (h : Rest lt a0 b0 l0 a b l) (hl : b0 ≤ l0.length) (hm : a ≤ m ∧ m < b) (hp : PartR lt a b m l) (k : Sw (m + 1) b l r) (hs : SOn lt (m + 1) b r) : Rest lt a0 b0 l0 a m r := by
 have hll : b ≤ l.length := by rw [h.sw.len]; have := h.hb; omega
 have h2 := h.move hl (k.mono (by omega) (Nat.le_refl _) hll)
 have hp2 := hp.swR k
 have hrl : b ≤ r.length := by rw [k.len]; exact hll
 refine ⟨h.ha, by have := h.hb; omega, hm.1, h2.sw, ?_, fun q hq hsq => ?_⟩
 ·rcases h2.bd with h3 | h3
  ·exact .inl h3
  ·exact .inr fun x x1 x2 => h3 x x1 (by omega)
 refine h2.fin q (hq.mono (Nat.le_refl _) (by omega) hrl) ?_
 refine (hp2.swL hq).glue hO hsq ?_
 intro x y x1 x2 x3
 rw [hq.out (.inr (by omega : m ≤ x)), hq.out (.inr (by omega : m ≤ y))]; exact hs x y x1 x2 x3
theorem SAdj.swp_ge {a u i j : Nat} {l : List α} (h : SAdj lt a u l) (hi : u ≤ i) (hj : u ≤ j) (hil : i < l.length) (hjl : j < l.length) : SAdj lt a u (swp l i j) := fun k h1 h2 => by
 rw [Z20 hil hjl (by omega) (by omega), Z20 hil hjl (by omega) (by omega)]; exact h k h1 h2
theorem SAdj.le {a u v : Nat} {l : List α} (h : SAdj lt a u l) (hv : v ≤ u) : SAdj lt a v l := fun k h1 h2 => h k h1 (by omega)
theorem SAdj.succ {a u : Nat} {l : List α} (h : SAdj lt a u l) (hv : lt (l.getD u default) (l.getD (u - 1) default) = false) : SAdj lt a (u + 1) l := fun k h1 h2 => by
 rcases Nat.lt_succ_iff_lt_or_eq.1 h2 with h3 | h3
 ·exact h k h1 h3
 ·subst h3; exact hv
theorem Bd.gt {a b j : Nat} {l : List α} (h : Bd lt a b l) (h1 : a ≤ j) (h2 : j < b) (h0 : 1 ≤ j) (hlt : lt (l.getD j default) (l.getD (j - 1) default) = true) : a < j := by
 rcases Nat.lt_or_ge a j with h3 | h3
 ·exact h3
 ·have e : j = a := by omega
  subst e
  rcases h with h | h
  ·omega
  ·rw [h j (Nat.le_refl _) h2] at hlt; cases hlt
theorem Bd.le {a b c : Nat} {l : List α} (h : Bd lt a b l) (hc : c ≤ b) : Bd lt a c l := by
 rcases h with h | h
 ·exact .inl h
 ·exact .inr fun k h1 h2 => h k h1 (by omega)
theorem PartR.bd {a b m : Nat} {l : List α} (h : PartR lt a b m l) : Bd lt (m + 1) b l := .inr fun k h1 h2 => h.hi k (by omega) h2
end
end Go.Sx
namespace Go.Sx
open Go
def ltS (a b : Str) : Bool := Op.bytesLess a.toList b.toList
def ddS (o : List Str) (s : Str) : List Str := if inL o s then o else o ++ [s]
def dd (l : List Str) : List Str := l.foldl ddS []
theorem Zc2 {l : List Str} {i : Nat} (h : i < l.length) : dd (l.take (i + 1)) = ddS (dd (l.take i)) l[i] := by
 rw [List.take_succ_eq_append_getElem h, dd, List.foldl_append]; rfl
theorem Zhb (l : List Str) : (dd l).length ≤ l.length := by
 have key : ∀ (l o : List Str), (l.foldl ddS o).length ≤ o.length + l.length := by
  intro l
  induction l with
  | nil => intro o; simp
  | cons x l ih =>
   intro o
   have h := ih (ddS o x)
   have h2 : (ddS o x).length ≤ o.length + 1 := by unfold ddS; split <;> simp
   simp only [List.foldl_cons, List.length_cons]; omega
 simpa [dd] using key l []
theorem Zhc (l : List Str) (s : Str) : s ∈ dd l ↔ s ∈ l := by
 have key : ∀ (l o : List Str), s ∈ l.foldl ddS o ↔ s ∈ o ∨ s ∈ l := by
  intro l
  induction l with
  | nil => intro o; simp
  | cons x l ih =>
   intro o
   rw [List.foldl_cons, ih]
   unfold ddS
   split
   ·rename_i h
    have h := inL_mem.1 h
    constructor
    ·rintro (h1 | h1); exact .inl h1; exact .inr (List.mem_cons_of_mem _ h1)
    ·rintro (h1 | h1); exact .inl h1; rcases List.mem_cons.1 h1 with rfl | h1; exact .inl h; exact .inr h1
   ·simp [or_assoc]
 simpa [dd] using key l []
theorem Ze3 (l : List Str) : (dd l).Nodup := by
 have key : ∀ (l o : List Str), o.Nodup → (l.foldl ddS o).Nodup := by
  intro l
  induction l with
  | nil => intro o h; exact h
  | cons x l ih =>
   intro o h
   refine ih _ ?_
   unfold ddS
   split
   ·exact h
   ·rename_i h1
    rw [List.nodup_append]
    refine ⟨h, by simp, fun a ha b hb => ?_⟩
    rw [List.mem_singleton] at hb; subst hb
    rintro rfl; exact h1 (inL_mem.2 ha)
 exact key l [] List.nodup_nil
def swapS (l : List Str) (i j : Nat) : List Str := (l.set i (l.getD j default)).set j (l.getD i default)
def insK : Nat → List Str → List Str
 | 0, l => l
 | k + 1, l => if ltS (l.getD (k + 1) default) (l.getD k default) then insK k (swapS l (k + 1) k) else l
def outF : Nat → Nat → List Str → List Str
 | 0, _, l => l
 | f + 1, i, l => outF f (i + 1) (insK i l)
def risF (l : List Str) : List Str := outF ((dd l).length - 1) 1 (dd l)
theorem Z61 (l : List Str) (i j : Nat) : (swapS l i j).length = l.length := by simp [swapS]
theorem Z7a : ∀ (k : Nat) (l : List Str), (insK k l).length = l.length
 | 0, _ => rfl
 | k + 1, l => by unfold insK; split; rw [Z7a, Z61]; rfl
theorem Z1d {l : List Str} {i : Nat} (h : i < l.length) : l.getD i default = l[i] := by simp [List.getD, h]
theorem Zbc {l : List Str} {i j : Nat} (hi : i < l.length) (hj : j < l.length) : (swapS l i j).Perm l := by
 unfold swapS
 rw [Z1d hi, Z1d hj]
 exact List.set_set_perm hi hj
theorem Z8e : ∀ (k : Nat) (l : List Str), k < l.length → (insK k l).Perm l
 | 0, _, _ => .refl _
 | k + 1, l, h => by
  unfold insK
  split
  ·exact (Z8e k _ (by rw [Z61]; omega)).trans (Zbc h (by omega))
  ·exact .refl _
theorem Z8i : ∀ (f i : Nat) (l : List Str), i + f ≤ l.length → (outF f i l).Perm l
 | 0, _, _, _ => .refl _
 | f + 1, i, l, h => by
  unfold outF
  exact (Z8i f (i + 1) _ (by rw [Z7a]; omega)).trans (Z8e i l (by omega))
theorem Z46 (l : List Str) : (risF l).Perm (dd l) := by
 unfold risF
 cases h : (dd l).length with
 | zero => exact .refl _
 | succ n => exact Z8i _ _ _ (by omega)
theorem Zex (l : List Str) (s : Str) : s ∈ risF l ↔ s ∈ l := ((Z46 l).mem_iff).trans (Zhc l s)
def hasC (p : Prog) (s : Str) : Bool := (clsFind p s).isSome
def addS (p : Prog) (o : List Str) (u : Str) : List Str := if hasC p u && !inL o u then o ++ [u] else o
def addU (p : Prog) (l o : List Str) : List Str := l.foldl (addS p) o
theorem Z9q (p : Prog) : ∀ (l o : List Str), ∃ r, addU p l o = o ++ r
 | [], o => ⟨[], by simp [addU]⟩
 | x :: l, o => by
  obtain ⟨r, h⟩ := Z9q p l (addS p o x)
  have h2 : ∃ r2, addS p o x = o ++ r2 := by unfold addS; split; exact ⟨[x], rfl⟩; exact ⟨[], by simp⟩
  obtain ⟨r2, h2⟩ := h2
  exact ⟨r2 ++ r, by rw [show addU p (x :: l) o = addU p l (addS p o x) from rfl, h, h2]; simp⟩
theorem Z2x (p : Prog) (s : Str) : ∀ (l o : List Str), s ∈ addU p l o ↔ s ∈ o ∨ (s ∈ l ∧ hasC p s = true)
 | [], o => by simp [addU]
 | x :: l, o => by
  rw [show addU p (x :: l) o = addU p l (addS p o x) from rfl, Z2x p s l]
  unfold addS
  cases hx : hasC p x with
  | false =>
   simp only [Bool.false_and, Bool.false_eq_true, if_false, List.mem_cons]
   constructor
   ·rintro (h | ⟨h, h2⟩); exact .inl h; exact .inr ⟨.inr h, h2⟩
   ·rintro (h | ⟨rfl | h, h2⟩); exact .inl h; rw [hx] at h2; cases h2; exact .inr ⟨h, h2⟩
  | true =>
   cases hi : inL o x with
   | true =>
    have hi := inL_mem.1 hi
    simp only [Bool.not_true, Bool.and_false, Bool.false_eq_true, if_false, List.mem_cons]
    constructor
    ·rintro (h | ⟨h, h2⟩); exact .inl h; exact .inr ⟨.inr h, h2⟩
    ·rintro (h | ⟨rfl | h, h2⟩); exact .inl h; exact .inl hi; exact .inr ⟨h, h2⟩
   | false =>
    simp only [Bool.not_false, Bool.and_true, if_true, List.mem_append, List.mem_cons, List.not_mem_nil, or_false]
    constructor
    ·rintro ((h | rfl) | ⟨h, h2⟩); exact .inl h; exact .inr ⟨.inl rfl, hx⟩; exact .inr ⟨.inr h, h2⟩
    ·rintro (h | ⟨rfl | h, h2⟩); exact .inl (.inl h); exact .inl (.inr rfl); exact .inr ⟨h, h2⟩
theorem Z68 (p : Prog) : ∀ (l o : List Str), o.Nodup → (addU p l o).Nodup
 | [], o, h => h
 | x :: l, o, h => by
  refine Z68 p l _ ?_
  unfold addS
  split
  ·rename_i h1
   rw [List.nodup_append]
   refine ⟨h, by simp, fun a ha b hb => ?_⟩
   rw [List.mem_singleton] at hb; subst hb
   rintro rfl
   rw [inL_mem.2 ha] at h1; simp at h1
  ·exact h
theorem Z44 {p : Prog} {s : Str} (h : hasC p s = true) : ∃ c, clsFind p s = some c := Option.isSome_iff_exists.1 h
theorem Z79 {p : Prog} {s : Str} (h : hasC p s = true) : s ∈ p.classes.map Cls.name := by
 obtain ⟨c, h⟩ := Z44 h
 obtain ⟨h1, h2⟩ := Z0q h
 exact List.mem_map.2 ⟨c, h2, h1⟩
structure AncB (p : Prog) (nm : Str) (out : List Str) (i : Nat) : Prop where
 nd : out.Nodup
 has : ∀ x, x ∈ out → hasC p x = true
 snd : ∀ x, x ∈ out → Anc p nm x
 st : hasC p nm = true → nm ∈ out
 cl : ∀ j, j < i → ∀ s, out[j]? = some s → ∀ c, clsFind p s = some c → ∀ u, u ∈ upC c → hasC p u = true → u ∈ out
 le : i ≤ out.length
theorem AncB.len {p : Prog} {nm : Str} {out : List Str} {i : Nat} (h : AncB p nm out i) : out.length ≤ p.classes.length := by
 have := Z1n h.nd (fun x hx => Z79 (h.has x hx))
 simpa using this
theorem AncB.step {p : Prog} {nm : Str} {out : List Str} {i : Nat} (h : AncB p nm out i) (hi : i < out.length) {c : Cls} (hc : clsFind p out[i] = some c) : AncB p nm (addU p (upC c) out) (i + 1) := by
 obtain ⟨r, hr⟩ := Z9q p (upC c) out
 have ha := h.snd _ (List.getElem_mem hi)
 refine ⟨Z68 p _ _ h.nd, ?_, ?_, fun h2 => (Z2x ..).2 (.inl (h.st h2)), ?_, ?_⟩
 ·intro x hx
  rcases (Z2x ..).1 hx with h1 | h1
  ·exact h.has x h1
  ·exact h1.2
 ·intro x hx
  rcases (Z2x ..).1 hx with h1 | h1
  ·exact h.snd x h1
  ·obtain ⟨d, hd⟩ := Z44 h1.2
   exact .step ha hc h1.1 hd
 ·intro j hj s hs d hd u hu hh
  have hjl : j < out.length := by omega
  have hs' : out[j]? = some s := by rw [hr, List.getElem?_append_left hjl] at hs; exact hs
  rcases Nat.lt_succ_iff_lt_or_eq.1 hj with h1 | h1
  ·exact (Z2x ..).2 (.inl (h.cl j h1 s hs' d hd u hu hh))
  ·subst h1
   rw [List.getElem?_eq_getElem hjl] at hs'; cases hs'
   rw [hc] at hd; cases hd
   exact (Z2x ..).2 (.inr ⟨hu, hh⟩)
 ·rw [hr, List.length_append]; omega
theorem AncB.fin {p : Prog} {nm : Str} {out : List Str} {i : Nat} (h : AncB p nm out i) (hi : ¬ i < out.length) (s : Str) : s ∈ out ↔ Anc p nm s := by
 refine ⟨h.snd s, fun ha => ?_⟩
 induction ha with
 | base hc => exact h.st (by simp [hasC, hc])
 | step _ hc hu hd ih =>
  obtain ⟨j, hj, e⟩ := List.getElem_of_mem ih
  exact h.cl j (by omega) _ (by rw [List.getElem?_eq_getElem hj, e]) _ hc _ hu (by simp [hasC, hd])
noncomputable def chk1 (p : Prog) (c : Cls) : Int :=
 if !beqS c.super zS && !hasC p c.super then 7 else if c.ifaces.any fun s => !hasC p s then 7 else if !beqS c.super zS && ifaceP p c.super then 9 else if c.ifaces.any fun s => !ifaceP p s then 9 else 0
noncomputable def chk2 (p : Prog) (c : Cls) : Bool := (!beqS c.super zS && subP p c.super c.name) || c.ifaces.any fun s => subP p s c.name
noncomputable def checkP (p : Prog) : Int × Str := match p.classes.find? fun c => chk1 p c != 0 with
 | some c => (chk1 p c, c.name)
 | none => match p.classes.find? fun c => chk2 p c with
  | some c => (8, c.name)
  | none => (0, zS)
structure SoundP (p : Prog) : Prop where
 one : ∀ c, c ∈ p.classes → chk1 p c = 0
 two : ∀ c, c ∈ p.classes → chk2 p c = false
noncomputable def f1 (p : Prog) (c : Cls) : Bool := chk1 p c != 0
def nNo : Str := ⟨#[78, 111]⟩
def nearK (k : Int) : Int := (k.tmod 7 + 7).tmod 7
def nearF (p : Prog) (f : Fact) (k : Int) : Fact :=
 ⟨nearK f.kind, if nearK f.kind = 3 ∨ nearK f.kind = 5 then (if 0 < p.classes.length ∧ k < 250 then (p.classes.getD (k.tmod p.classes.length).toNat default).name else nNo) else zS⟩
end Go.Sx
namespace Go.Sx
open Go
theorem Zfb : ∀ l : List UInt8, Op.bytesLess l l = false
 | [] => rfl
 | x :: l => by simp [Op.bytesLess, Zfb l]
theorem Zfa : ∀ l r : List UInt8, Op.bytesLess l r = true → Op.bytesLess r l = false
 | [], [], h => rfl
 | [], _ :: _, h => rfl
 | _ :: _, [], h => by simp [Op.bytesLess] at h
 | x :: l, y :: r, h => by
  simp only [Op.bytesLess] at h ⊢
  by_cases h1 : x < y
  ·have h2 : ¬ y < x := fun h => by simp [UInt8.lt_iff_toNat_lt] at h h1; omega
   have h3 : ¬ y = x := fun e => by subst e; simp at h1
   simp [h2, h3]
  ·by_cases h2 : x = y
   ·subst h2; simp at h; simp [Zfa l r h]
   ·simp [h1, h2] at h
theorem Zh2 : ∀ x y z : List UInt8, Op.bytesLess y x = false → Op.bytesLess z y = false → Op.bytesLess z x = false
 | [], _, [], _, _ => rfl
 | [], _, _ :: _, _, _ => rfl
 | _ :: _, [], _, h, _ => by simp [Op.bytesLess] at h
 | _ :: _, _ :: _, [], _, h => by simp [Op.bytesLess] at h
 | a :: x, b :: y, c :: z, h, k => by
  simp only [Op.bytesLess] at h k ⊢
  have ih := Zh2 x y z
  simp only [UInt8.lt_iff_toNat_lt, Bool.or_eq_false_iff, Bool.and_eq_false_iff, decide_eq_false_iff_not, beq_eq_false_iff_ne, ne_eq] at h k ⊢
  refine ⟨by omega, ?_⟩
  by_cases e : c = a
  ·subst e
   have e2 : b = c := UInt8.toNat_inj.1 (by omega)
   subst e2
   exact .inr (ih (h.2.resolve_left (fun h => h rfl)) (k.2.resolve_left (fun h => h rfl)))
  ·exact .inl e
theorem ltS_ok : LtOK ltS := ⟨fun x => Zfb _, fun x y h => Zfa _ _ h, fun x y z h k => Zh2 _ _ _ h k⟩
end Go.Sx
