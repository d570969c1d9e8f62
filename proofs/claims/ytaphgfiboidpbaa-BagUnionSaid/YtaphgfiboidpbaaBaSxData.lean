/- The program's data in plain Lean, and as abstract values. -/
import Derived.Test.YtaphgfiboidpbaaBaSxMore
import Derived.Test.YtaphgfiboidpbaaBaSxLaw
set_option linter.unusedVariables false
namespace Go.Sx
open Go

abbrev Str := ByteArray
abbrev iA (n : Int) : AV := .v (.int .i64 n)
abbrev uA (n : Int) : AV := .v (.int .u8 n)
abbrev sA (s : Str) : AV := .v (.string s)
abbrev bA (b : Bool) : AV := .v (.bool b)
def row1 {α : Type} (f : α → AV) (l : List α) : AV := .lst (l.map fun x => [f x])

structure Ty where
  kind : Int
  cls : Str
  deriving DecidableEq
structure Instr where
  op : Int
  a : Int
  b : Int
  c : Int
  k : Int
  cls : Str
  name : Str
  desc : Str
  args : List Int
  deriving DecidableEq
structure Fld where
  name : Str
  type : Ty
  static : Bool
  deriving DecidableEq
structure Meth where
  name : Str
  desc : Str
  static : Bool
  abs : Bool
  regs : Int
  code : List Instr
  deriving DecidableEq
structure Cls where
  name : Str
  super : Str
  iface : Bool
  abs : Bool
  ifaces : List Str
  fields : List Fld
  methods : List Meth
  deriving DecidableEq
structure MRef where
  cls : Str
  name : Str
  desc : Str
  deriving DecidableEq
structure Prog where
  classes : List Cls
  names : List Str
  entry : MRef
  deriving DecidableEq
structure Fact where
  kind : Int
  cls : Str
  deriving DecidableEq

def Ty.cells (t : Ty) : List AV := [iA t.kind, sA t.cls]
def Instr.cells (i : Instr) : List AV := [iA i.op, iA i.a, iA i.b, iA i.c, iA i.k, sA i.cls, sA i.name, sA i.desc, row1 iA i.args]
def Fld.cells (f : Fld) : List AV := [sA f.name, iA f.type.kind, sA f.type.cls, bA f.static]
def Meth.cells (m : Meth) : List AV := [sA m.name, sA m.desc, bA m.static, bA m.abs, iA m.regs, .lst (m.code.map Instr.cells)]
def Cls.cells (c : Cls) : List AV := [sA c.name, sA c.super, bA c.iface, bA c.abs, row1 sA c.ifaces, .lst (c.fields.map Fld.cells), .lst (c.methods.map Meth.cells)]
def MRef.cells (m : MRef) : List AV := [sA m.cls, sA m.name, sA m.desc]
def Prog.cells (p : Prog) : List AV := [.lst (p.classes.map Cls.cells), row1 sA p.names, sA p.entry.cls, sA p.entry.name, sA p.entry.desc]
def Fact.cells (f : Fact) : List AV := [iA f.kind, sA f.cls]

/-! ### What readings give -/

def i64 (n : Int) : Prop := -9223372036854775808 ≤ n ∧ n ≤ 9223372036854775807
def small (n : Nat) : Prop := n ≤ 140737488351232
structure Ty.ok (t : Ty) : Prop where
  kind : i64 t.kind
  cls : small t.cls.size
structure Instr.ok (i : Instr) : Prop where
  op : i64 i.op
  a : i64 i.a
  b : i64 i.b
  c : i64 i.c
  k : i64 i.k
  cls : small i.cls.size
  name : small i.name.size
  desc : small i.desc.size
  args : small i.args.length ∧ ∀ x, x ∈ i.args → i64 x
structure Fld.ok (f : Fld) : Prop where
  name : small f.name.size
  type : f.type.ok
structure Meth.ok (m : Meth) : Prop where
  name : small m.name.size
  desc : small m.desc.size
  regs : i64 m.regs
  code : small m.code.length ∧ ∀ x, x ∈ m.code → x.ok
structure Cls.ok (c : Cls) : Prop where
  name : small c.name.size
  super : small c.super.size
  ifaces : small c.ifaces.length ∧ ∀ x, x ∈ c.ifaces → small x.size
  fields : small c.fields.length ∧ ∀ x, x ∈ c.fields → x.ok
  methods : small c.methods.length ∧ ∀ x, x ∈ c.methods → x.ok
structure MRef.ok (m : MRef) : Prop where
  cls : small m.cls.size
  name : small m.name.size
  desc : small m.desc.size
structure Prog.ok (p : Prog) : Prop where
  classes : small p.classes.length ∧ ∀ x, x ∈ p.classes → x.ok
  names : small p.names.length ∧ ∀ x, x ∈ p.names → small x.size
  entry : p.entry.ok
structure Fact.ok (f : Fact) : Prop where
  kind : i64 f.kind
  cls : small f.cls.size

/-- Values of a type, as cells. -/
def Dec (P : Program) (t : TypeId) {α : Type} (cells : α → List AV) (ok : α → Prop) : Prop := ∀ xs, TV P t xs → ∃ x : α, xs = cells x ∧ ok x

def fts (P : Program) (t : TypeId) : Option (List TypeId) := match P.underlying t with
  | some (.struct fs) => some (fs.toList.map (·.type))
  | _ => none

theorem st_of {P : Program} {t : TypeId} (h : (fts P t).isSome = true) : ∃ fs, P.underlying t = some (.struct fs) := by
  unfold fts at h
  split at h
  · exact ⟨_, by assumption⟩
  · cases h

inductive TVF (P : Program) : List TypeId → List AV → Prop
  | nil : TVF P [] []
  | cons {t : TypeId} {ts : List TypeId} {x y : List AV} (h : TV P t x) (r : TVF P ts y) : TVF P (t :: ts) (x ++ y)

section
variable {P : Program} {t : TypeId}

theorem dec_int (hu : P.underlying t = some (.int .i64)) : Dec P t (fun n => [iA n]) i64 := by
  intro xs h
  cases h with
  | int n h hn => rw [hu] at h; cases h; exact ⟨n, rfl, _root_.Go.bounds_i64 hn⟩
  | _ => simp_all
theorem dec_u8 (hu : P.underlying t = some (.int .u8)) : Dec P t (fun n => [uA n]) (fun n => 0 ≤ n ∧ n ≤ 255) := by
  intro xs h
  cases h with
  | int n h hn => rw [hu] at h; cases h; exact ⟨n, rfl, _root_.Go.bounds_u8 hn⟩
  | _ => simp_all
theorem dec_str (hu : P.underlying t = some .string) : Dec P t (fun s => [sA s]) (fun s => small s.size) := by
  intro xs h
  cases h with
  | string s h hs => exact ⟨s, rfl, hs⟩
  | _ => simp_all
theorem dec_bool (hu : P.underlying t = some .bool) : Dec P t (fun b => [bA b]) (fun _ => True) := by
  intro xs h
  cases h with
  | bool b h => exact ⟨b, rfl, trivial⟩
  | _ => simp_all

theorem map_of {α : Type} {cells : α → List AV} {ok : α → Prop} : ∀ (es : List (List AV)), (∀ x : List AV, x ∈ es → ∃ y : α, x = cells y ∧ ok y) → ∃ l : List α, es = l.map cells ∧ ∀ x, x ∈ l → ok x
  | [], _ => ⟨[], rfl, nofun⟩
  | e :: es, h => by
    obtain ⟨y, rfl, hy⟩ := h e List.mem_cons_self
    obtain ⟨l, rfl, hl⟩ := map_of es (fun x hx => h x (List.mem_cons_of_mem _ hx))
    refine ⟨y :: l, rfl, fun x hx => ?_⟩
    rcases List.mem_cons.1 hx with rfl | hx
    · exact hy
    · exact hl x hx

theorem dec_list {e : TypeId} {α : Type} {cells : α → List AV} {ok : α → Prop} (hu : P.underlying t = some (.slice e)) (hb : Nat.blt 0 (P.bytesOf e) = true) (he : Dec P e cells ok) :
    Dec P t (fun l : List α => [.lst (l.map cells)]) (fun l => small l.length ∧ ∀ x, x ∈ l → ok x) := by
  intro xs h
  cases h with
  | slice es h hl hm hes =>
    rw [hu] at h; cases h
    obtain ⟨l, rfl, hok⟩ := map_of es (fun x hx => he x (hes x hx))
    refine ⟨l, rfl, ?_, hok⟩
    have hb : 0 < P.bytesOf e := Nat.blt_eq ▸ hb
    rw [List.length_map] at hl
    have h1 : l.length * 1 ≤ l.length * P.bytesOf e := Nat.mul_le_mul_left _ hb
    have h2 : reachBytes = 140737488351232 := rfl
    unfold small
    omega
  | _ => simp_all

theorem tv_struct {ts : List TypeId} {xs : List AV} (h : fts P t = some ts) (hv : TV P t xs) : TVF P ts xs := by
  unfold fts at h
  split at h
  · rename_i fs hu
    simp only [Option.some.injEq] at h
    subst h
    cases hv with
    | struct parts h hl hp =>
      rw [hu] at h; cases h
      have claim : ∀ (fl : List Field) (parts : List (List AV)), parts.length = fl.length → (∀ (i : Nat) (f : Field) (x : List AV), fl[i]? = some f → parts[i]? = some x → TV P f.type x) → TVF P (fl.map (·.type)) parts.flatten := by
        intro fl
        induction fl with
        | nil => intro parts hl _; cases parts with | nil => exact .nil | cons => simp at hl
        | cons f fl ih =>
          intro parts hl hp
          cases parts with
          | nil => simp at hl
          | cons x parts =>
            exact .cons (hp 0 f x rfl rfl) (ih parts (by simpa using hl) (fun i f x h1 h2 => hp (i + 1) f x (by simpa using h1) (by simpa using h2)))
      exact claim _ _ (by simpa using hl) (fun i f x h1 h2 => hp i f x (by simpa using h1) h2)
    | _ => simp_all
  · cases h

theorem tv_cons {α : Type} {cells : α → List AV} {ok : α → Prop} {ts : List TypeId} {xs : List AV} (hd : Dec P t cells ok) (h : TVF P (t :: ts) xs) : ∃ (x : α) (ys : List AV), xs = cells x ++ ys ∧ ok x ∧ TVF P ts ys := by
  cases h with
  | cons h r =>
    obtain ⟨x, rfl, hx⟩ := hd _ h
    exact ⟨x, _, rfl, hx, r⟩
theorem tv_nil {xs : List AV} (h : TVF P [] xs) : xs = [] := by cases h; rfl

section
variable {i s b li ls tt ti tf tm tc tr lI lF lM lC : TypeId}
theorem dec_Ty (h : fts P t = some [i, s]) (hi : P.underlying i = some (.int .i64)) (hs : P.underlying s = some .string) : Dec P t Ty.cells Ty.ok := by
  intro xs hx
  obtain ⟨k, ys, rfl, hk, h1⟩ := tv_cons (dec_int hi) (tv_struct h hx)
  obtain ⟨c, ys, rfl, hc, h2⟩ := tv_cons (dec_str hs) h1
  rw [tv_nil h2]
  exact ⟨⟨k, c⟩, rfl, ⟨hk, hc⟩⟩
theorem dec_MRef (h : fts P t = some [s, s, s]) (hs : P.underlying s = some .string) : Dec P t MRef.cells MRef.ok := by
  intro xs hx
  obtain ⟨k, ys, rfl, hk, h1⟩ := tv_cons (dec_str hs) (tv_struct h hx)
  obtain ⟨c, ys, rfl, hc, h2⟩ := tv_cons (dec_str hs) h1
  obtain ⟨d, ys, rfl, hd, h3⟩ := tv_cons (dec_str hs) h2
  rw [tv_nil h3]
  exact ⟨⟨k, c, d⟩, rfl, ⟨hk, hc, hd⟩⟩
theorem dec_Instr {o n k : TypeId} (h : fts P t = some [o, n, n, n, k, s, s, s, li]) (ho : P.underlying o = some (.int .i64)) (hn : P.underlying n = some (.int .i64)) (hk : P.underlying k = some (.int .i64)) (hs : P.underlying s = some .string)
    (hl : P.underlying li = some (.slice n)) (hb : Nat.blt 0 (P.bytesOf n) = true) : Dec P t Instr.cells Instr.ok := by
  intro xs hx
  obtain ⟨x0, ys, rfl, g0, h1⟩ := tv_cons (dec_int ho) (tv_struct h hx)
  obtain ⟨x1, ys, rfl, g1, h1⟩ := tv_cons (dec_int hn) h1
  obtain ⟨x2, ys, rfl, g2, h1⟩ := tv_cons (dec_int hn) h1
  obtain ⟨x3, ys, rfl, g3, h1⟩ := tv_cons (dec_int hn) h1
  obtain ⟨x4, ys, rfl, g4, h1⟩ := tv_cons (dec_int hk) h1
  obtain ⟨x5, ys, rfl, g5, h1⟩ := tv_cons (dec_str hs) h1
  obtain ⟨x6, ys, rfl, g6, h1⟩ := tv_cons (dec_str hs) h1
  obtain ⟨x7, ys, rfl, g7, h1⟩ := tv_cons (dec_str hs) h1
  obtain ⟨x8, ys, rfl, g8, h1⟩ := tv_cons (dec_list hl hb (dec_int hn)) h1
  rw [tv_nil h1]
  exact ⟨⟨x0, x1, x2, x3, x4, x5, x6, x7, x8⟩, rfl, ⟨g0, g1, g2, g3, g4, g5, g6, g7, g8⟩⟩
theorem dec_Fld (h : fts P t = some [s, tt, b]) (hs : P.underlying s = some .string) (ht : Dec P tt Ty.cells Ty.ok) (hb : P.underlying b = some .bool) : Dec P t Fld.cells Fld.ok := by
  intro xs hx
  obtain ⟨x0, ys, rfl, g0, h1⟩ := tv_cons (dec_str hs) (tv_struct h hx)
  obtain ⟨x1, ys, rfl, g1, h1⟩ := tv_cons ht h1
  obtain ⟨x2, ys, rfl, g2, h1⟩ := tv_cons (dec_bool hb) h1
  rw [tv_nil h1]
  exact ⟨⟨x0, x1, x2⟩, rfl, ⟨g0, g1⟩⟩
theorem dec_Meth (h : fts P t = some [s, s, b, b, i, lI]) (hs : P.underlying s = some .string) (hb : P.underlying b = some .bool) (hi : P.underlying i = some (.int .i64)) (hl : P.underlying lI = some (.slice ti)) (hbb : Nat.blt 0 (P.bytesOf ti) = true)
    (ht : Dec P ti Instr.cells Instr.ok) : Dec P t Meth.cells Meth.ok := by
  intro xs hx
  obtain ⟨x0, ys, rfl, g0, h1⟩ := tv_cons (dec_str hs) (tv_struct h hx)
  obtain ⟨x1, ys, rfl, g1, h1⟩ := tv_cons (dec_str hs) h1
  obtain ⟨x2, ys, rfl, g2, h1⟩ := tv_cons (dec_bool hb) h1
  obtain ⟨x3, ys, rfl, g3, h1⟩ := tv_cons (dec_bool hb) h1
  obtain ⟨x4, ys, rfl, g4, h1⟩ := tv_cons (dec_int hi) h1
  obtain ⟨x5, ys, rfl, g5, h1⟩ := tv_cons (dec_list hl hbb ht) h1
  rw [tv_nil h1]
  exact ⟨⟨x0, x1, x2, x3, x4, x5⟩, rfl, ⟨g0, g1, g4, g5⟩⟩
theorem dec_Cls (h : fts P t = some [s, s, b, b, ls, lF, lM]) (hs : P.underlying s = some .string) (hb : P.underlying b = some .bool) (hls : P.underlying ls = some (.slice s)) (hbs : Nat.blt 0 (P.bytesOf s) = true)
    (hlf : P.underlying lF = some (.slice tf)) (hbf : Nat.blt 0 (P.bytesOf tf) = true) (hf : Dec P tf Fld.cells Fld.ok) (hlm : P.underlying lM = some (.slice tm)) (hbm : Nat.blt 0 (P.bytesOf tm) = true) (hm : Dec P tm Meth.cells Meth.ok) : Dec P t Cls.cells Cls.ok := by
  intro xs hx
  obtain ⟨x0, ys, rfl, g0, h1⟩ := tv_cons (dec_str hs) (tv_struct h hx)
  obtain ⟨x1, ys, rfl, g1, h1⟩ := tv_cons (dec_str hs) h1
  obtain ⟨x2, ys, rfl, g2, h1⟩ := tv_cons (dec_bool hb) h1
  obtain ⟨x3, ys, rfl, g3, h1⟩ := tv_cons (dec_bool hb) h1
  obtain ⟨x4, ys, rfl, g4, h1⟩ := tv_cons (dec_list hls hbs (dec_str hs)) h1
  obtain ⟨x5, ys, rfl, g5, h1⟩ := tv_cons (dec_list hlf hbf hf) h1
  obtain ⟨x6, ys, rfl, g6, h1⟩ := tv_cons (dec_list hlm hbm hm) h1
  rw [tv_nil h1]
  exact ⟨⟨x0, x1, x2, x3, x4, x5, x6⟩, rfl, ⟨g0, g1, g4, g5, g6⟩⟩
theorem dec_Prog (h : fts P t = some [lC, ls, tr]) (hs : P.underlying s = some .string) (hls : P.underlying ls = some (.slice s)) (hbs : Nat.blt 0 (P.bytesOf s) = true) (hlc : P.underlying lC = some (.slice tc)) (hbc : Nat.blt 0 (P.bytesOf tc) = true)
    (hc : Dec P tc Cls.cells Cls.ok) (hr : Dec P tr MRef.cells MRef.ok) : Dec P t Prog.cells Prog.ok := by
  intro xs hx
  obtain ⟨x0, ys, rfl, g0, h1⟩ := tv_cons (dec_list hlc hbc hc) (tv_struct h hx)
  obtain ⟨x1, ys, rfl, g1, h1⟩ := tv_cons (dec_list hls hbs (dec_str hs)) h1
  obtain ⟨x2, ys, rfl, g2, h1⟩ := tv_cons hr h1
  rw [tv_nil h1]
  exact ⟨⟨x0, x1, x2⟩, rfl, ⟨g0, g1, g2⟩⟩
end
end
theorem txs_agg {P : Program} {α : Type} {cells : α → List AV} {ok : α → Prop} {t : TypeId} {ts : List TypeId} {xs : List AV} (hd : Dec P t cells ok) (hn : isAggT P t = true) (h : TXs P (t :: ts) xs) :
    ∃ (a : α) (ys : List AV), xs = .agg (cells a) :: ys ∧ ok a ∧ TXs P ts ys := by
  cases h with
  | one hn' _ _ => rw [hn] at hn'; cases hn'
  | agg _ h r => obtain ⟨a, rfl, ha⟩ := hd _ h; exact ⟨a, _, rfl, ha, r⟩
theorem txs_one {P : Program} {α : Type} {f : α → AV} {ok : α → Prop} {t : TypeId} {ts : List TypeId} {xs : List AV} (hd : Dec P t (fun a => [f a]) ok) (hn : isAggT P t = false) (h : TXs P (t :: ts) xs) :
    ∃ (a : α) (ys : List AV), xs = f a :: ys ∧ ok a ∧ TXs P ts ys := by
  cases h with
  | agg hn' _ _ => rw [hn] at hn'; cases hn'
  | one _ h r => obtain ⟨a, e, ha⟩ := hd _ h; cases e; exact ⟨a, _, rfl, ha, r⟩
theorem dec_arr3 {P : Program} {t e : TypeId} {α : Type} {cells : α → List AV} {ok : α → Prop} (hu : P.underlying t = some (.array 3 e)) (he : Dec P e cells ok) : Dec P t (fun z : α × α × α => cells z.1 ++ (cells z.2.1 ++ cells z.2.2)) (fun z => ok z.1 ∧ ok z.2.1 ∧ ok z.2.2) := by
  intro xs h
  cases h with
  | array parts h hl hp =>
    rw [hu] at h; cases h
    match parts, hl, hp with
    | [x, y, w], _, hp =>
      obtain ⟨a, rfl, ha⟩ := he x (hp _ (by simp))
      obtain ⟨b, rfl, hb⟩ := he y (hp _ (by simp))
      obtain ⟨c, rfl, hc⟩ := he w (hp _ (by simp))
      exact ⟨(a, b, c), by simp, ha, hb, hc⟩
  | _ => simp_all
end Go.Sx
