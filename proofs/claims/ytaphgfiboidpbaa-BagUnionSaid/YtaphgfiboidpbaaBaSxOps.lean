/- The operations of the model over abstract states. -/
import Derived.Test.YtaphgfiboidpbaaBaSxCalls
set_option linter.unusedSimpArgs false
set_option linter.unusedVariables false
namespace Go.Sx
open Go

/-- Facts on a program's types, found by their numbers. -/
class TK (P : Program) (t : TypeId) (b : outParam Bool) (n : outParam Nat) : Prop where
  tk : P.tk t = some (b, n)
class UD (P : Program) (t : TypeId) (d : outParam TypeDesc) : Prop where
  ud : P.underlying t = some d
/-- A struct's field: where it lies, of no size 0. -/
def _root_.Go.Program.fo (P : Program) (s f : Nat) : Option (Nat × Nat) :=
  match P.underlying s with
  | some (.struct fs) => match fs[f]? with
    | some g => match P.info? g.type with
      | some i => if i.size = 0 then none else some (g.offset, g.type)
      | none => none
    | none => none
  | _ => none
class FO (P : Program) (s f : Nat) (off ft : outParam Nat) : Prop where
  fo : P.fo s f = some (off, ft)
/-- A type's zero value's cells. -/
def _root_.Go.Program.zc (P : Program) (t : TypeId) : Option (List Value) :=
  match P.info? t with
  | some i => i.zero.map (·.cells.toList)
  | none => none
class ZC (P : Program) (t : TypeId) (zs : outParam (List Value)) : Prop where
  zc : P.zc t = some zs

section
variable {P : Program} {T : List (Nat × AV)} {o : Oper}

theorem run_underlying {t : TypeId} {d : TypeDesc} [h : UD P t d] (w : World) : (underlying t).run P w = .ok d w := by
  simp only [underlying, program, Sem.run_bind, Sem.run, Result.andThen, h.ud, Sem.run_pure]

/-- An operation that changes nothing. -/
theorem eff_val {Hn : AHeap} {x : AV} (hd : ∀ c, o.op ≠ .defer c)
    (h : ∀ (C : Ctx) (H : AHeap) (a : Act) (w : World), WR C H w → (∀ p, p ∈ Hn → p ∈ H) → (∀ p, p ∈ o.op.operands → ∀ y, ev T p = some y → VR C y (a.eval p)) →
      ∃ v, (execOp a.eval o).run P w = .ok (.value v) w ∧ VR C x v) : Eff P o T Hn x [] := by
  intro Z C H a w hw hn hv _ _ _ ro next R hk
  obtain ⟨v, h1, h2⟩ := h C H a w hw hn hv
  rw [Oper.semAt_eq _ _ _ hd, h1]
  exact hk v w C h2 hw (.refl ..)

theorem eff_move {p : Operand} {x : AV} (ho : o.op = .move p) (hx : ev T p = some x) : Eff P o T [] x [] :=
  eff_val (by intro c; rw [ho]; nofun) fun C H a w _ _ hv => ⟨a.eval p, by simp [execOp, ho], hv p (by rw [ho]; simp [Op.operands]) x hx⟩
theorem eff_assign {p : Operand} {x : AV} (ho : o.op = .assign p) (hx : ev T p = some x) : Eff P o T [] x [] :=
  eff_val (by intro c; rw [ho]; nofun) fun C H a w _ _ hv => ⟨a.eval p, by simp [execOp, ho], hv p (by rw [ho]; simp [Op.operands]) x hx⟩

theorem eff_pick {c p q : Operand} {t : Bool} {x y : AV} (ho : o.op = .pick c p q) (hc : ev T c = some (.v (.bool t))) (hx : ev T p = some x) (hy : ev T q = some y) : Eff P o T [] (if t then x else y) [] :=
  eff_val (by intro c; rw [ho]; nofun) fun C H a w _ _ hv => by
    have h1 := VR.val (hv c (by rw [ho]; simp [Op.operands]) _ hc)
    have h2 := hv p (by rw [ho]; simp [Op.operands]) _ hx
    have h3 := hv q (by rw [ho]; simp [Op.operands]) _ hy
    refine ⟨if t then a.eval p else a.eval q, ?_, ?_⟩
    · simp [execOp, ho, h1, asBool, Sem.run_bind, Result.andThen]
    · cases t <;> assumption

/-- A load. -/
theorem eff_load {t : TypeId} {p : Operand} {y x : AV} {l : List AV} {Hn : AHeap} (ho : o.op = .load t p) (hp : ev T p = some y) (hat : At Hn y l) (hl : Ld P t l x) : Eff P o T Hn x [] :=
  eff_val (by intro c; rw [ho]; nofun) fun C H a w hw hn hv => by
    have hat' : At H y l := by
      cases y with
      | ptr id sz i c => obtain ⟨el, es, e, h1, h2⟩ := hat; exact ⟨el, es, e, hn _ h1, h2⟩
      | elt es i c => exact hat
      | _ => exact hat.elim
    obtain ⟨ad, u, h1, h2, h3⟩ := run_loadVar hat' hl hw (hv p (by rw [ho]; simp [Op.operands]) _ hp)
    exact ⟨u, by simp [execOp, ho, Instr.loadAt, h1, Instr.sureAddr, h2, Sem.run_bind, Result.andThen], h3⟩

theorem ld_one {t : TypeId} {n : Nat} [h : TK P t false n] {x : AV} {r : List AV} : Ld P t (x :: r) x := .inl ⟨n, r, h.tk, rfl⟩
theorem ld_agg {t : TypeId} {n : Nat} [h : TK P t true n] {l : List AV} (hn : n ≤ l.length) : Ld P t l (.agg (l.take n)) := .inr ⟨n, h.tk, hn, rfl⟩

theorem add_none (b off k : Nat) : (Addr.add ⟨b, off, none⟩ k) = ⟨b, off + k, none⟩ := by
  unfold Addr.add
  split
  · rename_i h; subst h; rfl
  · rfl

/-- An address moved by some cells. -/
def plus : AV → Nat → Option AV
  | .ptr id sz i c, k => some (.ptr id sz i (c + k))
  | .elt es i c, k => some (.elt es i (c + k))
  | _, _ => none

theorem plus_spec {C : Ctx} {y z : AV} {k : Nat} {v : Value} (h : plus y k = some z) (hv : VR C y v) : ∃ a, v = .pointer (some a) ∧ VR C z (.pointer (some (a.add k))) := by
  cases hv with
  | ptr id sz i c b N hid hu =>
    simp only [plus, Option.some.injEq] at h
    subst h
    refine ⟨_, rfl, ?_⟩
    rw [add_none, Nat.add_assoc]
    exact .ptr id sz i (c + k) b N hid hu
  | elt es i c a sz cap n hl hz hi =>
    simp only [plus, Option.some.injEq] at h
    subst h
    refine ⟨_, rfl, ?_⟩
    rw [add_none, Nat.add_assoc]
    exact .elt es i (c + k) a sz cap n hl hz hi
  | _ => cases h

theorem eff_fieldAddr {s f off ft : Nat} {p : Operand} {y z : AV} [h : FO P s f off ft] (ho : o.op = .fieldAddr s p f) (hp : ev T p = some y) (hz : plus y off = some z) : Eff P o T [] z [] :=
  eff_val (by intro c; rw [ho]; nofun) fun C H a w hw hn hv => by
    obtain ⟨ad, h1, h2⟩ := plus_spec hz (hv p (by rw [ho]; simp [Op.operands]) _ hp)
    refine ⟨_, ?_, h2⟩
    have hf := h.fo
    unfold Program.fo at hf
    split at hf
    · rename_i fs hu
      split at hf
      · rename_i g hg
        split at hf
        · rename_i i hi
          split at hf
          · cases hf
          · rename_i hne
            simp only [Option.some.injEq, Prod.mk.injEq] at hf
            obtain ⟨rfl, rfl⟩ := hf
            simp [execOp, ho, Instr.fieldAt, underlying, program, Sem.run, hu, hg, h1, Instr.sureAddr, fieldPlace, sizeOf, typeInfo, hi, hne, Sem.run_bind, Result.andThen]
        · cases hf
      · cases hf
    · cases hf

/-- A part of a value. -/
def partA (b : Bool) (n off : Nat) (cs : List AV) : Option AV := if b then some (.agg ((cs.drop off).take n)) else cs[off]?

theorem VR.aggInv {C : Ctx} {cs : List AV} {v : Value} (h : VR C (.agg cs) v) : ∃ vs, v = .agg vs ∧ cs.length = vs.size ∧ ∀ (i : Nat) (c : AV) (x : Value), cs[i]? = some c → vs[i]? = some x → VR C c x := by
  cases h with
  | agg _ vs hl h => exact ⟨vs, rfl, hl, h⟩

/-- Where an index leads. -/
def nth : AV → Int → Option AV
  | .lst es, k => if 0 ≤ k ∧ k < es.length then some (.elt es k.toNat 0) else none
  | .own id sz off len, k => if 0 ≤ k ∧ k < len then some (.ptr id sz (off + k.toNat) 0) else none
  | _, _ => none

theorem eff_indexAddr_lst {t e n : Nat} {b : Bool} {p q : Operand} {es : List (List AV)} {kd : IntKind} {k : Int} [h : UD P t (.slice e)] [k1 : TK P e b n] (ho : o.op = .indexAddr t p q)
    (hp : ev T p = some (.lst es)) (hq : ev T q = some (.v (.int kd k))) (hes : ∀ x : List AV, x ∈ es → x.length = n) (h0 : 0 ≤ k) (h1 : k < es.length) : Eff P o T [] (.elt es k.toNat 0) [] :=
  eff_val (by intro c; rw [ho]; nofun) fun C H a w hw hn hv => by
    have h2 := hv p (by rw [ho]; simp [Op.operands]) _ hp
    have h3 := VR.val (hv q (by rw [ho]; simp [Op.operands]) _ hq)
    cases hpv : a.eval p with
    | slice ad len cap =>
      rw [hpv] at h2
      have h2' := h2
      cases h2 with
      | lstNil => simp at h1; omega
      | lst _ a' sz cap cells elem fz xs hs hb hz hc hvv ho' hcap =>
        have hlt : k.toNat < es.length := by omega
        have hsz : sz = n := by
          have hm := List.getElem_mem hlt
          rw [← hz _ hm, hes _ hm]
        subst hsz
        refine ⟨.pointer (some (a'.add (k.toNat * sz))), ?_, ?_⟩
        · have hi : (0 ≤ k ∧ k < (es.length : Int)) := ⟨h0, h1⟩
          simp [execOp, ho, Instr.indexAt, hpv, h3, asIntOf, run_underlying (d := .slice e), run_sizeOf k1.tk, hi, Sem.run_bind, Result.andThen]
        · rw [show a'.add (k.toNat * sz) = ⟨a'.block, a'.off + k.toNat * sz + 0, none⟩ from by
            unfold Addr.add
            split
            · rename_i h0; rw [h0]; have hs := hs (by rintro rfl; simp at hlt); cases a'; simp at hs; simp [hs]
            · simp]
          exact .elt es k.toNat 0 a' sz cap es.length h2' hz hlt
    | _ => rw [hpv] at h2; cases h2

theorem eff_indexAddr_own {t e n : Nat} {b : Bool} {p q : Operand} {id off len : Nat} {kd : IntKind} {k : Int} [h : UD P t (.slice e)] [k1 : TK P e b n] (ho : o.op = .indexAddr t p q)
    (hp : ev T p = some (.own id n off len)) (hq : ev T q = some (.v (.int kd k))) (h0 : 0 ≤ k) (h1 : k < len) : Eff P o T [] (.ptr id n (off + k.toNat) 0) [] :=
  eff_val (by intro c; rw [ho]; nofun) fun C H a w hw hn hv => by
    have h2 := hv p (by rw [ho]; simp [Op.operands]) _ hp
    have h3 := VR.val (hv q (by rw [ho]; simp [Op.operands]) _ hq)
    cases hpv : a.eval p with
    | slice ad len' cap =>
      rw [hpv] at h2
      cases h2 with
      | ownNil => simp at h1; omega
      | own _ _ _ _ b N cap hid hu hcap hlen =>
        refine ⟨.pointer (some ((⟨b, off * n, none⟩ : Addr).add (k.toNat * n))), ?_, ?_⟩
        · have hi : (0 ≤ k ∧ k < (len : Int)) := ⟨h0, h1⟩
          simp [execOp, ho, Instr.indexAt, hpv, h3, asIntOf, run_underlying (d := .slice e), run_sizeOf k1.tk, hi, Sem.run_bind, Result.andThen]
        · rw [show (⟨b, off * n, none⟩ : Addr).add (k.toNat * n) = ⟨b, (off + k.toNat) * n + 0, none⟩ from by
            simp [Addr.add, Nat.add_mul]]
          exact .ptr id n (off + k.toNat) 0 b N hid hu
    | _ => rw [hpv] at h2; cases h2

/-- An element of an array variable. -/
theorem eff_indexAddr_arr {t e n m : Nat} {b : Bool} {p q : Operand} {y z : AV} {kd : IntKind} {k : Int} [h : UD P t (.array m e)] [k1 : TK P e b n] (ho : o.op = .indexAddr t p q)
    (hp : ev T p = some y) (hq : ev T q = some (.v (.int kd k))) (h0 : 0 ≤ k) (h1 : k < m) (hz : plus y (k.toNat * n) = some z) : Eff P o T [] z [] :=
  eff_val (by intro c; rw [ho]; nofun) fun C H a w hw hn hv => by
    obtain ⟨ad, h2, h2'⟩ := plus_spec hz (hv p (by rw [ho]; simp [Op.operands]) _ hp)
    have h3 := VR.val (hv q (by rw [ho]; simp [Op.operands]) _ hq)
    refine ⟨_, ?_, h2'⟩
    have hi : (0 ≤ k ∧ k < (m : Int)) := ⟨h0, h1⟩
    simp [execOp, ho, Instr.indexAt, h2, h3, asIntOf, Instr.sureAddr, run_underlying (d := .array m e), run_sizeOf k1.tk, hi, Sem.run_bind, Result.andThen]

/-- A string's byte. -/
theorem eff_index_str {t : Nat} {p q : Operand} {s : ByteArray} {kd : IntKind} {k : Int} {c : UInt8} [h : UD P t .string] (ho : o.op = .index t p q)
    (hp : ev T p = some (.v (.string s))) (hq : ev T q = some (.v (.int kd k))) (h0 : 0 ≤ k) (h1 : s[k.toNat]? = some c) : Eff P o T [] (.v (.int .u8 c.toNat)) [] :=
  eff_val (by intro c; rw [ho]; nofun) fun C H a w hw hn hv => by
    have h2 := VR.val (hv p (by rw [ho]; simp [Op.operands]) _ hp)
    have h3 := VR.val (hv q (by rw [ho]; simp [Op.operands]) _ hq)
    refine ⟨.int .u8 c.toNat, ?_, .v _⟩
    simp [execOp, ho, Instr.index, h2, h3, asIntOf, run_underlying (d := .string), h0, h1, Sem.run_bind, Result.andThen]

/-! ### Numbers, bools, strings -/

def arith : BinOp → IntKind → Int → Int → Option Int
  | .add, k, x, y => some (k.wrap (x + y))
  | .sub, k, x, y => some (k.wrap (x - y))
  | .mul, k, x, y => some (k.wrap (x * y))
  | _, _, _, _ => none

def icmp : BinOp → Int → Int → Option Bool
  | .eql, x, y => some (x == y)
  | .neq, x, y => some (x != y)
  | .lss, x, y => some (decide (x < y))
  | .leq, x, y => some (decide (x ≤ y))
  | .gtr, x, y => some (decide (x > y))
  | .geq, x, y => some (decide (x ≥ y))
  | _, _, _ => none

def scmp : BinOp → ByteArray → ByteArray → Option Bool
  | .eql, x, y => some (x.toList == y.toList)
  | .neq, x, y => some (!(x.toList == y.toList))
  | .lss, x, y => some (Op.bytesLess x.toList y.toList)
  | .leq, x, y => some (Op.bytesLess x.toList y.toList || x.toList == y.toList)
  | .gtr, x, y => some (!(Op.bytesLess x.toList y.toList || x.toList == y.toList))
  | .geq, x, y => some (!(Op.bytesLess x.toList y.toList))
  | _, _, _ => none

theorem eff_arith {b : BinOp} {t t' : TypeId} {p q : Operand} {k : IntKind} {x y z : Int} (ho : o.op = .binOp b t p q t') (hp : ev T p = some (.v (.int k x))) (hq : ev T q = some (.v (.int k y))) (hz : arith b k x y = some z) : Eff P o T [] (.v (.int k z)) [] :=
  eff_val (by intro c; rw [ho]; nofun) fun C H a w hw hn hv => by
    have h2 := VR.val (hv p (by rw [ho]; simp [Op.operands]) _ hp)
    have h3 := VR.val (hv q (by rw [ho]; simp [Op.operands]) _ hq)
    refine ⟨.int k z, ?_, .v _⟩
    cases b <;> simp only [arith, Option.some.injEq, reduceCtorEq] at hz <;> subst hz <;>
      simp [execOp, ho, h2, h3, eqGuard, binOp, Op.intArith, Sem.run_bind, Result.andThen]

theorem eff_icmp {b : BinOp} {t t' : TypeId} {p q : Operand} {k : IntKind} {x y : Int} {z : Bool} (ho : o.op = .binOp b t p q t') (hp : ev T p = some (.v (.int k x))) (hq : ev T q = some (.v (.int k y))) (hz : icmp b x y = some z) : Eff P o T [] (.v (.bool z)) [] :=
  eff_val (by intro c; rw [ho]; nofun) fun C H a w hw hn hv => by
    have h2 := VR.val (hv p (by rw [ho]; simp [Op.operands]) _ hp)
    have h3 := VR.val (hv q (by rw [ho]; simp [Op.operands]) _ hq)
    refine ⟨.bool z, ?_, .v _⟩
    cases b <;> simp only [icmp, Option.some.injEq, reduceCtorEq] at hz <;> subst hz <;>
      simp [execOp, ho, h2, h3, eqGuard, binOp, Op.intCmp, Sem.run_bind, Result.andThen]

theorem eff_scmp {b : BinOp} {t t' : TypeId} {p q : Operand} {x y : ByteArray} {z : Bool} (ho : o.op = .binOp b t p q t') (hp : ev T p = some (.v (.string x))) (hq : ev T q = some (.v (.string y))) (hz : scmp b x y = some z) : Eff P o T [] (.v (.bool z)) [] :=
  eff_val (by intro c; rw [ho]; nofun) fun C H a w hw hn hv => by
    have h2 := VR.val (hv p (by rw [ho]; simp [Op.operands]) _ hp)
    have h3 := VR.val (hv q (by rw [ho]; simp [Op.operands]) _ hq)
    refine ⟨.bool z, ?_, .v _⟩
    cases b <;> simp only [scmp, Option.some.injEq, reduceCtorEq] at hz <;> subst hz <;>
      simp [execOp, ho, h2, h3, eqGuard, binOp, Op.stringOp, Sem.run_bind, Result.andThen]

theorem eff_not {t : TypeId} {p : Operand} {x : Bool} (ho : o.op = .unOp .not t p) (hp : ev T p = some (.v (.bool x))) : Eff P o T [] (.v (.bool (!x))) [] :=
  eff_val (by intro c; rw [ho]; nofun) fun C H a w hw hn hv => by
    have h2 := VR.val (hv p (by rw [ho]; simp [Op.operands]) _ hp)
    exact ⟨.bool (!x), by simp [execOp, ho, h2, Op.unary, Sem.run_bind, Result.andThen], .v _⟩

theorem eff_convInt {s t : TypeId} {p : Operand} {k k' : IntKind} {x : Int} {d : TypeDesc} [h : UD P s d] [h' : UD P t (.int k')] (ho : o.op = .convert s t p) (hp : ev T p = some (.v (.int k x))) : Eff P o T [] (.v (.int k' (k'.wrap x))) [] :=
  eff_val (by intro c; rw [ho]; nofun) fun C H a w hw hn hv => by
    have h2 := VR.val (hv p (by rw [ho]; simp [Op.operands]) _ hp)
    refine ⟨.int k' (k'.wrap x), ?_, .v _⟩
    cases d <;> simp [execOp, ho, h2, convert, run_underlying (t := s), run_underlying (t := t) (d := .int k'), Conv.intToInt, Sem.run_bind, Result.andThen]

/-! ### Built-in functions that only read -/

/-- How long it is. -/
def lenA : AV → Option Nat
  | .lst es => some es.length
  | .own _ _ _ len => some len
  | .v (.string s) => some s.size
  | .v (.slice none 0 0) => some 0
  | _ => none

def lenT : AV → TypeDesc → Bool
  | .v (.string _), .string => true
  | .lst _, .slice _ => true
  | .own .., .slice _ => true
  | .v (.slice ..), .slice _ => true
  | _, _ => false

theorem eff_len {p : Operand} {t : TypeId} {d : TypeDesc} {x : AV} {n : Nat} [h : UD P t d] (ho : o.op = .call { callee := .builtin .len, args := #[p], argTypes := #[t] }) (hp : ev T p = some x) (hx : lenA x = some n)
    (hd : lenT x d = true) : Eff P o T [] (.v (.int .i64 n)) [] :=
  eff_val (by intro c; rw [ho]; nofun) fun C H a w hw hn hv => by
    have h2 := hv p (by rw [ho]; simp [Op.operands, Call.operands]) _ hp
    refine ⟨.int .i64 n, ?_, .v _⟩
    have key : ∀ v, a.eval p = v → (∃ ad c, v = .slice ad n c ∧ ∃ e, d = .slice e) ∨ (∃ s : ByteArray, v = .string s ∧ s.size = n ∧ d = .string) → (execOp a.eval o).run P w = .ok (.value (.int .i64 n)) w := by
      rintro v hv' (⟨ad, c, rfl, e, rfl⟩ | ⟨s, rfl, rfl, rfl⟩) <;>
        simp [execOp, ho, resolve, invoke, builtin, Builtin.len_, hv', run_underlying (t := t), goInt, Sem.run_bind, Result.andThen]
    refine key _ rfl ?_
    clear key
    generalize a.eval p = u at h2
    have sl : ∀ y : AV, lenT y d = true → (match y with | .v (.string _) => False | _ => True) → ∃ e, d = .slice e := by
      intro y hy hn
      unfold lenT at hy
      split at hy <;> first | exact hn.elim | exact ⟨_, rfl⟩ | cases hy
    cases h2 with
    | lstNil => simp only [lenA, Option.some.injEq] at hx; subst hx; exact .inl ⟨_, _, rfl, sl _ hd trivial⟩
    | lst => simp only [lenA, Option.some.injEq] at hx; subst hx; exact .inl ⟨_, _, rfl, sl _ hd trivial⟩
    | own => simp only [lenA, Option.some.injEq] at hx; subst hx; exact .inl ⟨_, _, rfl, sl _ hd trivial⟩
    | ownNil => simp only [lenA, Option.some.injEq] at hx; subst hx; exact .inl ⟨_, _, rfl, sl _ hd trivial⟩
    | v =>
      cases u with
      | string s =>
        simp only [lenA, Option.some.injEq] at hx
        refine .inr ⟨s, rfl, hx, ?_⟩
        cases d <;> first | rfl | (simp [lenT] at hd)
      | slice ad l c =>
        have := sl _ hd trivial
        unfold lenA at hx
        split at hx <;> first | (rename_i heq; cases heq; done) | (rename_i heq; cases heq; simp only [Option.some.injEq] at hx; subst hx; exact .inl ⟨_, _, rfl, this⟩) | cases hx
      | _ => simp [lenA] at hx
    | _ => simp [lenA] at hx

theorem eff_extract {p : Operand} {i : Nat} {cs : List AV} {x : AV} (ho : o.op = .extract p i) (hp : ev T p = some (.tup cs)) (hx : cs[i]? = some x) : Eff P o T [] x [] :=
  eff_val (by intro c; rw [ho]; nofun) fun C H a w hw hn hv => by
    have h2 := hv p (by rw [ho]; simp [Op.operands]) _ hp
    cases hpv : a.eval p with
    | tuple vs =>
      rw [hpv] at h2
      cases h2 with
      | tup _ _ hl hh =>
        have hlt : i < vs.size := by rw [← hl]; exact (List.getElem?_eq_some_iff.1 hx).1
        have hg : vs[i]? = some vs[i] := Array.getElem?_eq_getElem hlt
        exact ⟨vs[i], by simp [execOp, ho, Instr.extract, hpv, hg, Sem.run_bind, Result.andThen], hh i x _ hx hg⟩
    | _ => rw [hpv] at h2; cases h2

theorem eff_makeFunc {f : Fn} {caps : Array Operand} {xs : List AV} (ho : o.op = .makeFunc f #[] caps) (hxs : evs T caps.toList = some xs) : Eff P o T [] (.fn f xs) [] :=
  eff_val (by intro c; rw [ho]; nofun) fun C H a w hw hn hv => by
    have h1 := evs_spec (ρ := a.eval) caps.toList xs hxs (fun p hp => hv p (by rw [ho]; simpa [Op.operands] using hp))
    refine ⟨.func f #[] (caps.toList.map a.eval).toArray, ?_, .fn _ _ _ h1.1 h1.2⟩
    have e : Array.map a.eval caps = (List.map a.eval caps.toList).toArray := by apply Array.ext'; simp
    simp [execOp, ho, Instr.makeFunc, Sem.run_bind, Result.andThen, e]

def isPtr : AV → Bool
  | .ptr .. => true
  | .elt .. => true
  | _ => false

theorem eff_nilCheck {p : Operand} {x : AV} (ho : o.op = .nilCheck p) (hp : ev T p = some x) (hx : isPtr x = true) : Eff P o T [] x [] :=
  eff_val (by intro c; rw [ho]; nofun) fun C H a w hw hn hv => by
    have h2 := hv p (by rw [ho]; simp [Op.operands]) _ hp
    refine ⟨a.eval p, ?_, h2⟩
    simp only [execOp, ho]
    generalize a.eval p = u at h2 ⊢
    cases h2 <;> first | rfl | (simp [isPtr] at hx)

end
end Go.Sx
