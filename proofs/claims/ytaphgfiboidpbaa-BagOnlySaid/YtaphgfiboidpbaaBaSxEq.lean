/- Structs that are compared, structs that are written out. -/
import Derived.Test.YtaphgfiboidpbaaBaSxMem4
import Derived.Laws.StructEq
set_option linter.unusedSimpArgs false
set_option linter.unusedVariables false
set_option linter.unnecessarySimpa false
namespace Go.Sx
open Go

/-- A cell's kind. -/
inductive CK where
  | int (k : IntKind)
  | bool
  | str
  deriving DecidableEq

mutual
/-- The cells of a type whose values are compared cell by cell. -/
def ckOf (P : Program) : Nat → TypeId → Option (List CK)
  | 0, _ => none
  | d + 1, t => match P.underlying t with
    | some (.int k) => some [.int k]
    | some .bool => some [.bool]
    | some .string => some [.str]
    | some (.struct fs) => if P.stoodInHeld t then none else ckFields P d fs.toList 0
    | _ => none
def ckFields (P : Program) : Nat → List Field → Nat → Option (List CK)
  | _, [], _ => some []
  | 0, _ :: _, _ => none
  | d + 1, f :: fs, off =>
    if (f.name == "_") = false ∧ f.offset = off then
      match ckOf P d f.type with
      | some ks => if (P.info? f.type).map (·.size) = some ks.length then
          match ckFields P d fs (off + ks.length) with
          | some r => some (ks ++ r)
          | none => none
        else none
      | none => none
    else none
end

def ck1 : Value → Option CK
  | .int k _ => some (.int k)
  | .bool _ => some .bool
  | .string _ => some .str
  | _ => none

def veq : Value → Value → Bool
  | .int _ a, .int _ b => a == b
  | .bool a, .bool b => a == b
  | .string a, .string b => a.toList == b.toList
  | _, _ => false

def vseq : List Value → List Value → Bool
  | [], [] => true
  | x :: xs, y :: ys => veq x y && vseq xs ys
  | _, _ => false

theorem vseq_append : ∀ (a b c d : List Value), a.length = c.length → vseq (a ++ b) (c ++ d) = (vseq a c && vseq b d)
  | [], b, [], d, _ => by simp [vseq]
  | x :: a, b, y :: c, d, h => by simp only [List.cons_append, vseq]; rw [vseq_append a b c d (by simpa using h), Bool.and_assoc]

theorem ck_int {x : Value} {k : IntKind} (h : ck1 x = some (.int k)) : ∃ n, x = .int k n := by cases x <;> simp [ck1] at h; subst h; exact ⟨_, rfl⟩
theorem ck_bool {x : Value} (h : ck1 x = some .bool) : ∃ b, x = .bool b := by cases x <;> simp [ck1] at h; exact ⟨_, rfl⟩
theorem ck_str {x : Value} (h : ck1 x = some .str) : ∃ b, x = .string b := by cases x <;> simp [ck1] at h; exact ⟨_, rfl⟩

section
variable {P : Program}

/-- A value of cells, as its type has it. -/
def asV (agg : Bool) (l : List Value) : Value := if agg then .agg l.toArray else l.headD undef

def aggD : TypeDesc → Bool
  | .struct _ => true
  | .array _ _ => true
  | _ => false

theorem tk_of {t : TypeId} {d : TypeDesc} {n : Nat} (h : P.underlying t = some d) (k : (P.info? t).map (·.size) = some n) : P.tk t = some (aggD d, n) := by
  cases hi : P.info? t with
  | none => rw [hi] at k; cases k
  | some i =>
    rw [hi] at k
    simp only [Option.map_some, Option.some.injEq] at k
    unfold Program.tk
    rw [h, hi]
    simp only [k]
    cases d <;> rfl

mutual
theorem run_eq (w : World) : ∀ (d : Nat) (t : TypeId) (ks : List CK) (D : Nat) (xs ys : List Value), ckOf P d t = some ks → d ≤ D → xs.map ck1 = ks.map some → ys.map ck1 = ks.map some →
    (Op.equalIn D t (asV (match P.underlying t with | some (.struct _) => true | _ => false) xs) (asV (match P.underlying t with | some (.struct _) => true | _ => false) ys)).run P w = .ok (vseq xs ys) w
  | 0, t, ks, D, xs, ys, h, _, _, _ => by simp [ckOf] at h
  | d + 1, t, ks, D, xs, ys, h, hD, hx, hy => by
    obtain ⟨D, rfl⟩ : ∃ D', D = D' + 1 := ⟨D - 1, by omega⟩
    simp only [ckOf] at h
    split at h
    · rename_i k hu
      simp only [Option.some.injEq] at h; subst h
      simp only [List.map_cons, List.map_nil] at hx hy
      obtain ⟨x, rfl, hxk⟩ : ∃ x, xs = [x] ∧ ck1 x = some (.int k) := by
        cases xs with
        | nil => simp at hx
        | cons x r => cases r with | nil => exact ⟨x, rfl, by simpa using hx⟩ | cons => simp at hx
      obtain ⟨y, rfl, hyk⟩ : ∃ x, ys = [x] ∧ ck1 x = some (.int k) := by
        cases ys with
        | nil => simp at hy
        | cons x r => cases r with | nil => exact ⟨x, rfl, by simpa using hy⟩ | cons => simp at hy
      obtain ⟨_, rfl⟩ := ck_int hxk
      obtain ⟨_, rfl⟩ := ck_int hyk
      simp only [hu, asV, Bool.false_eq_true, if_false, List.headD]
      rw [run_equalIn_int w D t _ _ _ _ hu]
      simp [vseq, veq]
    · rename_i hu
      simp only [Option.some.injEq] at h; subst h
      simp only [List.map_cons, List.map_nil] at hx hy
      obtain ⟨x, rfl, hxk⟩ : ∃ x, xs = [x] ∧ ck1 x = some .bool := by
        cases xs with
        | nil => simp at hx
        | cons x r => cases r with | nil => exact ⟨x, rfl, by simpa using hx⟩ | cons => simp at hx
      obtain ⟨y, rfl, hyk⟩ : ∃ x, ys = [x] ∧ ck1 x = some .bool := by
        cases ys with
        | nil => simp at hy
        | cons x r => cases r with | nil => exact ⟨x, rfl, by simpa using hy⟩ | cons => simp at hy
      obtain ⟨_, rfl⟩ := ck_bool hxk
      obtain ⟨_, rfl⟩ := ck_bool hyk
      simp only [hu, asV, Bool.false_eq_true, if_false, List.headD]
      rw [run_equalIn_bool' w D t _ _ hu]
      simp [vseq, veq]
    · rename_i hu
      simp only [Option.some.injEq] at h; subst h
      simp only [List.map_cons, List.map_nil] at hx hy
      obtain ⟨x, rfl, hxk⟩ : ∃ x, xs = [x] ∧ ck1 x = some .str := by
        cases xs with
        | nil => simp at hx
        | cons x r => cases r with | nil => exact ⟨x, rfl, by simpa using hx⟩ | cons => simp at hx
      obtain ⟨y, rfl, hyk⟩ : ∃ x, ys = [x] ∧ ck1 x = some .str := by
        cases ys with
        | nil => simp at hy
        | cons x r => cases r with | nil => exact ⟨x, rfl, by simpa using hy⟩ | cons => simp at hy
      obtain ⟨_, rfl⟩ := ck_str hxk
      obtain ⟨_, rfl⟩ := ck_str hyk
      simp only [hu, asV, Bool.false_eq_true, if_false, List.headD]
      rw [run_equalIn_string w D t _ _ hu]
      simp [vseq, veq]
    · rename_i fs hu
      split at h
      · cases h
      · rename_i hst
        simp only [hu, asV, if_true]
        have hst' : P.stoodInHeld t = false := by simpa using hst
        have hf : P.fieldsOf t = fs := by simp [Program.fieldsOf, hu]
        rw [run_equalIn_struct w D t _ _ (by rw [hf]; exact hu) hst', hf]
        have := run_eqFields w d fs.toList 0 ks D xs ys [] [] h (by omega) hx hy rfl rfl
        simpa using this
    · cases h
theorem run_eqFields (w : World) : ∀ (d : Nat) (fs : List Field) (off : Nat) (ks : List CK) (D : Nat) (xs ys px py : List Value), ckFields P d fs off = some ks → d ≤ D → xs.map ck1 = ks.map some → ys.map ck1 = ks.map some → px.length = off → py.length = off →
    (Op.eqFields D (px ++ xs).toArray (py ++ ys).toArray fs).run P w = .ok (vseq xs ys) w
  | d, [], off, ks, D, xs, ys, px, py, h, _, hx, hy, _, _ => by
    have : ks = [] := by cases d <;> simpa [ckFields] using h.symm
    subst this
    simp at hx hy
    subst hx; subst hy
    simp [Op.eqFields, vseq]
  | 0, _ :: _, off, ks, D, xs, ys, px, py, h, _, _, _, _, _ => by simp [ckFields] at h
  | d + 1, f :: fs, off, ks, D, xs, ys, px, py, h, hD, hx, hy, hpx, hpy => by
    simp only [ckFields] at h
    split at h
    · rename_i hc
      split at h
      · rename_i ks1 hk1
        split at h
        · rename_i hsz
          split at h
          · rename_i r hr
            simp only [Option.some.injEq] at h
            subst h
            rw [List.map_append] at hx hy
            -- the field's own cells
            have hxl : xs.length = ks1.length + r.length := by have := congrArg List.length hx; simpa using this
            have hyl : ys.length = ks1.length + r.length := by have := congrArg List.length hy; simpa using this
            have hx1 : (xs.take ks1.length).map ck1 = ks1.map some := by have := congrArg (List.take ks1.length) hx; simpa using this
            have hy1 : (ys.take ks1.length).map ck1 = ks1.map some := by have := congrArg (List.take ks1.length) hy; simpa using this
            have hx2 : (xs.drop ks1.length).map ck1 = r.map some := by have := congrArg (List.drop ks1.length) hx; simpa using this
            have hy2 : (ys.drop ks1.length).map ck1 = r.map some := by have := congrArg (List.drop ks1.length) hy; simpa using this
            have hn : f.name ≠ "_" := by simpa using hc.1
            have he := run_eq w d f.type ks1 D (xs.take ks1.length) (ys.take ks1.length) hk1 (by omega) hx1 hy1
            have ih := run_eqFields w d fs (off + ks1.length) r D (xs.drop ks1.length) (ys.drop ks1.length) (px ++ xs.take ks1.length) (py ++ ys.take ks1.length) hr (by omega) hx2 hy2 (by simp; omega) (by simp; omega)
            rw [List.append_assoc, List.take_append_drop, List.append_assoc, List.take_append_drop] at ih
            have hu : ∃ dd, P.underlying f.type = some dd := by
              cases d with
              | zero => simp [ckOf] at hk1
              | succ d =>
                simp only [ckOf] at hk1
                cases hz : P.underlying f.type with
                | some dd => exact ⟨dd, rfl⟩
                | none => rw [hz] at hk1; cases hk1
            obtain ⟨dd, hu⟩ := hu
            have htk := tk_of hu hsz
            have hpart : ∀ (p l : List Value), p.length = off → ks1.length ≤ l.length → (ks1.length = 1 ∨ (∃ fs, dd = .struct fs)) → (∀ fs' : Nat × TypeId, dd ≠ .array fs'.1 fs'.2) →
                (part f.type (p ++ l).toArray f.offset).run P w = .ok (asV (match P.underlying f.type with | some (.struct _) => true | _ => false) (l.take ks1.length)) w := by
              intro p l hp hl hone hna
              unfold part
              rw [Sem.run_bind, run_isAgg htk]
              simp only [Result.andThen]
              rcases hone with hone | ⟨fs', rfl⟩
              · cases dd with
                | struct fs' =>
                  simp only [hu, aggD, if_true, Sem.run_bind, run_sizeOf htk, Result.andThen, Sem.run_pure, asV]
                  congr 2
                  apply Array.ext'
                  simp [hc.2, ← hp]
                | array a b => exact absurd rfl (hna (a, b))
                | _ =>
                  simp only [hu, aggD, Bool.false_eq_true, if_false, asV]
                  obtain ⟨v, l', rfl⟩ : ∃ v l', l = v :: l' := by cases l with | nil => simp [hone] at hl | cons v l' => exact ⟨v, l', rfl⟩
                  have : (p ++ v :: l').toArray[f.offset]? = some v := by rw [List.getElem?_toArray, hc.2, ← hp]; simp
                  rw [this, hone]
                  simp
              · simp only [hu, aggD, if_true, Sem.run_bind, run_sizeOf htk, Result.andThen, Sem.run_pure, asV]
                congr 2
                apply Array.ext'
                simp [hc.2, ← hp]
            have hshape : (ks1.length = 1 ∨ (∃ fs, dd = .struct fs)) ∧ (∀ fs' : Nat × TypeId, dd ≠ .array fs'.1 fs'.2) := by
              cases d with
              | zero => simp [ckOf] at hk1
              | succ d =>
                simp only [ckOf, hu] at hk1
                cases dd <;> simp at hk1 <;> first | (subst hk1; exact ⟨.inl rfl, by intro _; nofun⟩) | exact ⟨.inr ⟨_, rfl⟩, by intro _; nofun⟩
            simp only [Op.eqFields, if_pos hn, Sem.run_bind, hpart px xs hpx (by omega) hshape.1 hshape.2, hpart py ys hpy (by omega) hshape.1 hshape.2, Result.andThen, he]
            have hv : vseq xs ys = (vseq (xs.take ks1.length) (ys.take ks1.length) && vseq (xs.drop ks1.length) (ys.drop ks1.length)) := by
              rw [← vseq_append _ _ _ _ (by simp; omega), List.take_append_drop, List.take_append_drop]
            rw [hv]
            cases hb : vseq (xs.take ks1.length) (ys.take ks1.length)
            · simp
            · simpa using ih
          · cases h
        · cases h
      · cases h
    · cases h
end


/-- A comparable type of several cells. -/
class EQ (P : Program) (t : TypeId) (ks : outParam (List CK)) : Prop where
  ck : ckOf P 20 t = some ks
  gd : P.eqGuardType P.depth t = false
  st : ∃ fs, P.underlying t = some (.struct fs)

def ckA : AV → Option CK
  | .v x => ck1 x
  | _ => none
def ceq : AV → AV → Bool
  | .v (.int _ a), .v (.int _ b) => a == b
  | .v (.bool a), .v (.bool b) => a == b
  | .v (.string a), .v (.string b) => a.toList == b.toList
  | _, _ => false
def ceqs : List AV → List AV → Bool
  | [], [] => true
  | [x], [y] => ceq x y
  | x :: xs, y :: ys => ceq x y && ceqs xs ys
  | _, _ => false

theorem ckA_spec {C : Ctx} {x : AV} {v : Value} {k : CK} (h : ckA x = some k) (hv : VR C x v) : x = .v v ∧ ck1 v = some k := by
  cases x with
  | v y => have := VR.val hv; subst this; exact ⟨rfl, h⟩
  | _ => simp [ckA] at h

theorem cks_spec {C : Ctx} : ∀ (xs : List AV) (vs : List Value) (ks : List CK), xs.map ckA = ks.map some → xs.length = vs.length → (∀ (i : Nat) (c : AV) (u : Value), xs[i]? = some c → vs[i]? = some u → VR C c u) → xs = vs.map .v ∧ vs.map ck1 = ks.map some
  | [], [], ks, h, _, _ => by simp at h; subst h; exact ⟨rfl, rfl⟩
  | [], _ :: _, _, _, h, _ => by simp at h
  | _ :: _, [], _, _, h, _ => by simp at h
  | x :: xs, v :: vs, ks, h, hl, hv => by
    cases ks with
    | nil => simp at h
    | cons k ks =>
      simp only [List.map_cons, List.cons.injEq] at h
      obtain ⟨h1, h2⟩ := ckA_spec h.1 (hv 0 x v rfl rfl)
      obtain ⟨h3, h4⟩ := cks_spec xs vs ks h.2 (by simpa using hl) (fun i c u a b => hv (i + 1) c u (by simpa using a) (by simpa using b))
      subst h1; subst h3
      simp [h2, h4]

theorem ceqs_spec : ∀ (xs ys : List Value), xs.length = ys.length → ceqs (xs.map .v) (ys.map .v) = vseq xs ys
  | [], [], _ => rfl
  | [], _ :: _, h => by simp at h
  | _ :: _, [], h => by simp at h
  | x :: xs, y :: ys, h => by
    have e : ceq (.v x) (.v y) = veq x y := by cases x <;> cases y <;> rfl
    cases xs with
    | nil =>
      cases ys with
      | nil => simp [ceqs, vseq, e]
      | cons => simp at h
    | cons x2 xs =>
      cases ys with
      | nil => simp at h
      | cons y2 ys =>
        have := ceqs_spec (x2 :: xs) (y2 :: ys) (by simpa using h)
        simp only [List.map_cons] at this
        simp only [List.map_cons, ceqs, vseq, e]
        rw [this]; rfl

theorem run_eqA {C : Ctx} {t : TypeId} {ks : List CK} {xs ys : List AV} {v u : Value} [h : EQ P t ks] (hx : xs.map ckA = ks.map some) (hy : ys.map ckA = ks.map some) (hv : VR C (.agg xs) v) (hu : VR C (.agg ys) u) (w : World) :
    ∃ vs us, v = .agg vs ∧ u = .agg us ∧ ∀ D, 20 ≤ D → (Op.equalIn D t (.agg vs) (.agg us)).run P w = .ok (ceqs xs ys) w := by
  obtain ⟨vs, rfl, hl, hvv⟩ := hv.aggInv
  obtain ⟨us, rfl, hl', huu⟩ := hu.aggInv
  refine ⟨vs, us, rfl, rfl, fun D hD => ?_⟩
  obtain ⟨e1, e2⟩ := cks_spec xs vs.toList ks hx (by simpa using hl) (fun i c u a b => hvv i c u a (by rw [← Array.getElem?_toList]; exact b))
  obtain ⟨e3, e4⟩ := cks_spec ys us.toList ks hy (by simpa using hl') (fun i c u a b => huu i c u a (by rw [← Array.getElem?_toList]; exact b))
  obtain ⟨fs, hfs⟩ := h.st
  have := run_eq (P := P) w 20 t ks D vs.toList us.toList h.ck hD e2 e4
  simp only [hfs, asV, if_true] at this
  have hlen : vs.toList.length = us.toList.length := by
    have a := congrArg List.length e2
    have b := congrArg List.length e4
    simp only [List.length_map] at a b
    omega
  rw [e1, e3, ceqs_spec _ _ hlen]
  simpa using this

variable {T : List (Nat × AV)} {o : Oper}

/-- '==' of two structs. -/
theorem eff_eql {t t' : TypeId} {p q : Operand} {ks : List CK} {xs ys : List AV} [h : EQ P t ks] (ho : o.op = .binOp .eql t p q t') (hp : ev T p = some (.agg xs)) (hq : ev T q = some (.agg ys))
    (hx : xs.map ckA = ks.map some) (hy : ys.map ckA = ks.map some) : Eff P o T [] (.v (.bool (ceqs xs ys))) [] :=
  eff_val (by intro c; rw [ho]; nofun) fun C H a w hw hn hv => by
    obtain ⟨vs, us, h1, h2, h3⟩ := run_eqA (P := P) (t := t) hx hy (hv p (by rw [ho]; simp [Op.operands]) _ hp) (hv q (by rw [ho]; simp [Op.operands]) _ hq) w
    refine ⟨_, ?_, .v _⟩
    simp [execOp, ho, h1, h2, run_eqGuard_agg _ _ _ _ _ _ _ h.gd, run_eql_struct, h3 10000 (by omega), Result.andThen, Sem.run_bind]
theorem eff_neq {t t' : TypeId} {p q : Operand} {ks : List CK} {xs ys : List AV} [h : EQ P t ks] (ho : o.op = .binOp .neq t p q t') (hp : ev T p = some (.agg xs)) (hq : ev T q = some (.agg ys))
    (hx : xs.map ckA = ks.map some) (hy : ys.map ckA = ks.map some) : Eff P o T [] (.v (.bool (!(ceqs xs ys)))) [] :=
  eff_val (by intro c; rw [ho]; nofun) fun C H a w hw hn hv => by
    obtain ⟨vs, us, h1, h2, h3⟩ := run_eqA (P := P) (t := t) hx hy (hv p (by rw [ho]; simp [Op.operands]) _ hp) (hv q (by rw [ho]; simp [Op.operands]) _ hq) w
    refine ⟨_, ?_, .v _⟩
    simp [execOp, ho, h1, h2, run_eqGuard_agg _ _ _ _ _ _ _ h.gd, run_neq_struct, h3 10000 (by omega), Result.andThen, Sem.run_bind]

/-- '==' of two bools. -/
theorem eff_beq {b : BinOp} {t t' : TypeId} {p q : Operand} {x y z : Bool} [h : UD P t .bool] (ho : o.op = .binOp b t p q t') (hp : ev T p = some (.v (.bool x))) (hq : ev T q = some (.v (.bool y)))
    (hb : (match b with | .eql => some (x == y) | .neq => some (!(x == y)) | _ => none) = some z) : Eff P o T [] (.v (.bool z)) [] :=
  eff_val (by intro c; rw [ho]; nofun) fun C H a w hw hn hv => by
    have h2 := VR.val (hv p (by rw [ho]; simp [Op.operands]) _ hp)
    have h3 := VR.val (hv q (by rw [ho]; simp [Op.operands]) _ hq)
    refine ⟨.bool z, ?_, .v _⟩
    cases b <;> simp only [Option.some.injEq, reduceCtorEq] at hb <;> subst hb <;>
      simp [execOp, ho, h2, h3, eqGuard, binOp, Op.equal, Op.maxDepth, run_equalIn_bool' w _ t _ _ h.ud, Result.andThen, Sem.run_bind]

/-! ### Structs that are written out -/

/-- Where a struct's fields lie. -/
def _root_.Go.Program.places (P : Program) (t : TypeId) : Option (List (Nat × Nat)) :=
  match P.underlying t with
  | some (.struct fs) => fs.toList.mapM fun f => (P.info? f.type).map fun i => (f.offset, i.size)
  | _ => none
class PL (P : Program) (t : TypeId) (pl : outParam (List (Nat × Nat))) : Prop where
  pl : P.places t = some pl

def fillA (place : Nat → Option (Nat × Nat)) (cs : List AV) : List (Nat × AV) → Option (List AV)
  | [] => some cs
  | (i, x) :: r => match place i with
    | none => none
    | some (off, size) => bif Nat.beq (cellsA x).length size && Nat.ble (off + size) cs.length then fillA place (cs.take off ++ cellsA x ++ cs.drop (off + size)) r else none

theorem fill_spec {C : Ctx} (place : Nat → Option (Nat × Nat)) : ∀ (ps : List (Nat × AV)) (qs : List (Nat × Value)) (cs cs' : List AV) (vs : Array Value), fillA place cs ps = some cs' → ps.length = qs.length →
    (∀ (k : Nat) (p : Nat × AV) (q : Nat × Value), ps[k]? = some p → qs[k]? = some q → p.1 = q.1 ∧ VR C p.2 q.2) → cs.length = vs.size → (∀ (i : Nat) (c : AV) (u : Value), cs[i]? = some c → vs[i]? = some u → VR C c u) →
    ∃ vs', Instr.fill place vs qs = some vs' ∧ cs'.length = vs'.size ∧ ∀ (i : Nat) (c : AV) (u : Value), cs'[i]? = some c → vs'[i]? = some u → VR C c u
  | [], [], cs, cs', vs, h, _, _, hl, hv => by simp only [fillA, Option.some.injEq] at h; subst h; exact ⟨vs, rfl, hl, hv⟩
  | [], _ :: _, _, _, _, _, h, _, _, _ => by simp at h
  | _ :: _, [], _, _, _, _, h, _, _, _ => by simp at h
  | (i, x) :: ps, (j, v) :: qs, cs, cs', vs, h, hlen, hpq, hl, hv => by
    obtain ⟨e, hxv⟩ := hpq 0 _ _ rfl rfl
    simp only at e hxv
    subst e
    simp only [fillA] at h
    split at h
    · cases h
    · rename_i off size hpl
      cases hb : (Nat.beq (cellsA x).length size && Nat.ble (off + size) cs.length) with
      | false => rw [hb] at h; cases h
      | true =>
        rw [hb, cond_true] at h
        simp only [Bool.and_eq_true] at hb
        have h1 := Nat.eq_of_beq_eq_true hb.1
        have h2 := Nat.le_of_ble_eq_true hb.2
        obtain ⟨c1, c2⟩ := cellsA_spec hxv
        obtain ⟨f1, f2⟩ := fold_set_arr v off vs
        have hsz : v.cells.size = size := by rw [← c1, h1]
        have key : ∀ (k : Nat) (c : AV) (u : Value), (cs.take off ++ cellsA x ++ cs.drop (off + size))[k]? = some c → (v.cells.zipIdx.foldl (fun cs (x : Value × Nat) => cs.setIfInBounds (off + x.2) x.1) vs)[k]? = some u → VR C c u := by
          intro k c u hc hu
          rw [← h1, splice_get _ _ _ _ (by omega), h1] at hc
          rw [f2, hsz] at hu
          by_cases hk : off ≤ k ∧ k < off + size
          · rw [if_neg (by omega), if_pos (by omega)] at hc
            rw [if_pos (by omega)] at hu
            exact c2 _ c u hc hu
          · rw [if_neg (by omega)] at hu
            by_cases hk1 : k < off
            · rw [if_pos hk1] at hc; exact hv k c u hc hu
            · rw [if_neg hk1, if_neg (by omega)] at hc; exact hv k c u hc hu
        obtain ⟨vs', g1, g2⟩ := fill_spec (C := C) place ps qs _ cs' _ h (by simpa using hlen) (fun k p q a b => hpq (k + 1) p q (by simpa using a) (by simpa using b)) (by rw [f1]; simp; omega) key
        refine ⟨vs', ?_, g2⟩
        simp only [Instr.fill, hpl]
        rw [if_neg (by simp; omega)]
        exact g1

theorem run_places {t : TypeId} {pl : List (Nat × Nat)} (h : P.places t = some pl) (w : World) : ∃ fs, P.underlying t = some (.struct fs) ∧ (fs.mapM (m := Sem) fun f => do pure (f.offset, ← sizeOf f.type)).run P w = .ok pl.toArray w := by
  unfold Program.places at h
  split at h
  · rename_i fs hu
    refine ⟨fs, hu, ?_⟩
    rw [Array.mapM_eq_mapM_toList]
    have key : ∀ (l : List Field) (pl : List (Nat × Nat)), (l.mapM fun f => (P.info? f.type).map fun i => (f.offset, i.size)) = some pl → (l.mapM (m := Sem) fun f => do pure (f.offset, ← sizeOf f.type)).run P w = .ok pl w := by
      intro l
      induction l with
      | nil => intro pl h; simp at h; subst h; simp [Sem.run_pure]
      | cons f l ih =>
        intro pl h
        simp only [List.mapM_cons] at h
        cases hi : P.info? f.type with
        | none => rw [hi] at h; simp at h
        | some i =>
          rw [hi] at h
          cases hr : (l.mapM fun f => (P.info? f.type).map fun i => (f.offset, i.size)) with
          | none => rw [hr] at h; simp at h
          | some r =>
            rw [hr] at h
            simp at h
            subst h
            have e3 : (sizeOf f.type).run P w = .ok i.size w := by simp [sizeOf, typeInfo, hi]
            rw [List.mapM_cons]
            simp only [Sem.run_bind, e3, Result.andThen, Sem.run_pure, ih r hr]
    have := key fs.toList pl h
    rw [map_eq_pure_bind]
    simp only [Sem.run_bind, this, Result.andThen, Sem.run_pure]
  · cases h

theorem eff_build {t : TypeId} {pl : List (Nat × Nat)} {zs : List Value} {ps : Array (Nat × Operand)} {xs cs : List AV} [h : PL P t pl] [z : ZC P t zs] (ho : o.op = .build t ps) (hxs : evs T (ps.toList.map Prod.snd) = some xs)
    (hf : fillA (pl[·]?) (zs.map .v) ((ps.toList.map Prod.fst).zip xs) = some cs) : Eff P o T [] (.agg cs) [] :=
  eff_val (by intro c; rw [ho]; nofun) fun C H a w hw hn hv => by
    have hops : ∀ p, p ∈ ps.toList.map Prod.snd → p ∈ o.op.operands := by
      intro p hp; rw [ho]; simpa [Op.operands] using hp
    obtain ⟨hl, hvv⟩ := evs_spec (ρ := a.eval) _ _ hxs (fun p hp => hv p (hops p hp))
    obtain ⟨fs, hu, hpl⟩ := run_places h.pl w
    have hz := z.zc
    unfold Program.zc at hz
    split at hz
    · rename_i i hi
      cases hz2 : i.zero with
      | none => rw [hz2] at hz; cases hz
      | some zv =>
        rw [hz2] at hz
        simp only [Option.map_some, Option.some.injEq] at hz
        have hxl : xs.length = ps.toList.length := by simpa using hl
        obtain ⟨vs', g1, g2, g3⟩ := fill_spec (C := C) (pl[·]?) ((ps.toList.map Prod.fst).zip xs) (ps.toList.map fun x => (x.1, a.eval x.2)) (zs.map .v) cs zv.cells hf (by simp [hxl]) (by
          intro k p q hp hq
          rw [List.getElem?_zip_eq_some] at hp
          rw [List.getElem?_map] at hp hq
          cases hk : ps.toList[k]? with
          | none => rw [hk] at hq; cases hq
          | some x =>
            rw [hk] at hp hq
            simp only [Option.map_some, Option.some.injEq] at hp hq
            subst hq
            refine ⟨hp.1.symm, hvv k p.2 _ hp.2 ?_⟩
            simp [hk]) (by rw [← hz]; simp) (by
          intro i c u h1 h2
          rw [← hz, List.getElem?_map, Array.getElem?_toList, h2] at h1
          cases h1; exact .v u)
        refine ⟨.agg vs', ?_, .agg _ _ g2 g3⟩
        have e1 : (ps.map fun x => (x.1, a.eval x.2)).toList = ps.toList.map fun x => (x.1, a.eval x.2) := by simp
        have e2 : execOp a.eval o = (do pure (.value (← Instr.build t (ps.map fun x => (x.1, a.eval x.2))))) := by simp only [execOp, ho]
        have hpa : (fun x => pl.toArray[x]? : Nat → Option (Nat × Nat)) = (fun x => pl[x]?) := by funext x; simp
        rw [e2, Sem.run_bind]
        have hrun : (Instr.build t (ps.map fun x => (x.1, a.eval x.2))).run P w = .ok (.agg vs') w := by
          unfold Instr.build
          simp only [Sem.run_bind, zeroValue, typeInfo, program, Sem.run, hi, hz2, Sem.run_pure, Result.andThen, Go.run_underlying hu, hpl, e1, hpa, g1]
        rw [hrun]
        rfl
    · cases hz

end
end Go.Sx
