/- Layer 24 in plain words: which of two stands ahead; a comparison of texts that is not of the program's own. -/
import Derived.Test.YtaphgfiboidpbaaBaSxCells
import Derived.Test.YtaphgfiboidpbaaBaSxSets
import Derived.Test.YtaphgfiboidpbaaBaSxPool
import Derived.Test.YtaphgfiboidpbaaBaSxFind2
import Derived.Lib.Bytealg
import Derived.Laws.Externs
set_option linter.unusedVariables false
set_option linter.unusedSimpArgs false
namespace Go.Sx
open Go

/-! ### Ways to compare -/
def cmpT (a b : Str) : Int := if ltS a b then -1 else if ltS b a then 1 else 0
def cmpI (a b : Int) : Int := if a < b then -1 else if b < a then 1 else 0
def orI (a b : Int) : Int := if a = 0 then b else a
structure PreC {α : Type} (f : α → α → Int) : Prop where
  rg : ∀ x y, f x y = -1 ∨ f x y = 0 ∨ f x y = 1
  anti : ∀ x y, f x y = - f y x
  tr : ∀ x y z, f x y ≤ 0 → f y z ≤ 0 → f x z ≤ 0
namespace PreC
variable {α β : Type} {f g : α → α → Int}
theorem str1 (h : PreC f) {x y z : α} (h1 : f x y < 0) (h2 : f y z ≤ 0) : f x z < 0 := by
  have h3 := h.tr x y z (by omega) h2
  have h4 := h.anti x z
  have h5 := h.anti x y
  by_cases e : f x z = 0
  · have := h.tr y z x h2 (by omega); omega
  · omega
theorem str2 (h : PreC f) {x y z : α} (h1 : f x y ≤ 0) (h2 : f y z < 0) : f x z < 0 := by
  have h3 := h.tr x y z h1 (by omega)
  have h4 := h.anti x z
  have h5 := h.anti y z
  by_cases e : f x z = 0
  · have := h.tr z x y (by omega) h1; omega
  · omega
theorem or (h : PreC f) (k : PreC g) : PreC fun x y => orI (f x y) (g x y) where
  rg x y := by
    unfold orI
    split
    · exact k.rg x y
    · exact h.rg x y
  anti x y := by
    have h1 := h.anti x y
    have h2 := k.anti x y
    unfold orI
    by_cases e : f x y = 0
    · rw [if_pos e, if_pos (by omega)]; exact h2
    · rw [if_neg e, if_neg (by omega)]; exact h1
  tr x y z h1 h2 := by
    have key : ∀ x y, orI (f x y) (g x y) ≤ 0 ↔ f x y < 0 ∨ (f x y = 0 ∧ g x y ≤ 0) := fun x y => by
      unfold orI; split <;> omega
    rw [key] at h1 h2 ⊢
    rcases h1 with h1 | ⟨h1, h3⟩ <;> rcases h2 with h2 | ⟨h2, h4⟩
    · exact .inl (h.str1 h1 (by omega))
    · exact .inl (h.str1 h1 (by omega))
    · exact .inl (h.str2 (by omega) h2)
    · have h5 := h.tr x y z (by omega) (by omega)
      have h6 := h.anti x y; have h7 := h.anti y z; have h8 := h.anti x z
      have h9 := h.tr z y x (by omega) (by omega)
      exact .inr ⟨by omega, k.tr x y z h3 h4⟩
theorem on (h : PreC f) (p : β → α) : PreC fun x y => f (p x) (p y) := ⟨fun _ _ => h.rg _ _, fun _ _ => h.anti _ _, fun _ _ _ => h.tr _ _ _⟩
theorem self (h : PreC f) (x : α) : f x x = 0 := by have := h.anti x x; omega
end PreC
theorem cmpT_pre : PreC cmpT where
  rg x y := by unfold cmpT; split; exact .inl rfl; split; exact .inr (.inr rfl); exact .inr (.inl rfl)
  anti x y := by
    unfold cmpT
    cases h : ltS x y with
    | true => rw [ltS_ok.asy _ _ h]; rfl
    | false => cases h2 : ltS y x <;> rfl
  tr x y z h1 h2 := by
    have key : ∀ x y, cmpT x y ≤ 0 ↔ ltS y x = false := fun x y => by
      unfold cmpT
      cases h : ltS x y with
      | true => rw [ltS_ok.asy _ _ h]; simp
      | false => cases h2 : ltS y x <;> simp
    rw [key] at h1 h2 ⊢
    exact ltS_ok.tr x y z h1 h2
theorem cmpI_pre : PreC cmpI where
  rg x y := by unfold cmpI; split; exact .inl rfl; split; exact .inr (.inr rfl); exact .inr (.inl rfl)
  anti x y := by unfold cmpI; split <;> split <;> omega
  tr x y z := by unfold cmpI; repeat' split; all_goals omega
theorem cmpT_eq {x y : Str} (h : cmpT x y = 0) : x = y := by
  unfold cmpT at h
  cases h1 : ltS x y with
  | true => rw [h1] at h; cases h
  | false => cases h2 : ltS y x with
    | true => rw [h1, h2] at h; cases h
    | false => exact ltS_total h1 h2
theorem cmpI_eq {x y : Int} (h : cmpI x y = 0) : x = y := by unfold cmpI at h; split at h <;> (try split at h) <;> omega
theorem orI_eq {a b : Int} (h : orI a b = 0) : a = 0 ∧ b = 0 := by
  unfold orI at h
  split at h
  · exact ⟨by assumption, h⟩
  · exact ⟨h, absurd h (by assumption)⟩
def ltC {α : Type} (f : α → α → Int) (x y : α) : Bool := decide (f x y < 0)
theorem PreC.ltT {α : Type} {f : α → α → Int} (h : PreC f) (he : ∀ x y, f x y = 0 → x = y) : LtT (ltC f) where
  ok := {
    irr := fun x => by unfold ltC; rw [h.self]; rfl
    asy := fun x y hx => by unfold ltC at hx ⊢; have := h.anti x y; simp at hx ⊢; omega
    tr := fun x y z h1 h2 => by
      unfold ltC at h1 h2 ⊢
      simp at h1 h2 ⊢
      have h3 := h.anti x y; have h4 := h.anti y z; have h5 := h.anti x z
      have := h.tr x y z (by omega) (by omega)
      omega }
  tot x y h1 h2 := by
    unfold ltC at h1 h2
    simp at h1 h2
    have := h.anti x y
    exact he x y (by omega)

/-! ### Sites and places -/
structure Site where
  m : MRef
  pc : Int
  cls : Str
  deriving DecidableEq
structure Place where
  kind : Int
  m : MRef
  reg : Int
  field : FRef
  site : Site
  deriving DecidableEq
instance : Inhabited MRef := ⟨zMR⟩
instance : Inhabited FRef := ⟨⟨zS, zS⟩⟩
instance : Inhabited Site := ⟨⟨zMR, 0, zS⟩⟩
instance : Inhabited Place := ⟨⟨0, zMR, 0, ⟨zS, zS⟩, ⟨zMR, 0, zS⟩⟩⟩
def Site.cells (s : Site) : List AV := [sA s.m.cls, sA s.m.name, sA s.m.desc, iA s.pc, sA s.cls]
def Site.av (s : Site) : AV := .agg s.cells
def Place.cells (p : Place) : List AV := [iA p.kind, sA p.m.cls, sA p.m.name, sA p.m.desc, iA p.reg, sA p.field.cls, sA p.field.name, sA p.site.m.cls, sA p.site.m.name, sA p.site.m.desc, iA p.site.pc, sA p.site.cls]
def Place.av (p : Place) : AV := .agg p.cells
def sitesA (l : List Site) : AV := .lst (l.map Site.cells)
structure Site.ok (s : Site) : Prop where
  m : s.m.ok
  pc : i64 s.pc
  cls : small s.cls.size
structure FRef.ok (f : FRef) : Prop where
  cls : small f.cls.size
  name : small f.name.size
structure Place.ok (p : Place) : Prop where
  kind : i64 p.kind
  m : p.m.ok
  reg : i64 p.reg
  field : p.field.ok
  site : p.site.ok
def cmpR (a b : MRef) : Int := orI (cmpT a.cls b.cls) (orI (cmpT a.name b.name) (cmpT a.desc b.desc))
def cmpS (a b : Site) : Int := orI (cmpR a.m b.m) (orI (cmpI a.pc b.pc) (cmpT a.cls b.cls))
def cmpP (a b : Place) : Int := orI (cmpI a.kind b.kind) (orI (cmpR a.m b.m) (orI (cmpI a.reg b.reg) (orI (cmpT a.field.cls b.field.cls) (orI (cmpT a.field.name b.field.name) (cmpS a.site b.site)))))
theorem cmpR_pre : PreC cmpR := (cmpT_pre.on MRef.cls).or ((cmpT_pre.on MRef.name).or (cmpT_pre.on MRef.desc))
theorem cmpS_pre : PreC cmpS := (cmpR_pre.on Site.m).or ((cmpI_pre.on Site.pc).or (cmpT_pre.on Site.cls))
theorem cmpP_pre : PreC cmpP := (cmpI_pre.on Place.kind).or ((cmpR_pre.on Place.m).or ((cmpI_pre.on Place.reg).or ((cmpT_pre.on (·.field.cls)).or ((cmpT_pre.on (·.field.name)).or (cmpS_pre.on Place.site)))))
theorem cmpR_eq {a b : MRef} (h : cmpR a b = 0) : a = b := by
  obtain ⟨h1, h2⟩ := orI_eq h
  obtain ⟨h2, h3⟩ := orI_eq h2
  cases a; cases b
  simp only [MRef.mk.injEq]
  exact ⟨cmpT_eq h1, cmpT_eq h2, cmpT_eq h3⟩
theorem cmpS_eq {a b : Site} (h : cmpS a b = 0) : a = b := by
  obtain ⟨h1, h2⟩ := orI_eq h
  obtain ⟨h2, h3⟩ := orI_eq h2
  cases a; cases b
  simp only [Site.mk.injEq]
  exact ⟨cmpR_eq h1, cmpI_eq h2, cmpT_eq h3⟩
theorem cmpP_eq {a b : Place} (h : cmpP a b = 0) : a = b := by
  obtain ⟨h1, h⟩ := orI_eq h
  obtain ⟨h2, h⟩ := orI_eq h
  obtain ⟨h3, h⟩ := orI_eq h
  obtain ⟨h4, h⟩ := orI_eq h
  obtain ⟨h5, h6⟩ := orI_eq h
  have e1 := cmpI_eq h1
  have e2 := cmpR_eq h2
  have e3 := cmpI_eq h3
  have e4 := cmpT_eq h4
  have e5 := cmpT_eq h5
  have e6 := cmpS_eq h6
  clear h1 h2 h3 h4 h5 h6 h
  obtain ⟨k1, m1, r1, ⟨f1, g1⟩, s1⟩ := a
  obtain ⟨k2, m2, r2, ⟨f2, g2⟩, s2⟩ := b
  simp only at e1 e2 e3 e4 e5 e6
  rw [e1, e2, e3, e4, e5, e6]
abbrev sLt : Site → Site → Bool := ltC cmpS
theorem sLtT : LtT sLt := cmpS_pre.ltT fun _ _ => cmpS_eq
theorem cmpS_zero {a b : Site} : cmpS a b = 0 ↔ a = b := ⟨cmpS_eq, fun h => by subst h; exact cmpS_pre.self _⟩
theorem cmpP_zero {a b : Place} : cmpP a b = 0 ↔ a = b := ⟨cmpP_eq, fun h => by subst h; exact cmpP_pre.self _⟩
/-- The first that is not 0. -/
def orL : List Int → Int
  | [] => 0
  | x :: r => orI x (orL r)
theorem orL_drop {l : List Int} {i : Nat} (h : i < l.length) : orL (l.drop i) = orI (l.getD i default) (orL (l.drop (i + 1))) := by
  rw [drop_get h]; simp [orL, List.getD, h]
theorem orI_z (a : Int) : orI a 0 = a := by unfold orI; split <;> omega
theorem ceqs_site (a b : Site) : ceqs a.cells b.cells = (beqS a.m.cls b.m.cls && (beqS a.m.name b.m.name && (beqS a.m.desc b.m.desc && (a.pc == b.pc && beqS a.cls b.cls)))) := rfl
theorem ceqs_place (a b : Place) : ceqs a.cells b.cells = (a.kind == b.kind && (beqS a.m.cls b.m.cls && (beqS a.m.name b.m.name && (beqS a.m.desc b.m.desc && (a.reg == b.reg && (beqS a.field.cls b.field.cls && (beqS a.field.name b.field.name &&
    (beqS a.site.m.cls b.site.m.cls && (beqS a.site.m.name b.site.m.name && (beqS a.site.m.desc b.site.m.desc && (a.site.pc == b.site.pc && beqS a.site.cls b.site.cls))))))))))) := rfl
theorem eqSite (a b : Site) : ceqs a.cells b.cells = decide (a = b) := by
  rw [Bool.eq_iff_iff, ceqs_site]
  cases a; cases b
  rename_i m1 p1 c1 m2 p2 c2
  cases m1; cases m2
  simp only [Site.mk.injEq, MRef.mk.injEq, Bool.and_eq_true, beqS_iff, beq_iff_eq, decide_eq_true_eq, and_assoc]
theorem eqPlace (a b : Place) : ceqs a.cells b.cells = decide (a = b) := by
  rw [Bool.eq_iff_iff, ceqs_place]
  cases a; cases b
  rename_i k1 m1 r1 f1 s1 k2 m2 r2 f2 s2
  cases m1; cases m2; cases f1; cases f2; cases s1; cases s2
  rename_i n1 q1 d1 n2 q2 d2
  cases n1; cases n2
  simp only [Place.mk.injEq, FRef.mk.injEq, Site.mk.injEq, MRef.mk.injEq, Bool.and_eq_true, beqS_iff, beq_iff_eq, decide_eq_true_eq, and_assoc]

/-! ### A comparison of texts by the runtime -/
theorem cmpB_eq : ∀ a b : List UInt8, Lib.compareBytes a b = if Op.bytesLess a b then -1 else if Op.bytesLess b a then 1 else 0
  | [], [] => rfl
  | [], _ :: _ => rfl
  | _ :: _, [] => rfl
  | x :: a, y :: b => by
    have ih := cmpB_eq a b
    unfold Lib.compareBytes
    simp only [Op.bytesLess]
    by_cases h1 : x < y
    · simp [h1]
    · by_cases h2 : y < x
      · have h3 : ¬ x = y := fun e => by subst e; simp at h2
        simp [h1, h2, h3]
      · have e : x = y := UInt8.toNat_inj.1 (by simp [UInt8.lt_iff_toNat_lt] at h1 h2; omega)
        subst e
        simp [h1, ih]
theorem cmpT_bytes (a b : Str) : Lib.compareBytes a.data.toList b.data.toList = cmpT a b := by
  rw [cmpB_eq]
  unfold cmpT ltS
  rw [ByteArray.toList_eq, ByteArray.toList_eq]
section
variable {P : Program} {T : List (Nat × AV)} {o : Oper}
theorem eff_cmpS {f : Nat} {fn : Func} {p q : Operand} {ats : Array TypeId} {x y : Str} (ho : o.op = .call { callee := .value (.func f), args := #[p, q], argTypes := ats }) (hf : P.funcs[f]? = some fn) (hname : (fn.name == "runtime.NumGoroutine") = false)
    (hb : fn.body.isNone = true) (hn : Extern.findNext fn = none) (he : Extern.find fn = some Extern.BytealgCompare.compare) (hp : ev T p = some (sA x)) (hq : ev T q = some (sA y)) : Eff P o T [] (iA (cmpT x y)) [] :=
  eff_val (by intro c; rw [ho]; nofun) fun C H a w hw hH hv => by
    have h1 := VR.val (hv p (by rw [ho]; simp [Op.operands, Call.operands]) _ hp)
    have h2 := VR.val (hv q (by rw [ho]; simp [Op.operands, Call.operands]) _ hq)
    refine ⟨.int .i64 (cmpT x y), ?_, .v _⟩
    have key := run_callFunc_extern hf hname hb hn he #[.string x, .string y] w
    rw [Lib.run_compareString, cmpT_bytes] at key
    simp only [execOp, ho, Sem.run_bind, resolve, Deferred.ofValue, Sem.run_pure, Result.andThen, invoke, Act.eval]
    simpa [h1, h2, Result.andThen] using key
theorem eff_neg {t : TypeId} {p : Operand} {x : Int} (ho : o.op = .unOp .neg t p) (hp : ev T p = some (iA x)) (hx : IntKind.i64.wrap (0 - x) = -x) : Eff P o T [] (iA (-x)) [] :=
  eff_val (by intro c; rw [ho]; nofun) fun C H a w hw hn hv => by
    have h2 := VR.val (hv p (by rw [ho]; simp [Op.operands]) _ hp)
    exact ⟨.int .i64 (-x), by simp [execOp, ho, h2, Op.unary, Op.intArith, Sem.run_bind, Result.andThen, (by simpa using hx : IntKind.i64.wrap (-x) = -x)], .v _⟩
end
theorem neg_wrap {α : Type} {f : α → α → Int} (h : PreC f) (x y : α) : IntKind.i64.wrap (0 - f x y) = - f x y := by
  rcases h.rg x y with h | h | h <;> rw [h] <;> rfl

/-! ### Out of readings -/
section
variable {P : Program} {t s i tr tf ts : TypeId}
theorem dec_FRef (h : fts P t = some [s, s]) (hs : P.underlying s = some .string) : Dec P t FRef.cells FRef.ok := by
  intro xs hx
  obtain ⟨x0, ys, rfl, g0, h1⟩ := tv_cons (dec_str hs) (tv_struct h hx)
  obtain ⟨x1, ys, rfl, g1, h1⟩ := tv_cons (dec_str hs) h1
  rw [tv_nil h1]
  exact ⟨⟨x0, x1⟩, rfl, ⟨g0, g1⟩⟩
theorem dec_Site (h : fts P t = some [tr, i, s]) (hr : Dec P tr MRef.cells MRef.ok) (hi : P.underlying i = some (.int .i64)) (hs : P.underlying s = some .string) : Dec P t Site.cells Site.ok := by
  intro xs hx
  obtain ⟨x0, ys, rfl, g0, h1⟩ := tv_cons hr (tv_struct h hx)
  obtain ⟨x1, ys, rfl, g1, h1⟩ := tv_cons (dec_int hi) h1
  obtain ⟨x2, ys, rfl, g2, h1⟩ := tv_cons (dec_str hs) h1
  rw [tv_nil h1]
  exact ⟨⟨x0, x1, x2⟩, rfl, ⟨g0, g1, g2⟩⟩
theorem dec_Place {k : TypeId} (h : fts P t = some [k, tr, i, tf, ts]) (hk : P.underlying k = some (.int .i64)) (hr : Dec P tr MRef.cells MRef.ok) (hi : P.underlying i = some (.int .i64)) (hf : Dec P tf FRef.cells FRef.ok) (hs : Dec P ts Site.cells Site.ok) : Dec P t Place.cells Place.ok := by
  intro xs hx
  obtain ⟨x0, ys, rfl, g0, h1⟩ := tv_cons (dec_int hk) (tv_struct h hx)
  obtain ⟨x1, ys, rfl, g1, h1⟩ := tv_cons hr h1
  obtain ⟨x2, ys, rfl, g2, h1⟩ := tv_cons (dec_int hi) h1
  obtain ⟨x3, ys, rfl, g3, h1⟩ := tv_cons hf h1
  obtain ⟨x4, ys, rfl, g4, h1⟩ := tv_cons hs h1
  rw [tv_nil h1]
  exact ⟨⟨x0, x1, x2, x3, x4⟩, rfl, ⟨g0, g1, g2, g3, g4⟩⟩
end
end Go.Sx
