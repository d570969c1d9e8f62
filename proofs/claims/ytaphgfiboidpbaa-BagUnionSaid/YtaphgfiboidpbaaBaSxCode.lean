/- The rules of code over abstract states, on the base of the fenced weakest precondition at the widest fence. -/
import Derived.Test.YtaphgfiboidpbaaBaSxCore
import Derived.OrdersIn
namespace Go.Sx
open Go

structure St where
  T : List (Nat × AV)
  H : AHeap
  D : List Nat
  n : Nat

def put (T : List (Nat × AV)) : Option Nat → AV → List (Nat × AV)
  | none, _ => T
  | some d, x => (d, x) :: T

def mark (C : Ctx) (i : Nat) : Deferred := { target := .collected (((C.m i).map Prod.fst).getD 0), args := #[] }

structure SR (C : Ctx) (s : St) (a : Act) (w : World) : Prop where
  wr : WR C s.H w
  sl : ∀ t x, lk s.T t = some x → ∃ v, a.tmps[t]? = some v ∧ VR C x v
  df : a.defers = s.D.map (mark C)
  du : ∀ i, i ∈ s.D → i ∈ C.U
  sz : a.tmps.size = s.n

abbrev Wd (ro : Option Nat) : Fence := { Fence.wide with round := ro }

def Sat (Z : List Nat) (C0 : Ctx) (H0 : AHeap) (w0 : World) (K : St → Prop) (a : Act) (w : World) : Prop :=
  ∃ C s, K s ∧ SR C s a w ∧ Ext Z C0 H0 w0 C s.H w

def Post (Z : List Nat) (C0 : Ctx) (H0 : AHeap) (w0 : World) (Q : Exit → St → Prop) (e : Exit) (a : Act) (w : World) : Prop :=
  e ≠ .outgrown ∧ Sat Z C0 H0 w0 (Q e) a w

def AWp (P : Program) (ro : Option Nat) (c : Code) (Q : Exit → St → Prop) (s : St) : Prop :=
  ∀ Z C0 H0 w0 C a w, Ext Z C0 H0 w0 C s.H w → SR C s a w → c.wpIn (Wd ro) 0 P (Post Z C0 H0 w0 Q) a w

section
variable {P : Program} {ro : Option Nat} {Q : Exit → St → Prop} {s : St}

theorem Sat.mono {Z : List Nat} {C0 : Ctx} {H0 : AHeap} {w0 : World} {K K' : St → Prop} {a : Act} {w : World} (h : ∀ s, K s → K' s) : Sat Z C0 H0 w0 K a w → Sat Z C0 H0 w0 K' a w :=
  fun ⟨C, s, hk, r⟩ => ⟨C, s, h s hk, r⟩

theorem awp_mono {c : Code} {Q' : Exit → St → Prop} (h : AWp P ro c Q s) (hq : ∀ e s, Q e s → Q' e s) : AWp P ro c Q' s :=
  fun Z C0 H0 w0 C a w he hs => wpIn_mono (h Z C0 H0 w0 C a w he hs) (fun _ _ _ ⟨h1, h2⟩ => ⟨h1, h2.mono (hq _)⟩)

theorem awp_skip (h : Q .normal s) : AWp P ro .skip Q s := fun _ _ _ _ C _ _ he hs => wpIn_skip ⟨nofun, C, s, h, hs, he⟩
theorem awp_label {l : Nat} (h : Q .normal s) : AWp P ro (.label l) Q s := fun _ _ _ _ C _ _ he hs => wpIn_label ⟨nofun, C, s, h, hs, he⟩
theorem awp_exit {i : Nat} (h : Q (.exit i) s) : AWp P ro (.exit i) Q s := fun _ _ _ _ C _ _ he hs => wpIn_exit ⟨nofun, C, s, h, hs, he⟩
theorem awp_ret (h : Q .ret s) : AWp P ro .ret Q s := fun _ _ _ _ C _ _ he hs => wpIn_ret ⟨nofun, C, s, h, hs, he⟩

/-- What is asked behind the first of two pieces of code. -/
def thenQ (K : St → Prop) (Q : Exit → St → Prop) : Exit → St → Prop
  | .normal, s => K s
  | .exit i, s => Q (.exit i) s
  | .goto i, s => Q (.goto i) s
  | .ret, s => Q .ret s
  | .panic c, s => Q (.panic c) s
  | .outgrown, s => Q .outgrown s

theorem awp_seq {x y : Code} (h : AWp P ro x (thenQ (AWp P ro y Q) Q) s) : AWp P ro (.seq x y) Q s :=
  fun Z C0 H0 w0 C a w he hs => wpIn_seq (wpIn_mono (h Z C0 H0 w0 C a w he hs) (by
    rintro e a' w' ⟨h1, C', s', hq, hs', he'⟩
    cases e with
    | normal => exact hq Z C0 H0 w0 C' a' w' he' hs'
    | outgrown => exact absurd rfl h1
    | _ => exact ⟨h1, C', s', hq, hs', he'⟩))

def ev (T : List (Nat × AV)) : Operand → Option AV
  | .tmp t => lk T t
  | .const c => some (.v c)
  | .func f => some (.fn (.func f) [])
  | .global _ => none

theorem SR.ev {C : Ctx} {a : Act} {w : World} (hs : SR C s a w) {p : Operand} {x : AV} (h : Sx.ev s.T p = some x) : VR C x (a.eval p) := by
  cases p with
  | tmp t =>
    obtain ⟨v, h1, h2⟩ := hs.sl t x h
    have e : a.eval (.tmp t) = v := by simp [Act.eval, h1]
    rw [e]; exact h2
  | const c => cases h; exact .v c
  | func f => cases h; exact .fn _ [] #[] rfl (by intro i c x h; simp at h)
  | global g => cases h

theorem VR.val {C : Ctx} {x v : Value} (h : VR C (.v x) v) : v = x := by cases h; rfl

theorem awp_cond {c : Operand} {x y : Code} {t : Bool} (hc : ev s.T c = some (.v (.bool t))) (ht : t = true → AWp P ro x Q s) (hf : t = false → AWp P ro y Q s) :
    AWp P ro (.cond c x y) Q s :=
  fun Z C0 H0 w0 C a w he hs => wpIn_cond_split (t := t) (VR.val (hs.ev hc)) (fun h => ht h Z C0 H0 w0 C a w he hs) (fun h => hf h Z C0 H0 w0 C a w he hs)

/-- What is asked within a block. -/
def blockQ (id : Nat) (Q : Exit → St → Prop) : Exit → St → Prop
  | .normal, s => Q .normal s
  | .exit i, s => if i = id then Q .normal s else Q (.exit i) s
  | .goto i, s => Q (.goto i) s
  | .ret, s => Q .ret s
  | .panic c, s => Q (.panic c) s
  | .outgrown, s => Q .outgrown s

theorem awp_block {id : Nat} {c : Code} (h : AWp P ro c (blockQ id Q) s) : AWp P ro (.block id c) Q s :=
  fun Z C0 H0 w0 C a w he hs => wpIn_block (wpIn_mono (h Z C0 H0 w0 C a w he hs) (by
    rintro e a' w' ⟨h1, C', s', hq, hs', he'⟩
    cases e with
    | exit i =>
      by_cases hi : i = id
      · simp only [blockQ, hi, if_true] at hq
        simp only [Exit.inBlock, hi, if_true]
        exact ⟨nofun, C', s', hq, hs', he'⟩
      · simp only [blockQ, hi, if_false] at hq
        simp only [Exit.inBlock, hi, if_false]
        exact ⟨nofun, C', s', hq, hs', he'⟩
    | _ => exact ⟨h1, C', s', hq, hs', he'⟩))

/-- A state may be seen as another one: less is known of it, or what was owned is given up for good. -/
def Weak (s s' : St) : Prop := ∀ Z C a w, SR C s a w → ∃ C', SR C' s' a w ∧ Ext Z C s.H w C' s'.H w

theorem Weak.refl (s : St) : Weak s s := fun _ C _ _ h => ⟨C, h, .refl ..⟩
theorem Weak.trans {s s' s'' : St} (h : Weak s s') (k : Weak s' s'') : Weak s s'' := fun Z C a w hs => by
  obtain ⟨C', h1, h2⟩ := h Z C a w hs
  obtain ⟨C'', h3, h4⟩ := k Z C' a w h1
  exact ⟨C'', h3, h2.trans h4⟩

theorem awp_weak {c : Code} {s' : St} (hw : Weak s s') (h : AWp P ro c Q s') : AWp P ro c Q s :=
  fun Z C0 H0 w0 C a w he hs => let ⟨C', h1, h2⟩ := hw Z C a w hs; h Z C0 H0 w0 C' a w (he.trans h2) h1

theorem least_of {p : Nat → Prop} (h : ∃ n, p n) : ∃ n, p n ∧ ∀ m, p m → n ≤ m := by
  obtain ⟨n, hn⟩ := h
  induction n using Nat.strongRecOn with
  | _ n ih =>
    by_cases hx : ∃ m, m < n ∧ p m
    · obtain ⟨m, h1, h2⟩ := hx
      exact ih m h1 h2
    · refine ⟨n, hn, fun m hm => ?_⟩
      rcases Nat.lt_or_ge m n with h1 | h1
      · exact (hx ⟨m, h1, hm⟩).elim
      · exact h1

/-- A loop: a family of states at its head, a measure. -/
theorem awp_loop {c : Code} {α : Type} (inv : α → St) (μ : α → Nat) (x0 : α) (h0 : Weak s (inv x0))
    (round : ∀ x, AWp P ro c (thenQ (fun s' => ∃ y, μ y < μ x ∧ Weak s' (inv y)) Q) (inv x)) : AWp P ro (.loop c) Q s := by
  refine awp_weak h0 ?_
  intro Z C0 H0 w0 C a w he hs
  refine wpIn_mono (Q := Post Z C0 H0 w0 Q) ?_ (fun _ _ _ h => h)
  -- the machine's own law asks a measure on states: the least one that a name of the state has
  let I : Act → World → Nat → Prop := fun a w n => ∃ x C, μ x ≤ n ∧ SR C (inv x) a w ∧ Ext Z C0 H0 w0 C (inv x).H w
  have hI : ∃ n, I a w n := ⟨μ x0, x0, C, Nat.le_refl _, hs, he⟩
  classical
  refine wpIn_loop (fun a w => ∃ n, I a w n) (fun a w => if h : ∃ n, I a w n then Classical.choose (least_of h) else 0) hI ?_
  intro a w hx
  obtain ⟨x, C, hle, hs, he⟩ := (Classical.choose_spec (least_of hx)).1
  refine wpIn_mono (round x Z C0 H0 w0 C a w he hs) ?_
  rintro e a' w' ⟨h1, C', s', hq, hs', he'⟩
  cases e with
  | normal =>
    obtain ⟨y, hy, hwk⟩ := hq
    obtain ⟨C'', h2, h3⟩ := hwk Z C' a' w' hs'
    have hi : I a' w' (μ y) := ⟨y, C'', Nat.le_refl _, h2, he'.trans h3⟩
    refine ⟨⟨_, hi⟩, ?_⟩
    rw [dif_pos ⟨_, hi⟩, dif_pos hx]
    exact Nat.lt_of_le_of_lt ((Classical.choose_spec (least_of ⟨_, hi⟩)).2 _ hi) (Nat.lt_of_lt_of_le hy hle)
  | outgrown => exact absurd rfl h1
  | _ => exact ⟨h1, C', s', hq, hs', he'⟩

/-! ### Regions -/

/-- The operations of a region one behind the other. -/
def AOps (P : Program) (ro : Option Nat) (ops : Array Oper) (l : List Oper) (Q : Exit → St → Prop) (s : St) : Prop :=
  ∀ k, ops.toList.drop k = l → ∀ Z C0 H0 w0 C a w, Ext Z C0 H0 w0 C s.H w → SR C s a w → wpOpsIn (Wd ro) 0 P ops (Post Z C0 H0 w0 Q) (List.range' k l.length) a w

theorem awp_region {id : Nat} {l : List Oper} (h : AOps P ro l.toArray l Q s) : AWp P ro (.region id l.toArray false) Q s :=
  fun Z C0 H0 w0 C a w he hs => wpIn_region (by
    have := h 0 (by simp) Z C0 H0 w0 C a w he hs
    rw [List.range_eq_range']
    simpa using this)

theorem aops_nil {ops : Array Oper} (h : Q .normal s) : AOps P ro ops [] Q s := fun _ _ _ _ _ _ C _ _ he hs => by
  simp only [List.length_nil, List.range'_zero, wpOpsIn]
  exact ⟨nofun, C, s, h, hs, he⟩

/-- One operation that is carried out, in whatever region: K: what holds behind it; KP: behind a panic. -/
def Step (P : Program) (ro : Option Nat) (o : Oper) (K : St → Prop) (KP : List PanicEntry → St → Prop) (s : St) : Prop :=
  ∀ Z C0 H0 w0 C a w, Ext Z C0 H0 w0 C s.H w → SR C s a w →
    o.uponIn (Wd ro) 0 P a (Sat Z C0 H0 w0 K) (fun e a' w' => match e with | .panic ch => Sat Z C0 H0 w0 (KP ch) a' w' | _ => False) ((o.semAt ro a.eval).run P w)

def Wanted (ops : Array Oper) (T : List (Nat × AV)) (o : Oper) (b : Bool) : Prop :=
  (o.guard = none ∧ b = true) ∨ ∃ g c d og t, o.guard = some (g, c) ∧ ops[g]? = some og ∧ og.dst = some t ∧ ((lk T t = some (.v (.bool d)) ∧ (d == c) = b) ∨ (lk T t = some (.v undef) ∧ b = false))

theorem SR.wanted {C : Ctx} {a : Act} {w : World} (hs : SR C s a w) {ops : Array Oper} {o : Oper} {b : Bool} (h : Wanted ops s.T o b) : Region.wanted o (yielded ops a.tmps) = b := by
  rcases h with ⟨h, rfl⟩ | ⟨g, c, d, og, t, h1, h2, h3, ⟨h4, h5⟩ | ⟨h4, rfl⟩⟩
  · simp [Region.wanted, h]
  · obtain ⟨v, h6, h7⟩ := hs.sl t _ h4
    have := VR.val h7
    subst this
    have hy : yielded ops a.tmps g = some d := by
      have hb : (ops[g]?.bind fun x => x.dst) = some t := by rw [h2]; exact h3
      have hb2 : ((ops[g]?.bind fun x => x.dst).bind fun x => a.tmps[x]?) = some (.bool d) := by rw [hb]; exact h6
      unfold yielded
      rw [hb2]
    rw [← h5]
    cases d <;> cases c <;> simp [Region.wanted, h1, hy]
  · obtain ⟨v, h6, h7⟩ := hs.sl t _ h4
    have := VR.val h7
    subst this
    have hy : yielded ops a.tmps g = none := by
      have hb : (ops[g]?.bind fun x => x.dst) = some t := by rw [h2]; exact h3
      have hb2 : ((ops[g]?.bind fun x => x.dst).bind fun x => a.tmps[x]?) = some undef := by rw [hb]; exact h6
      unfold yielded
      rw [hb2]
      rfl
    simp [Region.wanted, h1, hy]

theorem uponIn_mono {F : Fence} {n : Nat} {o : Oper} {a : Act} {K K' : Act → World → Prop} {R R' : Exit → Act → World → Prop} {r : Result Next}
    (h : ∀ a w, K a w → K' a w) (hr : ∀ c w, R (.panic c) a w → R' (.panic c) a w) (ho : LetsOut R → LetsOut R') (hh : o.uponIn F n P a K R r) : o.uponIn F n P a K' R' r := by
  cases r with
  | ok x w' =>
    cases x <;> simp only [Oper.uponIn] at hh ⊢ <;>
      first
        | exact h _ _ hh
        | exact ⟨hh.1, CallsIn.mono hh.2 (fun e w'' he => by cases e <;> first | exact h _ _ he | exact hr _ _ he | exact ho he)⟩
        | exact ⟨hh.1, RowsIn.mono hh.2 (fun _ _ he => h _ _ he)⟩
        | exact ⟨hh.1, RoundIn.mono hh.2 (fun e w'' he => by cases e <;> first | exact h _ _ he | exact hr _ _ he | exact ho he)⟩
  | halt x w' => cases x <;> simp only [Oper.uponIn] at hh ⊢ <;> first | exact hr _ _ hh | exact hh

theorem drop_cons_get {l : List Oper} {k : Nat} {o : Oper} {r : List Oper} (h : l.drop k = o :: r) : l[k]? = some o ∧ l.drop (k + 1) = r := by
  have h1 : (l.drop k)[0]? = some o := by rw [h]; rfl
  refine ⟨by simpa using h1, ?_⟩
  have : (l.drop k).drop 1 = r := by rw [h]; rfl
  rwa [List.drop_drop] at this

theorem aops_step {ops : Array Oper} {o : Oper} {rest : List Oper} (hw : Wanted ops s.T o true)
    (h : Step P ro o (AOps P ro ops rest Q) (fun ch => Q (.panic ch)) s) : AOps P ro ops (o :: rest) Q s := by
  intro k hk Z C0 H0 w0 C a w he hs
  obtain ⟨h1, h2⟩ := drop_cons_get hk
  have ho : ops[k]? = some o := by rw [← Array.getElem?_toList]; exact h1
  rw [List.length_cons, List.range'_succ, wpOpsIn_cons]
  unfold wpOpIn
  simp only [ho, hs.wanted hw, if_true]
  refine ⟨fun _ _ => trivial, ?_⟩
  refine uponIn_mono ?_ ?_ ?_ (h Z C0 H0 w0 C a w he hs)
  · rintro a' w' ⟨C', s', hk', hs', he'⟩
    exact hk' (k + 1) h2 Z C0 H0 w0 C' a' w' he' hs'
  · intro c w' hx
    exact ⟨nofun, hx⟩
  · rintro ⟨a', w', hx⟩
    exact hx.elim

theorem SR.put {C C' : Ctx} {a : Act} {w w' : World} {H' : AHeap} (hs : SR C s a w) (hle : C.Le C') (hw : WR C' H' w') {d : Option Nat} (hd : ∀ t, d = some t → t < s.n) {x : AV} {v : Value} (hx : VR C' x v) :
    SR C' { s with T := Sx.put s.T d x, H := H' } (a.put d v) w' := by
  refine ⟨hw, ?_, ?_, fun i hi => hle.U i (hs.du i hi), ?_⟩
  · intro t y hy
    cases d with
    | none =>
      obtain ⟨u, h1, h2⟩ := hs.sl t y hy
      exact ⟨u, h1, h2.mono hle⟩
    | some d =>
      simp only [Sx.put, lk] at hy
      cases hb : Nat.beq d t with
      | true =>
        have e := Nat.eq_of_beq_eq_true hb
        subst e
        simp only [hb, cond_true, Option.some.injEq] at hy
        subst hy
        refine ⟨v, ?_, hx⟩
        have := hd d rfl
        rw [← hs.sz] at this
        simp [Act.put, this]
      | false =>
        simp only [hb, cond_false] at hy
        have hne : d ≠ t := fun e => by subst e; simp at hb
        obtain ⟨u, h1, h2⟩ := hs.sl t y hy
        exact ⟨u, by simpa [Act.put, Array.getElem?_setIfInBounds_ne hne] using h1, h2.mono hle⟩
  · have e1 : (a.put d v).defers = a.defers := by cases d <;> rfl
    rw [e1, hs.df]
    exact List.map_congr_left fun i hi => by simp [mark, hle.m i (hs.du i hi)]
  · have e1 : (a.put d v).tmps.size = a.tmps.size := by cases d <;> simp [Act.put]
    rw [e1]; exact hs.sz

/-- A slot that there is. -/
def dok : Option Nat → Nat → Bool
  | none, _ => true
  | some t, n => Nat.blt t n

theorem dok_spec {d : Option Nat} {n : Nat} (h : dok d n = true) : ∀ t, d = some t → t < n := by
  rintro t rfl
  exact Nat.blt_eq ▸ h

theorem aops_off {ops : Array Oper} {o : Oper} {rest : List Oper} (hw : Wanted ops s.T o false) (hd : dok o.dst s.n = true)
    (h : AOps P ro ops rest Q { s with T := Sx.put s.T o.dst (.v undef) }) : AOps P ro ops (o :: rest) Q s := by
  intro k hk Z C0 H0 w0 C a w he hs
  obtain ⟨h1, h2⟩ := drop_cons_get hk
  have ho : ops[k]? = some o := by rw [← Array.getElem?_toList]; exact h1
  rw [List.length_cons, List.range'_succ, wpOpsIn_cons]
  unfold wpOpIn
  simp only [ho, hs.wanted hw, Bool.false_eq_true, if_false]
  exact ⟨fun _ _ => trivial, h (k + 1) h2 Z C0 H0 w0 C _ w he (hs.put (.refl C) hs.wr (dok_spec hd) (.v undef))⟩

/-! ### Operations that only give a value and, maybe, new things that are owned -/

/-- In whatever state that has these operands and these things, the operation gives x and lays objs beside. -/
def Eff (P : Program) (o : Oper) (T : List (Nat × AV)) (Hn : AHeap) (x : AV) (objs : AHeap) : Prop :=
  ∀ Z C H a w, WR C H w → (∀ p, p ∈ Hn → p ∈ H) → (∀ p, p ∈ o.op.operands → ∀ y, ev T p = some y → VR C y (a.eval p)) →
    (∀ p, p ∈ objs → p.1 ∉ C.U) → (objs.map Prod.fst).Nodup → (∀ z, z ∈ Z → z ∉ objs.map Prod.fst) →
    ∀ ro next R, (∀ v w1 C1, VR C1 x v → WR C1 (objs ++ H) w1 → Ext Z C H w C1 (objs ++ H) w1 → next (a.put o.dst v) w1) →
      o.uponIn (Wd ro) 0 P a next R ((o.semAt ro a.eval).run P w)

theorem aops_eff {ops : Array Oper} {o : Oper} {rest : List Oper} (Hn : AHeap) (x : AV) (hw : Wanted ops s.T o true) (hd : dok o.dst s.n = true)
    (he : Eff P o s.T Hn x []) (hn : ∀ p, p ∈ Hn → p ∈ s.H) (h : AOps P ro ops rest Q { s with T := Sx.put s.T o.dst x }) : AOps P ro ops (o :: rest) Q s := by
  refine aops_step hw ?_
  intro Z C0 H0 w0 C a w hx hs
  refine he Z C s.H a w hs.wr hn (fun p _ y hy => hs.ev hy) nofun List.nodup_nil (fun _ _ => by simp) ro _ _ ?_
  intro v w1 C1 hv hw1 he1
  exact ⟨C1, _, h, hs.put he1.le hw1 (dok_spec hd) hv, hx.trans he1⟩

/-- A name that none of these is. -/
theorem fresh (L : List Nat) : ∃ i, i ∉ L := by
  refine ⟨L.foldr max 0 + 1, fun h => ?_⟩
  have : ∀ l : List Nat, ∀ i, i ∈ l → i ≤ l.foldr max 0 := by
    intro l
    induction l with
    | nil => intro i h; cases h
    | cons x l ih =>
      intro i h
      rcases List.mem_cons.1 h with rfl | h
      · exact Nat.le_max_left ..
      · exact Nat.le_trans (ih i h) (Nat.le_max_right ..)
  have := this L _ h
  omega

theorem aops_eff1 {ops : Array Oper} {o : Oper} {rest : List Oper} (Hn : AHeap) (x : Nat → AV) (ob : Nat → AObj) (hw : Wanted ops s.T o true) (hd : dok o.dst s.n = true)
    (he : ∀ id, Eff P o s.T Hn (x id) [(id, ob id)]) (hn : ∀ p, p ∈ Hn → p ∈ s.H)
    (h : ∀ id, AOps P ro ops rest Q { s with T := Sx.put s.T o.dst (x id), H := (id, ob id) :: s.H }) : AOps P ro ops (o :: rest) Q s := by
  refine aops_step hw ?_
  intro Z C0 H0 w0 C a w hx hs
  obtain ⟨id, hid⟩ := fresh (C.U ++ Z)
  rw [List.mem_append, not_or] at hid
  refine he id Z C s.H a w hs.wr hn (fun p _ y hy => hs.ev hy) (by intro p hp; simp at hp; subst hp; exact hid.1) (by simp) (fun z hz => by simp; rintro rfl; exact hid.2 hz) ro _ _ ?_
  intro v w1 C1 hv hw1 he1
  exact ⟨C1, _, h id, hs.put he1.le hw1 (dok_spec hd) hv, hx.trans he1⟩

end
end Go.Sx
