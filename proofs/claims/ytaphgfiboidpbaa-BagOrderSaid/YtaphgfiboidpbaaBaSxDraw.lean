/- A region whose order is drawn: where its operations only give values or lay new things, the text's order tells all. -/
import Derived.Test.YtaphgfiboidpbaaBaSxMem
set_option linter.unusedSimpArgs false
set_option linter.unusedVariables false
namespace Go.Sx
open Go

/-- Does operation i wait for operation j, be it over others? -/
def anc (ops : Array Oper) : Nat → Nat → Nat → Bool
  | 0, _, _ => false
  | f + 1, i, j => match ops[i]? with
    | some o => o.after.any fun e => Region.binds .any e && (e.on == j || anc ops f e.on j)
    | none => false

def okEdges (ops : Array Oper) : Bool := (List.range ops.size).all fun i => match ops[i]? with
  | some o => o.after.all fun e => !Region.binds .any e || Nat.blt e.on i
  | none => true
def okDst (ops : Array Oper) (np : Nat) : Bool := (List.range np).all fun i => (List.range i).all fun j => match (ops[i]?).bind (·.dst), (ops[j]?).bind (·.dst) with
  | some a, some b => !(Nat.beq a b)
  | _, _ => true
def okLooks (ops : Array Oper) (np : Nat) : Bool := (List.range np).all fun i => match ops[i]? with
  | some o => (o.looksAt ops).all fun t => (List.range np).all fun j => !((ops[j]?).bind (·.dst) == some t) || (Nat.blt j i && anc ops i i j)
  | none => false
def okTail (ops : Array Oper) (np : Nat) : Bool := (List.range (ops.size - np)).all fun d => (List.range (np + d)).all fun i => anc ops (np + d) (np + d) i
/-- What the sight of a region tells: its first np operations may come in whatever order, the others come behind them in the text's. -/
def tidy (ops : Array Oper) (np : Nat) : Bool := Nat.ble np ops.size && okEdges ops && okDst ops np && okLooks ops np && okTail ops np

/-- A walk in the text's order over operations that only give values or lay new things. k: the number of the next one; M: what has been laid, by which. -/
inductive Calm (P : Program) (ops : Array Oper) (H0 : AHeap) (K : St → Prop) : Nat → List Oper → List (Nat × (Nat × AObj)) → St → Prop
  | done {k : Nat} {M : List (Nat × (Nat × AObj))} {s : St} (h : K s) : Calm P ops H0 K k [] M s
  | eff {k : Nat} {o : Oper} {r : List Oper} {M : List (Nat × (Nat × AObj))} {s : St} (Hn : AHeap) (x : AV) (hw : Wanted ops s.T o true) (hd : dok o.dst s.n = true) (he : Eff P o s.T Hn x [])
      (hn : ∀ p, p ∈ Hn → p ∈ H0 ∨ ∃ j, (j, p) ∈ M ∧ anc ops k k j = true) (h : Calm P ops H0 K (k + 1) r M { s with T := put s.T o.dst x }) : Calm P ops H0 K k (o :: r) M s
  | eff1 {k : Nat} {o : Oper} {r : List Oper} {M : List (Nat × (Nat × AObj))} {s : St} (Hn : AHeap) (x : Nat → AV) (ob : Nat → AObj) (hw : Wanted ops s.T o true) (hd : dok o.dst s.n = true) (he : ∀ id, Eff P o s.T Hn (x id) [(id, ob id)])
      (hn : ∀ p, p ∈ Hn → p ∈ H0 ∨ ∃ j, (j, p) ∈ M ∧ anc ops k k j = true) (h : ∀ id, Calm P ops H0 K (k + 1) r ((k, (id, ob id)) :: M) { s with T := put s.T o.dst (x id), H := (id, ob id) :: s.H }) : Calm P ops H0 K k (o :: r) M s
  | off {k : Nat} {o : Oper} {r : List Oper} {M : List (Nat × (Nat × AObj))} {s : St} (hw : Wanted ops s.T o false) (hd : dok o.dst s.n = true)
      (h : Calm P ops H0 K (k + 1) r M { s with T := put s.T o.dst (.v undef) }) : Calm P ops H0 K k (o :: r) M s

def TT (ops : Array Oper) (xs : Nat → AV) (T0 : List (Nat × AV)) : Nat → List (Nat × AV)
  | 0 => T0
  | i + 1 => put (TT ops xs T0 i) ((ops[i]?).bind (·.dst)) (xs i)
def HH (os : Nat → AHeap) (H0 : AHeap) : Nat → AHeap
  | 0 => H0
  | i + 1 => os i ++ HH os H0 i

theorem TT_congr {ops : Array Oper} {xs ys : Nat → AV} {T0 : List (Nat × AV)} : ∀ (k : Nat), (∀ i, i < k → xs i = ys i) → TT ops xs T0 k = TT ops ys T0 k
  | 0, _ => rfl
  | k + 1, h => by simp only [TT]; rw [TT_congr k (fun i hi => h i (by omega)), h k (by omega)]
theorem HH_congr {os ps : Nat → AHeap} {H0 : AHeap} : ∀ (k : Nat), (∀ i, i < k → os i = ps i) → HH os H0 k = HH ps H0 k
  | 0, _ => rfl
  | k + 1, h => by simp only [HH]; rw [HH_congr k (fun i hi => h i (by omega)), h k (by omega)]

def Good (P : Program) (ops : Array Oper) (n : Nat) (xs : Nat → AV) (os : Nat → AHeap) (T0 : List (Nat × AV)) (H0 : AHeap) (i : Nat) : Prop :=
  ∃ o, ops[i]? = some o ∧ dok o.dst n = true ∧ ((Wanted ops (TT ops xs T0 i) o false ∧ xs i = .v undef ∧ os i = []) ∨
    (Wanted ops (TT ops xs T0 i) o true ∧ ∃ Hn, Eff P o (TT ops xs T0 i) Hn (xs i) (os i) ∧ ∀ p, p ∈ Hn → p ∈ H0 ∨ ∃ j, j < i ∧ p ∈ os j ∧ anc ops i i j = true))

theorem Good.congr {P : Program} {ops : Array Oper} {n : Nat} {xs ys : Nat → AV} {os ps : Nat → AHeap} {T0 : List (Nat × AV)} {H0 : AHeap} {i : Nat} (h1 : ∀ j, j ≤ i → xs j = ys j) (h2 : ∀ j, j ≤ i → os j = ps j)
    (h : Good P ops n xs os T0 H0 i) : Good P ops n ys ps T0 H0 i := by
  obtain ⟨o, ho, hd, h⟩ := h
  refine ⟨o, ho, hd, ?_⟩
  rw [← TT_congr (ops := ops) (T0 := T0) i (fun j hj => h1 j (by omega)), ← h1 i (Nat.le_refl _), ← h2 i (Nat.le_refl _)]
  rcases h with h | ⟨hw, Hn, he, hn⟩
  · exact .inl h
  · refine .inr ⟨hw, Hn, he, fun p hp => (hn p hp).imp id (fun ⟨j, a, b, c⟩ => ⟨j, a, ?_, c⟩)⟩
    rw [← h2 j (by omega)]; exact b

/-- Out of such a walk: all values, all new things, by the operations' numbers. -/
theorem Calm.tell {P : Program} {ops : Array Oper} {H0 : AHeap} {K : St → Prop} {T0 : List (Nat × AV)} {D : List Nat} {n : Nat} (L : List Nat) {k : Nat} {l : List Oper} {M : List (Nat × (Nat × AObj))} {s : St}
    (h : Calm P ops H0 K k l M s) : ∀ (xs : Nat → AV) (os : Nat → AHeap), ops.toList.drop k = l ++ ops.toList.drop (k + l.length) → s = ⟨TT ops xs T0 k, HH os H0 k, D, n⟩ → (∀ i, i < k → Good P ops n xs os T0 H0 i) →
      (∀ j p, (j, p) ∈ M → j < k ∧ p ∈ os j) → (∀ i p, i < k → p ∈ os i → p.1 ∉ L) → (∀ i j p q, i < k → j < k → p ∈ os i → q ∈ os j → p.1 = q.1 → i = j) → (∀ i, i < k → ((os i).map Prod.fst).Nodup) →
      ∃ (ys : Nat → AV) (ps : Nat → AHeap), K ⟨TT ops ys T0 (k + l.length), HH ps H0 (k + l.length), D, n⟩ ∧ (∀ i, i < k + l.length → Good P ops n ys ps T0 H0 i) ∧
        (∀ i p, i < k + l.length → p ∈ ps i → p.1 ∉ L) ∧ (∀ i j p q, i < k + l.length → j < k + l.length → p ∈ ps i → q ∈ ps j → p.1 = q.1 → i = j) ∧ (∀ i, i < k + l.length → ((ps i).map Prod.fst).Nodup) := by
  -- one step: the value x and the things obs at place k
  have step : ∀ (k : Nat) (o : Oper) (r : List Oper) (M : List (Nat × (Nat × AObj))) (xs : Nat → AV) (os : Nat → AHeap) (x : AV) (obs : AHeap), ops[k]? = some o →
      (∀ i, i < k → Good P ops n xs os T0 H0 i) →
      (dok o.dst n = true ∧ ((Wanted ops (TT ops xs T0 k) o false ∧ x = .v undef ∧ obs = []) ∨
        (Wanted ops (TT ops xs T0 k) o true ∧ ∃ Hn, Eff P o (TT ops xs T0 k) Hn x obs ∧ ∀ p, p ∈ Hn → p ∈ H0 ∨ ∃ j, j < k ∧ p ∈ os j ∧ anc ops k k j = true))) →
      ∃ (ys : Nat → AV) (ps : Nat → AHeap), (∀ i, i < k → ys i = xs i) ∧ (∀ i, i < k → ps i = os i) ∧ ys k = x ∧ ps k = obs ∧ (∀ i, i < k + 1 → Good P ops n ys ps T0 H0 i) := by
    intro k o r M xs os x obs ho hg hx
    refine ⟨fun i => if i = k then x else xs i, fun i => if i = k then obs else os i, fun i hi => if_neg (by omega), fun i hi => if_neg (by omega), if_pos rfl, if_pos rfl, ?_⟩
    intro i hi
    rcases Nat.lt_or_ge i k with hlt | hge
    · exact (hg i hlt).congr (fun j hj => (if_neg (by omega)).symm) (fun j hj => (if_neg (by omega)).symm)
    · have e : i = k := by omega
      subst e
      obtain ⟨hd, hx⟩ := hx
      refine ⟨o, ho, hd, ?_⟩
      have e1 : TT ops (fun j => if j = i then x else xs j) T0 i = TT ops xs T0 i := TT_congr i (fun j hj => if_neg (by omega))
      simp only [e1, if_true]
      rcases hx with hx | ⟨hw, Hn, he, hn⟩
      · exact .inl hx
      · refine .inr ⟨hw, Hn, he, fun p hp => (hn p hp).imp id (fun ⟨j, a, b, c⟩ => ⟨j, a, ?_, c⟩)⟩
        rw [if_neg (by omega)]; exact b
  induction h with
  | done h =>
    intro xs os hl hs hg hM hL hij hnd
    subst hs
    exact ⟨xs, os, h, hg, hL, hij, hnd⟩
  | @eff k o r M s Hn x hw hd he hn h ih =>
    intro xs os hl hs hg hM hL hij hnd
    subst hs
    obtain ⟨h1, h2⟩ := drop_cons_get (l := ops.toList) (k := k) (o := o) (r := r ++ ops.toList.drop (k + (o :: r).length)) hl
    have ho : ops[k]? = some o := by rw [← Array.getElem?_toList]; exact h1
    obtain ⟨ys, ps, e1, e2, e3, e4, e5⟩ := step k o r M xs os x [] ho hg ⟨hd, .inr ⟨hw, Hn, he, fun p hp => (hn p hp).imp id (fun ⟨j, a, b⟩ => ⟨j, (hM j p a).1, (hM j p a).2, b⟩)⟩⟩
    have hlen : k + (o :: r).length = k + 1 + r.length := by simp; omega
    rw [hlen]
    refine ih ys ps (by rw [h2, hlen]) ?_ e5 ?_ ?_ ?_ ?_
    · simp only [TT, HH, ho, Option.bind_some, e3, e4, List.nil_append]
      rw [TT_congr k e1, HH_congr k e2]
    · intro j p hp; obtain ⟨a, b⟩ := hM j p hp; exact ⟨by omega, by rw [e2 j a]; exact b⟩
    · intro i p hi hp
      rcases Nat.lt_or_ge i k with hlt | hge
      · rw [e2 i hlt] at hp; exact hL i p hlt hp
      · have : i = k := by omega
        subst this; rw [e4] at hp; cases hp
    · intro i j p q hi hj hp hq hpq
      rcases Nat.lt_or_ge i k with hlt | hge <;> rcases Nat.lt_or_ge j k with hlt' | hge'
      · rw [e2 i hlt] at hp; rw [e2 j hlt'] at hq; exact hij i j p q hlt hlt' hp hq hpq
      · have : j = k := by omega
        subst this; rw [e4] at hq; cases hq
      · have : i = k := by omega
        subst this; rw [e4] at hp; cases hp
      · omega
    · intro i hi
      rcases Nat.lt_or_ge i k with hlt | hge
      · rw [e2 i hlt]; exact hnd i hlt
      · have : i = k := by omega
        subst this; rw [e4]; exact List.nodup_nil
  | @eff1 k o r M s Hn x ob hw hd he hn h ih =>
    intro xs os hl hs hg hM hL hij hnd
    subst hs
    obtain ⟨h1, h2⟩ := drop_cons_get (l := ops.toList) (k := k) (o := o) (r := r ++ ops.toList.drop (k + (o :: r).length)) hl
    have ho : ops[k]? = some o := by rw [← Array.getElem?_toList]; exact h1
    obtain ⟨id, hid⟩ := fresh (L ++ ((List.range k).flatMap fun i => (os i).map Prod.fst))
    rw [List.mem_append, not_or] at hid
    have hidn : ∀ i p, i < k → p ∈ os i → p.1 ≠ id := by
      intro i p hi hp e
      exact hid.2 (List.mem_flatMap.2 ⟨i, List.mem_range.2 hi, List.mem_map.2 ⟨p, hp, e⟩⟩)
    obtain ⟨ys, ps, e1, e2, e3, e4, e5⟩ := step k o r M xs os (x id) [(id, ob id)] ho hg ⟨hd, .inr ⟨hw, Hn, he id, fun p hp => (hn p hp).imp (fun a => a) (fun ⟨j, a, b⟩ => ⟨j, (hM j p a).1, (hM j p a).2, b⟩)⟩⟩
    have hlen : k + (o :: r).length = k + 1 + r.length := by simp; omega
    rw [hlen]
    refine ih id ys ps (by rw [h2, hlen]) ?_ e5 ?_ ?_ ?_ ?_
    · simp only [TT, HH, ho, Option.bind_some, e3, e4, List.cons_append, List.nil_append]
      rw [TT_congr k e1, HH_congr k e2]
    · intro j p hp
      rcases List.mem_cons.1 hp with hp | hp
      · cases hp; exact ⟨by omega, by rw [e4]; exact List.mem_cons_self⟩
      · obtain ⟨a, b⟩ := hM j p hp; exact ⟨by omega, by rw [e2 j a]; exact b⟩
    · intro i p hi hp
      rcases Nat.lt_or_ge i k with hlt | hge
      · rw [e2 i hlt] at hp; exact hL i p hlt hp
      · have : i = k := by omega
        subst this; rw [e4] at hp; simp at hp; subst hp; exact hid.1
    · intro i j p q hi hj hp hq hpq
      rcases Nat.lt_or_ge i k with hlt | hge <;> rcases Nat.lt_or_ge j k with hlt' | hge'
      · rw [e2 i hlt] at hp; rw [e2 j hlt'] at hq; exact hij i j p q hlt hlt' hp hq hpq
      · have : j = k := by omega
        subst this; rw [e4] at hq; simp at hq; subst hq
        rw [e2 i hlt] at hp; exact (hidn i p hlt hp hpq).elim
      · have : i = k := by omega
        subst this; rw [e4] at hp; simp at hp; subst hp
        rw [e2 j hlt'] at hq; exact (hidn j q hlt' hq hpq.symm).elim
      · omega
    · intro i hi
      rcases Nat.lt_or_ge i k with hlt | hge
      · rw [e2 i hlt]; exact hnd i hlt
      · have : i = k := by omega
        subst this; rw [e4]; simp
  | @off k o r M s hw hd h ih =>
    intro xs os hl hs hg hM hL hij hnd
    subst hs
    obtain ⟨h1, h2⟩ := drop_cons_get (l := ops.toList) (k := k) (o := o) (r := r ++ ops.toList.drop (k + (o :: r).length)) hl
    have ho : ops[k]? = some o := by rw [← Array.getElem?_toList]; exact h1
    obtain ⟨ys, ps, e1, e2, e3, e4, e5⟩ := step k o r M xs os (.v undef) [] ho hg ⟨hd, .inl ⟨hw, rfl, rfl⟩⟩
    have hlen : k + (o :: r).length = k + 1 + r.length := by simp; omega
    rw [hlen]
    refine ih ys ps (by rw [h2, hlen]) ?_ e5 ?_ ?_ ?_ ?_
    · simp only [TT, HH, ho, Option.bind_some, e3, e4, List.nil_append]
      rw [TT_congr k e1, HH_congr k e2]
    · intro j p hp; obtain ⟨a, b⟩ := hM j p hp; exact ⟨by omega, by rw [e2 j a]; exact b⟩
    · intro i p hi hp
      rcases Nat.lt_or_ge i k with hlt | hge
      · rw [e2 i hlt] at hp; exact hL i p hlt hp
      · have : i = k := by omega
        subst this; rw [e4] at hp; cases hp
    · intro i j p q hi hj hp hq hpq
      rcases Nat.lt_or_ge i k with hlt | hge <;> rcases Nat.lt_or_ge j k with hlt' | hge'
      · rw [e2 i hlt] at hp; rw [e2 j hlt'] at hq; exact hij i j p q hlt hlt' hp hq hpq
      · have : j = k := by omega
        subst this; rw [e4] at hq; cases hq
      · have : i = k := by omega
        subst this; rw [e4] at hp; cases hp
      · omega
    · intro i hi
      rcases Nat.lt_or_ge i k with hlt | hge
      · rw [e2 i hlt]; exact hnd i hlt
      · have : i = k := by omega
        subst this; rw [e4]; exact List.nodup_nil


/-! ### Whatever order is drawn -/
section
variable {P : Program} {ro : Option Nat} {ops : Array Oper}

theorem Ext.subZ {Z Z' : List Nat} {C C' : Ctx} {H H' : AHeap} {w w' : World} (h : Ext Z C H w C' H' w') (hz : ∀ z, z ∈ Z' → z ∈ Z) : Ext Z' C H w C' H' w' :=
  ⟨h.le, fun z a b => h.av z (hz z a) b, h.os, h.tape, h.output, h.size, h.fr, h.nhp, h.nbl, h.nid⟩

theorem TT_look {xs : Nat → AV} {T0 : List (Nat × AV)} {t : Nat} {x : AV} : ∀ k, lk (TT ops xs T0 k) t = some x →
    (∃ j, j < k ∧ (ops[j]?).bind (·.dst) = some t ∧ x = xs j) ∨ (lk T0 t = some x ∧ ∀ j, j < k → (ops[j]?).bind (·.dst) ≠ some t)
  | 0, h => .inr ⟨h, nofun⟩
  | k + 1, h => by
    simp only [TT] at h
    cases hd : (ops[k]?).bind (·.dst) with
    | none =>
      rw [hd] at h
      rcases TT_look k h with ⟨j, a, b, c⟩ | ⟨a, b⟩
      · exact .inl ⟨j, by omega, b, c⟩
      · refine .inr ⟨a, fun j hj => ?_⟩
        rcases Nat.lt_or_ge j k with h1 | h1
        · exact b j h1
        · have : j = k := by omega
          subst this; rw [hd]; nofun
    | some d =>
      rw [hd] at h
      simp only [put, lk] at h
      cases hb : Nat.beq d t with
      | true =>
        have e := Nat.eq_of_beq_eq_true hb
        subst e
        simp only [hb, cond_true, Option.some.injEq] at h
        exact .inl ⟨k, by omega, hd, h.symm⟩
      | false =>
        simp only [hb, cond_false] at h
        rcases TT_look k h with ⟨j, a, b, c⟩ | ⟨a, b⟩
        · exact .inl ⟨j, by omega, b, c⟩
        · refine .inr ⟨a, fun j hj => ?_⟩
          rcases Nat.lt_or_ge j k with h1 | h1
          · exact b j h1
          · have : j = k := by omega
            subst this; rw [hd]
            intro e; cases e
            simp at hb

theorem anc_listed {listed : Array Bool} (dn : ∀ i o, ops[i]? = some o → listed.getD i false = true → ∀ e, e ∈ o.after → Region.binds .any e = true → listed.getD e.on false = true) :
    ∀ f i j o, ops[i]? = some o → (∀ e, e ∈ o.after → Region.binds .any e = true → listed.getD e.on false = true) → anc ops f i j = true → listed.getD j false = true
  | 0, i, j, o, _, _, h => by simp [anc] at h
  | f + 1, i, j, o, ho, hr, h => by
    simp only [anc, ho] at h
    obtain ⟨e, he, h2⟩ := Array.any_eq_true'.1 h
    simp only [Bool.and_eq_true, Bool.or_eq_true, beq_iff_eq] at h2
    have hl := hr e he h2.1
    rcases h2.2 with h3 | h3
    · rw [← h3]; exact hl
    · cases ho2 : ops[e.on]? with
      | none => cases f <;> simp [anc, ho2] at h3
      | some o2 => exact anc_listed dn f e.on j o2 ho2 (fun e' he' hb' => dn e.on o2 ho2 hl e' he' hb') h3

theorem flat_set (np i : Nat) (f g : Nat → AHeap) (hi : i < np) (hf : f i = []) (hg : ∀ j, j ≠ i → g j = f j) : ((List.range np).flatMap g).Perm (g i ++ (List.range np).flatMap f) := by
  induction np with
  | zero => omega
  | succ np ih =>
    rw [List.range_succ, List.flatMap_append, List.flatMap_append]
    simp only [List.flatMap_cons, List.flatMap_nil, List.append_nil]
    rcases Nat.lt_or_ge i np with h | h
    · rw [hg np (by omega), ← List.append_assoc]
      exact (ih h).append_right _
    · have : i = np := by omega
      subst this
      have e : (List.range i).flatMap g = (List.range i).flatMap f := by
        have : ∀ l : List Nat, (∀ j, j ∈ l → j ≠ i) → l.flatMap g = l.flatMap f := by
          intro l
          induction l with
          | nil => intro _; rfl
          | cons x l ih => intro h; simp only [List.flatMap_cons]; rw [hg x (h x List.mem_cons_self), ih (fun j hj => h j (List.mem_cons_of_mem _ hj))]
        exact this _ (fun j hj => by have := List.mem_range.1 hj; omega)
      rw [e, hf, List.append_nil]
      exact List.perm_append_comm

theorem HH_flat (os : Nat → AHeap) (H0 : AHeap) : ∀ np, (HH os H0 np).Perm ((List.range np).flatMap os ++ H0)
  | 0 => .refl _
  | np + 1 => by
    simp only [HH]
    rw [List.range_succ, List.flatMap_append]
    simp only [List.flatMap_cons, List.flatMap_nil, List.append_nil]
    refine ((HH_flat os H0 np).append_left _).trans ?_
    rw [← List.append_assoc]
    exact (List.perm_append_comm).append_right _

/-- Behind the first part the others come one behind the other. -/
theorem phase2 {F : Fence} {n : Nat} {Q : Exit → Act → World → Prop} {np : Nat} (hE : okEdges ops = true) (hT : okTail ops np = true) :
    ∀ (fuel m : Nat) (listed : Array Bool) (a : Act) (w : World), np ≤ m → m + fuel = ops.size → listed.size = ops.size → (∀ i, i < m → listed.getD i false = true) → (∀ i, m ≤ i → i < ops.size → listed.getD i false = false) →
      wpOpsIn F n P ops Q (List.range' m fuel) a w → wpAnyIn F n P .any ops Q fuel listed a w := by
  intro fuel
  induction fuel with
  | zero =>
    intro m listed a w hm hmf hls h1 h2 h
    refine ⟨?_, by simpa [wpOpsIn] using h⟩
    rw [List.eq_nil_iff_forall_not_mem]
    intro j hj
    obtain ⟨h3, o, h4, _⟩ := mem_ready.1 hj
    have hlt : j < ops.size := (Array.getElem?_eq_some_iff.1 h4).1
    have := h1 j (by omega)
    simp [hls, hlt] at h3 this
    rw [h3] at this; cases this
  | succ fuel ih =>
    intro m listed a w hm hmf hls h1 h2 h
    have hdown : ∀ i o, ops[i]? = some o → listed.getD i false = true → ∀ e, e ∈ o.after → Region.binds .any e = true → listed.getD e.on false = true := by
      intro i o ho hi e he hbd
      have hlt : i < ops.size := (Array.getElem?_eq_some_iff.1 ho).1
      have := List.all_eq_true.1 hE i (List.mem_range.2 hlt)
      simp only [ho] at this
      have h5 := Array.all_eq_true_iff_forall_mem.1 this e he
      rw [hbd, Bool.not_true, Bool.false_or, Nat.blt_eq] at h5
      have him : i < m := by
        rcases Nat.lt_or_ge i m with h6 | h6
        · exact h6
        · rw [h2 i h6 hlt] at hi; cases hi
      exact h1 e.on (by omega)
    have hready : ∀ i, i ∈ Region.ready .any ops listed → i = m := by
      intro i hi
      obtain ⟨h3, o, h4, h5⟩ := mem_ready.1 hi
      have hlt : i < ops.size := (Array.getElem?_eq_some_iff.1 h4).1
      have hmi : m ≤ i := by
        rcases Nat.lt_or_ge i m with h6 | h6
        · have h7 := h1 i h6
          simp [hls, hlt] at h3 h7
          rw [h3] at h7; cases h7
        · exact h6
      rcases Nat.lt_or_ge m i with h6 | h6
      · have h7 := List.all_eq_true.1 hT (i - np) (List.mem_range.2 (by omega))
        rw [show np + (i - np) = i from by omega] at h7
        have h8 := List.all_eq_true.1 h7 m (List.mem_range.2 h6)
        have h9 := anc_listed hdown i i m o h4 h5 h8
        rw [h2 m (Nat.le_refl _) (by omega)] at h9; cases h9
      · omega
    refine ⟨fun hnil => ?_, fun i hi => ?_⟩
    · exfalso
      have hmlt : m < ops.size := by omega
      have : m ∈ Region.ready .any ops listed := by
        rw [mem_ready]
        refine ⟨?_, ops[m], Array.getElem?_eq_getElem hmlt, ?_⟩
        · have := h2 m (Nat.le_refl _) hmlt
          simp [hls, hmlt] at this ⊢; exact this
        · intro e he hbd
          have := List.all_eq_true.1 hE m (List.mem_range.2 hmlt)
          rw [Array.getElem?_eq_getElem hmlt] at this
          have h5 := Array.all_eq_true_iff_forall_mem.1 this e he
          rw [hbd, Bool.not_true, Bool.false_or, Nat.blt_eq] at h5
          exact h1 e.on h5
      rw [hnil] at this; cases this
    · have := hready i hi
      subst this
      rw [List.range'_succ, wpOpsIn_cons] at h
      refine wpOpIn_mono (fun a' w' h' => ih (i + 1) _ a' w' (by omega) (by omega) (by simpa using hls) ?_ ?_ h') h
      · intro j hj
        by_cases e : i = j
        · subst e
          have hlt : i < listed.size := by omega
          simp [hlt]
        · rw [getD_set_ne _ e]; exact h1 j (by omega)
      · intro j hj hj2
        rw [getD_set_ne _ (by omega : i ≠ j)]; exact h2 j (by omega) hj2


/-- How many have not come up yet. -/
def left (ops : Array Oper) (listed : Array Bool) : Nat := ((List.range ops.size).filter fun i => !listed.getD i false).length

theorem left_set {listed : Array Bool} {i : Nat} (hi : i < ops.size) (hs : listed.size = ops.size) (hl : listed.getD i false = false) : left ops listed = left ops (listed.setIfInBounds i true) + 1 := by
  unfold left
  have hlt : i < listed.size := by omega
  have key : ∀ l : List Nat, l.Nodup → i ∈ l → (l.filter fun j => !listed.getD j false).length = (l.filter fun j => !(listed.setIfInBounds i true).getD j false).length + 1 := by
    intro l
    induction l with
    | nil => intro _ h; cases h
    | cons x l ih =>
      intro hn hm
      rw [List.nodup_cons] at hn
      by_cases hx : x = i
      · subst hx
        have e1 : (!listed.getD x false) = true := by rw [hl]; rfl
        have e2 : (!(listed.setIfInBounds x true).getD x false) = false := by simp [hlt]
        rw [List.filter_cons, List.filter_cons, if_pos e1, e2]
        simp only [Bool.false_eq_true, if_false, List.length_cons]
        congr 1
        refine congrArg List.length (List.filter_congr ?_)
        intro j hj
        have : x ≠ j := fun e => hn.1 (e ▸ hj)
        rw [getD_set_ne _ this]
      · have hm' : i ∈ l := by rcases List.mem_cons.1 hm with h | h; exact absurd h.symm hx; exact h
        have e0 : (listed.setIfInBounds i true).getD x false = listed.getD x false := getD_set_ne _ (Ne.symm hx)
        rw [List.filter_cons, List.filter_cons, e0]
        split
        · simp only [List.length_cons]; rw [ih hn.2 hm']
        · exact ih hn.2 hm'
  exact key _ List.nodup_range (List.mem_range.2 hi)

theorem left_pos {listed : Array Bool} (h : left ops listed ≠ 0) : ∃ i, i < ops.size ∧ listed.getD i false = false ∧ ∀ j, j < i → listed.getD j false = true := by
  have hx : ∃ i, i < ops.size ∧ listed.getD i false = false := by
    unfold left at h
    rw [Ne, List.length_eq_zero_iff] at h
    obtain ⟨i, hi⟩ := List.exists_mem_of_ne_nil _ h
    rw [List.mem_filter, List.mem_range] at hi
    exact ⟨i, hi.1, by simpa using hi.2⟩
  obtain ⟨i, ⟨h1, h2⟩, h3⟩ := least_of hx
  refine ⟨i, h1, h2, fun j hj => ?_⟩
  cases hb : listed.getD j false with
  | true => rfl
  | false => have := h3 j ⟨by omega, hb⟩; omega

structure Inv (P : Program) (ops : Array Oper) (np : Nat) (ys : Nat → AV) (ps : Nat → AHeap) (s : St) (Z : List Nat) (C0 : Ctx) (H0 : AHeap) (w0 : World) (listed : Array Bool) (a : Act) (w : World) (C : Ctx) : Prop where
  wr : WR C ((List.range np).flatMap (fun j => if listed.getD j false = true then ps j else []) ++ s.H) w
  sl0 : ∀ t x, lk s.T t = some x → (∀ j, j < np → (ops[j]?).bind (·.dst) ≠ some t) → ∃ v, a.tmps[t]? = some v ∧ VR C x v
  sl1 : ∀ j t, j < np → listed.getD j false = true → (ops[j]?).bind (·.dst) = some t → ∃ v, a.tmps[t]? = some v ∧ VR C (ys j) v
  df : a.defers = s.D.map (mark C)
  du : ∀ i, i ∈ s.D → i ∈ C.U
  sz : a.tmps.size = s.n
  av : ∀ j p, j < np → listed.getD j false = false → p ∈ ps j → p.1 ∉ C.U
  ext : Ext Z C0 H0 w0 C ((List.range np).flatMap (fun j => if listed.getD j false = true then ps j else []) ++ s.H) w
  dn : ∀ i o, ops[i]? = some o → listed.getD i false = true → ∀ e, e ∈ o.after → Region.binds .any e = true → listed.getD e.on false = true

theorem looks_tmp {o : Oper} {t : Nat} (h : Operand.tmp t ∈ o.op.operands) : t ∈ o.looksAt ops :=
  List.mem_append_left _ (List.mem_filterMap.2 ⟨.tmp t, by simpa using h, rfl⟩)

theorem looks_guard {o : Oper} {g t : Nat} {c : Bool} {og : Oper} (h : o.guard = some (g, c)) (h2 : ops[g]? = some og) (h3 : og.dst = some t) : t ∈ o.looksAt ops := by
  refine List.mem_append_right _ ?_
  simp [h, h2, h3]

theorem phase1 {Q : Exit → St → Prop} {np : Nat} {ys : Nat → AV} {ps : Nat → AHeap} {s : St} {Z : List Nat} {C0 : Ctx} {H0 : AHeap} {w0 : World} {tail : List Oper}
    (ht : tidy ops np = true) (htail : ops.toList.drop np = tail) (hK : AOps P ro ops tail Q ⟨TT ops ys s.T np, HH ps s.H np, s.D, s.n⟩) (hg : ∀ i, i < np → Good P ops s.n ys ps s.T s.H i)
    (hZ : ∀ i p, i < np → p ∈ ps i → p.1 ∉ Z) (hij : ∀ i j p q, i < np → j < np → p ∈ ps i → q ∈ ps j → p.1 = q.1 → i = j) (hnd : ∀ i, i < np → ((ps i).map Prod.fst).Nodup) :
    ∀ (fuel : Nat) (listed : Array Bool) (a : Act) (w : World) (C : Ctx), listed.size = ops.size → left ops listed = fuel → (∀ i, np ≤ i → i < ops.size → listed.getD i false = false) →
      Inv P ops np ys ps s Z C0 H0 w0 listed a w C → wpAnyIn (Wd ro) 0 P .any ops (Post Z C0 H0 w0 Q) fuel listed a w := by
  simp only [tidy, Bool.and_eq_true] at ht
  obtain ⟨⟨⟨⟨hnp, hE⟩, hD⟩, hL⟩, hT⟩ := ht
  have hnp := Nat.le_of_ble_eq_true hnp
  -- when all of the first part have come up
  have whole : ∀ (listed : Array Bool) (a : Act) (w : World) (C : Ctx), (∀ i, i < np → listed.getD i false = true) → Inv P ops np ys ps s Z C0 H0 w0 listed a w C →
      wpOpsIn (Wd ro) 0 P ops (Post Z C0 H0 w0 Q) (List.range' np tail.length) a w := by
    intro listed a w C hall hI
    have hp : ((List.range np).flatMap (fun j => if listed.getD j false = true then ps j else []) ++ s.H).Perm (HH ps s.H np) := by
      refine List.Perm.trans ?_ (HH_flat ps s.H np).symm
      refine List.Perm.append_right _ ?_
      have : ∀ l : List Nat, (∀ j, j ∈ l → j < np) → l.flatMap (fun j => if listed.getD j false = true then ps j else []) = l.flatMap ps := by
        intro l
        induction l with
        | nil => intro _; rfl
        | cons x l ih => intro h; simp only [List.flatMap_cons]; rw [if_pos (hall x (h x List.mem_cons_self)), ih (fun j hj => h j (List.mem_cons_of_mem _ hj))]
      rw [this _ (fun j hj => List.mem_range.1 hj)]
    refine hK np htail Z C0 H0 w0 C a w (hI.ext.permR hp) ⟨hI.wr.perm hp, ?_, hI.df, hI.du, hI.sz⟩
    intro t x hx
    rcases TT_look np hx with ⟨j, h1, h2, rfl⟩ | ⟨h1, h2⟩
    · exact hI.sl1 j t h1 (hall j h1) h2
    · exact hI.sl0 t x h1 h2
  have htl : tail.length = ops.size - np := by rw [← htail]; simp
  intro fuel
  induction fuel with
  | zero =>
    intro listed a w C hls hleft hun hI
    have hall : ∀ i, i < ops.size → listed.getD i false = true := by
      intro i hi
      cases hb : listed.getD i false with
      | true => rfl
      | false => have := left_set hi hls hb; omega
    have hnps : np = ops.size := by
      rcases Nat.lt_or_ge np ops.size with h | h
      · have h1 := hun np (Nat.le_refl _) h
        rw [hall np h] at h1; cases h1
      · omega
    refine ⟨?_, ?_⟩
    · rw [List.eq_nil_iff_forall_not_mem]
      intro j hj
      obtain ⟨h3, o, h4, _⟩ := mem_ready.1 hj
      have hlt : j < ops.size := (Array.getElem?_eq_some_iff.1 h4).1
      have := hall j hlt
      simp [hls, hlt] at h3 this
      rw [h3] at this; cases this
    · have := whole listed a w C (fun i hi => hall i (by omega)) hI
      rw [htl, show ops.size - np = 0 from by omega] at this
      simpa [wpOpsIn] using this
  | succ fuel ih =>
    intro listed a w C hls hleft hun hI
    refine ⟨fun hnil => ?_, fun i hi => ?_⟩
    · exfalso
      obtain ⟨i, h1, h2, h3⟩ := left_pos (ops := ops) (listed := listed) (by omega)
      have : i ∈ Region.ready .any ops listed := by
        rw [mem_ready]
        refine ⟨?_, ops[i], Array.getElem?_eq_getElem h1, ?_⟩
        · simp [hls, h1] at h2 ⊢; exact h2
        · intro e he hbd
          have := List.all_eq_true.1 hE i (List.mem_range.2 h1)
          rw [Array.getElem?_eq_getElem h1] at this
          have h5 := Array.all_eq_true_iff_forall_mem.1 this e he
          rw [hbd, Bool.not_true, Bool.false_or, Nat.blt_eq] at h5
          exact h3 e.on h5
      rw [hnil] at this; cases this
    · obtain ⟨h3, o, ho, hdeps⟩ := mem_ready.1 hi
      have hlt : i < ops.size := (Array.getElem?_eq_some_iff.1 ho).1
      have hunl : listed.getD i false = false := by simp [hls, hlt] at h3 ⊢; exact h3
      rcases Nat.lt_or_ge i np with hin | hin
      · -- one of the first part
        obtain ⟨o', ho', hd, hgood⟩ := hg i hin
        rw [ho] at ho'; cases ho'
        have hanc : ∀ j, anc ops i i j = true → listed.getD j false = true := fun j hj => anc_listed hI.dn i i j o ho hdeps hj
        have hLi := List.all_eq_true.1 hL i (List.mem_range.2 hin)
        simp only [ho] at hLi
        have hlook : ∀ t x, t ∈ o.looksAt ops → lk (TT ops ys s.T i) t = some x → ∃ v, a.tmps[t]? = some v ∧ VR C x v := by
          intro t x htl' hx
          have h5 := List.all_eq_true.1 hLi t htl'
          have h6 : ∀ j, j < np → (ops[j]?).bind (·.dst) = some t → j < i ∧ listed.getD j false = true := by
            intro j hj hjt
            have h7 := List.all_eq_true.1 h5 j (List.mem_range.2 hj)
            rw [hjt] at h7
            simp only [beq_self_eq_true, Bool.not_true, Bool.false_or, Bool.and_eq_true, Nat.blt_eq] at h7
            exact ⟨h7.1, hanc j h7.2⟩
          rcases TT_look i hx with ⟨j, h7, h8, rfl⟩ | ⟨h7, h8⟩
          · exact hI.sl1 j t (by omega) (h6 j (by omega) h8).2 h8
          · refine hI.sl0 t x h7 (fun j hj hjt => ?_)
            exact h8 j (h6 j hj hjt).1 hjt
        have hwant : ∀ b, Wanted ops (TT ops ys s.T i) o b → Region.wanted o (yielded ops a.tmps) = b := by
          intro b hb
          rcases hb with ⟨h, rfl⟩ | ⟨g, c, d, og, t, h1, h2, h4, ⟨h5, h6⟩ | ⟨h5, rfl⟩⟩
          · simp [Region.wanted, h]
          · obtain ⟨v, h7, h8⟩ := hlook t _ (looks_guard h1 h2 h4) h5
            have := VR.val h8
            subst this
            have hy : yielded ops a.tmps g = some d := by
              have hb : (ops[g]?.bind fun x => x.dst) = some t := by rw [h2]; exact h4
              have hb2 : ((ops[g]?.bind fun x => x.dst).bind fun x => a.tmps[x]?) = some (.bool d) := by rw [hb]; exact h7
              unfold yielded
              rw [hb2]
            rw [← h6]
            cases d <;> cases c <;> simp [Region.wanted, h1, hy]
          · obtain ⟨v, h7, h8⟩ := hlook t _ (looks_guard h1 h2 h4) h5
            have := VR.val h8
            subst this
            have hy : yielded ops a.tmps g = none := by
              have hb : (ops[g]?.bind fun x => x.dst) = some t := by rw [h2]; exact h4
              have hb2 : ((ops[g]?.bind fun x => x.dst).bind fun x => a.tmps[x]?) = some undef := by rw [hb]; exact h7
              unfold yielded
              rw [hb2]
              rfl
            simp [Region.wanted, h1, hy]
        have hdst : ∀ j t, j < np → j ≠ i → o.dst = some t → (ops[j]?).bind (·.dst) ≠ some t := by
          intro j t hj hne hot hjt
          have hbi : (ops[i]?).bind (·.dst) = some t := by rw [ho]; exact hot
          rcases Nat.lt_or_ge j i with h | h
          · have h5 := List.all_eq_true.1 (List.all_eq_true.1 hD i (List.mem_range.2 hin)) j (List.mem_range.2 h)
            rw [hbi, hjt] at h5; simp at h5
          · have h5 := List.all_eq_true.1 (List.all_eq_true.1 hD j (List.mem_range.2 hj)) i (List.mem_range.2 (by omega))
            rw [hbi, hjt] at h5; simp at h5
        have hset : ∀ j, (listed.setIfInBounds i true).getD j false = if j = i then true else listed.getD j false := by
          intro j
          by_cases e : j = i
          · subst e; have : j < listed.size := by omega
            simp [this]
          · rw [if_neg e, getD_set_ne _ (Ne.symm e)]
        have hperm : ((List.range np).flatMap (fun j => if (listed.setIfInBounds i true).getD j false = true then ps j else []) ++ s.H).Perm
            (ps i ++ ((List.range np).flatMap (fun j => if listed.getD j false = true then ps j else []) ++ s.H)) := by
          rw [← List.append_assoc]
          refine List.Perm.append_right _ ?_
          have := flat_set np i (fun j => if listed.getD j false = true then ps j else []) (fun j => if (listed.setIfInBounds i true).getD j false = true then ps j else []) hin (by simp only [hunl]; rfl)
            (fun j hj => by simp only [hset, if_neg hj])
          simp only [hset, if_true] at this ⊢
          exact this
        -- behind it
        have next : ∀ (v : Value) (w1 : World) (C1 : Ctx), VR C1 (ys i) v → WR C1 (ps i ++ ((List.range np).flatMap (fun j => if listed.getD j false = true then ps j else []) ++ s.H)) w1 →
            Ext (Z ++ (List.range np).flatMap (fun j => if j = i then [] else (ps j).map Prod.fst)) C ((List.range np).flatMap (fun j => if listed.getD j false = true then ps j else []) ++ s.H) w C1 (ps i ++ ((List.range np).flatMap (fun j => if listed.getD j false = true then ps j else []) ++ s.H)) w1 →
            wpAnyIn (Wd ro) 0 P .any ops (Post Z C0 H0 w0 Q) fuel (listed.setIfInBounds i true) (a.put o.dst v) w1 := by
          intro v w1 C1 hv hw1 he1
          refine ih _ _ _ C1 (by simpa using hls) (by have := left_set hlt hls hunl; omega) ?_ ?_
          · intro j hj hj2
            rw [hset, if_neg (by omega)]; exact hun j hj hj2
          · refine ⟨hw1.perm hperm.symm, ?_, ?_, ?_, fun j hj => he1.le.U j (hI.du j hj), ?_, ?_, ?_, ?_⟩
            · intro t x hx hno
              obtain ⟨u, h5, h6⟩ := hI.sl0 t x hx hno
              refine ⟨u, ?_, h6.mono he1.le⟩
              cases hod : o.dst with
              | none => exact h5
              | some d =>
                have hne : d ≠ t := by
                  rintro rfl
                  exact hno i hin (by rw [ho]; exact hod)
                simpa [Act.put, Array.getElem?_setIfInBounds_ne hne] using h5
            · intro j t hj hlj hjt
              by_cases e : j = i
              · subst e
                have hod : o.dst = some t := by rw [ho] at hjt; exact hjt
                refine ⟨v, ?_, hv⟩
                have := dok_spec hd t hod
                rw [← hI.sz] at this
                simp [Act.put, hod, this]
              · rw [hset, if_neg e] at hlj
                obtain ⟨u, h5, h6⟩ := hI.sl1 j t hj hlj hjt
                refine ⟨u, ?_, h6.mono he1.le⟩
                cases hod : o.dst with
                | none => exact h5
                | some d =>
                  have hne : d ≠ t := by
                    rintro rfl
                    exact hdst j d hj e hod hjt
                  simpa [Act.put, Array.getElem?_setIfInBounds_ne hne] using h5
            · have e1 : (a.put o.dst v).defers = a.defers := by cases o.dst <;> rfl
              rw [e1, hI.df]
              exact List.map_congr_left fun j hj => by simp [mark, he1.le.m j (hI.du j hj)]
            · have e1 : (a.put o.dst v).tmps.size = a.tmps.size := by cases o.dst <;> simp [Act.put]
              rw [e1]; exact hI.sz
            · intro j p hj hlj hp
              by_cases e : j = i
              · rw [hset, if_pos e] at hlj; cases hlj
              · rw [hset, if_neg e] at hlj
                refine he1.av p.1 (List.mem_append_right _ (List.mem_flatMap.2 ⟨j, List.mem_range.2 hj, ?_⟩)) (hI.av j p hj hlj hp)
                rw [if_neg e]; exact List.mem_map.2 ⟨p, hp, rfl⟩
            · exact (hI.ext.trans (he1.subZ (fun z hz => List.mem_append_left _ hz))).permR hperm.symm
            · intro j o2 ho2 hlj e he hb
              rw [hset]
              split
              · rfl
              · by_cases e2 : j = i
                · subst e2; rw [ho] at ho2; cases ho2; exact hdeps e he hb
                · rw [hset, if_neg e2] at hlj; exact hI.dn j o2 ho2 hlj e he hb
        unfold wpOpIn
        simp only [ho]
        rcases hgood with ⟨hw, hx, hps⟩ | ⟨hw, Hn, heff, hHn⟩
        · rw [hwant false hw]
          simp only [Bool.false_eq_true, if_false]
          refine ⟨fun _ _ => trivial, next undef w C (by rw [hx]; exact .v undef) ?_ ?_⟩
          · rw [hps]; exact hI.wr
          · rw [hps]; exact .refl ..
        · rw [hwant true hw]
          simp only [if_true]
          refine ⟨fun _ _ => trivial, ?_⟩
          refine heff (Z ++ (List.range np).flatMap (fun j => if j = i then [] else (ps j).map Prod.fst)) C _ a w hI.wr ?_ ?_ ?_ (hnd i hin) ?_ ro _ _ next
          · intro p hp
            rcases hHn p hp with h5 | ⟨j, h5, h6, h7⟩
            · exact List.mem_append_right _ h5
            · refine List.mem_append_left _ (List.mem_flatMap.2 ⟨j, List.mem_range.2 (by omega), ?_⟩)
              rw [if_pos (hanc j h7)]; exact h6
          · intro p hp y hy
            cases p with
            | tmp t =>
              obtain ⟨v, h5, h6⟩ := hlook t y (looks_tmp hp) hy
              have e : a.eval (.tmp t) = v := by simp [Act.eval, h5]
              rw [e]; exact h6
            | const c => cases hy; exact .v c
            | func f => cases hy; exact .fn _ [] #[] rfl (by intro i c x h; simp at h)
            | global g => cases hy
          · intro p hp; exact hI.av i p hin hunl hp
          · intro z hz hm
            obtain ⟨p, hp, rfl⟩ := List.mem_map.1 hm
            rcases List.mem_append.1 hz with hz | hz
            · exact hZ i p hin hp hz
            · obtain ⟨j, hj, h5⟩ := List.mem_flatMap.1 hz
              split at h5
              · cases h5
              · rename_i hne
                obtain ⟨q, hq, h6⟩ := List.mem_map.1 h5
                exact hne (hij j i q p (List.mem_range.1 hj) hin hq hp h6)
      · -- the first one behind
        have hall : ∀ j, j < i → listed.getD j false = true := by
          intro j hj
          have h7 := List.all_eq_true.1 hT (i - np) (List.mem_range.2 (by omega))
          rw [show np + (i - np) = i from by omega] at h7
          exact anc_listed hI.dn i i j o ho hdeps (List.all_eq_true.1 h7 j (List.mem_range.2 hj))
        have hi' : i = np := by
          rcases Nat.lt_or_ge np i with h | h
          · have := hun np (Nat.le_refl _) (by omega)
            rw [hall np h] at this; cases this
          · omega
        have hw := whole listed a w C (fun j hj => hall j (by omega)) hI
        have hfuel : fuel + 1 = ops.size - np := by
          rw [← hleft]
          unfold left
          have : ((List.range ops.size).filter fun j => !listed.getD j false) = List.range' np (ops.size - np) := by
            have e : List.range ops.size = List.range np ++ List.range' np (ops.size - np) := by
              have e3 := List.range'_append_1 (s := 0) (m := np) (n := ops.size - np)
              rw [Nat.zero_add, show np + (ops.size - np) = ops.size from by omega] at e3
              rw [List.range_eq_range', List.range_eq_range', e3]
            rw [e, List.filter_append]
            have e1 : (List.range np).filter (fun j => !listed.getD j false) = [] := by
              rw [List.filter_eq_nil_iff]; intro j hj; rw [hall j (by have := List.mem_range.1 hj; omega)]; simp
            have e2 : (List.range' np (ops.size - np)).filter (fun j => !listed.getD j false) = List.range' np (ops.size - np) := by
              rw [List.filter_eq_self]; intro j hj
              have := List.mem_range'_1.1 hj
              rw [hun j this.1 (by omega)]; rfl
            rw [e1, e2, List.nil_append]
          rw [this, List.length_range']
        have h2 := phase2 (P := P) (F := Wd ro) (n := 0) (Q := Post Z C0 H0 w0 Q) hE hT (fuel + 1) np listed a w (Nat.le_refl _) (by omega) hls (fun j hj => hall j (by omega)) (fun j hj hj2 => hun j hj hj2) (by rw [hfuel, ← htl]; exact hw)
        exact h2.2 i hi

/-- **A region whose order is drawn**: walked in the text's order. -/
theorem awp_draw {Q : Exit → St → Prop} {s : St} {id : Nat} (pre tail : List Oper) {l : List Oper} (hl : l = pre ++ tail) (hm : P.follows .mixedOrders = true) (ht : tidy l.toArray pre.length = true)
    (h : Calm P l.toArray s.H (AOps P ro l.toArray tail Q) 0 pre [] s) : AWp P ro (.region id l.toArray true) Q s := by
  intro Z C0 H0 w0 C a w he hs
  refine wpIn_region_any hm ?_
  obtain ⟨ys, ps, h1, h2, h3, h4, h5⟩ := h.tell (T0 := s.T) (D := s.D) (n := s.n) (C.U ++ Z) (fun _ => .v undef) (fun _ => []) (by subst hl; simp) rfl (fun i hi => absurd hi (Nat.not_lt_zero _)) (fun j p hp => nomatch hp) (fun i p hi => absurd hi (Nat.not_lt_zero _)) (fun i j p q hi => absurd hi (Nat.not_lt_zero _)) (fun i hi => absurd hi (Nat.not_lt_zero _))
  simp only [Nat.zero_add] at h1 h2 h3 h4 h5
  have hw1 : WR C s.H { w with drawn := w.drawn + 1 } := ⟨hs.wr.hp, hs.wr.nd, fun i o hi => ⟨(hs.wr.ids i o hi).1, (hs.wr.ids i o hi).2.keep (.refl C) (hs.wr.ids i o hi).1 (fun _ _ _ => rfl)⟩, hs.wr.inj, hs.wr.dis⟩
  have he1 : Ext Z C0 H0 w0 C s.H { w with drawn := w.drawn + 1 } := ⟨he.le, he.av, he.os, he.tape, he.output, he.size, he.fr, he.nhp, he.nbl, he.nid⟩
  have hflat : (List.range pre.length).flatMap (fun j => if (Array.replicate l.toArray.size false).getD j false = true then ps j else []) = [] := by
    rw [List.flatMap_eq_nil_iff]
    intro j hj
    rw [if_neg]
    rw [Array.getD_eq_getD_getElem?, Array.getElem?_replicate]
    split <;> simp
  have hf : ∀ i, (Array.replicate l.toArray.size false).getD i false = false := by
    intro i
    rw [Array.getD_eq_getD_getElem?, Array.getElem?_replicate]
    split <;> rfl
  refine phase1 (ys := ys) (ps := ps) (s := s) (np := pre.length) (tail := tail) ht (by subst hl; simp) h1 h2 (fun i p hi hp hz => h3 i p hi hp (List.mem_append_right _ hz)) h4 h5 l.toArray.size _ _ _ C (by simp) ?_ (fun i _ _ => hf i) ?_
  · unfold left
    rw [List.filter_eq_self.2 (fun i _ => by rw [hf]; rfl), List.length_range]
  · refine ⟨by rw [hflat]; exact hw1, fun t x hx _ => hs.sl t x hx, fun j t _ hj => (by rw [hf] at hj; cases hj), hs.df, hs.du, hs.sz, fun j p hj _ hp => fun hu => h3 j p hj hp (List.mem_append_left _ hu), by rw [hflat]; exact he1, fun i o _ hi => (by rw [hf] at hi; cases hi)⟩

end

end Go.Sx
