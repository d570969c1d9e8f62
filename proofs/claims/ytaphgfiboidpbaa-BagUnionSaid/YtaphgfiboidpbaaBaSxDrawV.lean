/- A region whose order is drawn, with new things and writes in it: writes come one behind the other, and behind all new things; what only gives a value may come at any time. -/
import Derived.Test.YtaphgfiboidpbaaBaSxDrawW
set_option linter.unusedSimpArgs false
set_option linter.unusedVariables false
set_option linter.unnecessarySimpa false
namespace Go.Sx
open Go

/-- An operation that puts a new thing in another one's place, and gives a value. -/
def EffA (P : Program) (o : Oper) (T : List (Nat × AV)) (H : AHeap) (x : AV) (H' : AHeap) (id : Nat) : Prop :=
  ∀ Z C a w, WR C H w → (∀ p, p ∈ o.op.operands → ∀ y, ev T p = some y → VR C y (a.eval p)) → id ∉ C.U → id ∉ Z →
    ∀ ro next R, (∀ v w1 C1, VR C1 x v → WR C1 H' w1 → Ext Z C H w C1 H' w1 → next (a.put o.dst v) w1) → o.uponIn (Wd ro) 0 P a next R ((o.semAt ro a.eval).run P w)

/-- A walk in the text's order. ws: the writes; rs: what looks at things ahead of all writes; S: things that no write touches. -/
inductive VCalm (P : Program) (ops : Array Oper) (H0 : AHeap) (ws rs : List Nat) (K : St → Prop) : Nat → List Oper → List (Nat × (Nat × AObj)) → AHeap → St → Prop
  | done {k : Nat} {M : List (Nat × (Nat × AObj))} {S : AHeap} {s : St} (h : K s) : VCalm P ops H0 ws rs K k [] M S s
  | keep {k : Nat} {l : List Oper} {M : List (Nat × (Nat × AObj))} {S : AHeap} {s : St} (p : Nat × AObj) (hp : p ∈ s.H) (hf : (ws.all fun w => Nat.ble k w) = true) (h : VCalm P ops H0 ws rs K k l M (p :: S) s) : VCalm P ops H0 ws rs K k l M S s
  | eff {k : Nat} {o : Oper} {r : List Oper} {M : List (Nat × (Nat × AObj))} {S : AHeap} {s : St} (Hn : AHeap) (x : AV) (hw : Wanted ops s.T o true) (hd : dok o.dst s.n = true) (he : Eff P o s.T Hn x []) (hk : ws.contains k = false)
      (hn : ∀ p, p ∈ Hn → p ∈ H0 ∨ ∃ j, (j, p) ∈ M ∧ anc ops k k j = true) (hr : Hn = [] ∨ rs.contains k = true ∨ ∀ p, p ∈ Hn → p ∈ S)
      (h : VCalm P ops H0 ws rs K (k + 1) r M S { s with T := put s.T o.dst x }) : VCalm P ops H0 ws rs K k (o :: r) M S s
  | eff1 {k : Nat} {o : Oper} {r : List Oper} {M : List (Nat × (Nat × AObj))} {S : AHeap} {s : St} (x : Nat → AV) (ob : Nat → AObj) (hw : Wanted ops s.T o true) (hd : dok o.dst s.n = true) (he : ∀ id, Eff P o s.T [] (x id) [(id, ob id)]) (hk : rs.contains k = true) (hk2 : ws.contains k = false)
      (h : ∀ id, VCalm P ops H0 ws rs K (k + 1) r ((k, (id, ob id)) :: M) S { s with T := put s.T o.dst (x id), H := (id, ob id) :: s.H }) : VCalm P ops H0 ws rs K k (o :: r) M S s
  | off {k : Nat} {o : Oper} {r : List Oper} {M : List (Nat × (Nat × AObj))} {S : AHeap} {s : St} (hw : Wanted ops s.T o false) (hd : dok o.dst s.n = true) (hk : ws.contains k = false)
      (h : VCalm P ops H0 ws rs K (k + 1) r M S { s with T := put s.T o.dst (.v undef) }) : VCalm P ops H0 ws rs K k (o :: r) M S s
  | write {k : Nat} {o : Oper} {r : List Oper} {M : List (Nat × (Nat × AObj))} {S : AHeap} {s : St} (H' : AHeap) (hw : Wanted ops s.T o true) (hd : dok o.dst s.n = true) (he : EffW P o s.T s.H H') (hk : ws.contains k = true) (hS : ∀ p, p ∈ S → p ∈ H')
      (h : VCalm P ops H0 ws rs K (k + 1) r M S { s with T := put s.T o.dst (.v undef), H := H' }) : VCalm P ops H0 ws rs K k (o :: r) M S s
  | app {k : Nat} {o : Oper} {r : List Oper} {M : List (Nat × (Nat × AObj))} {S : AHeap} {s : St} (x : Nat → AV) (H' : Nat → AHeap) (hw : Wanted ops s.T o true) (hd : dok o.dst s.n = true) (he : ∀ id, EffA P o s.T s.H (x id) (H' id) id) (hk : ws.contains k = true) (hS : ∀ id p, p ∈ S → p ∈ H' id)
      (h : ∀ id, VCalm P ops H0 ws rs K (k + 1) r M S { s with T := put s.T o.dst (x id), H := H' id }) : VCalm P ops H0 ws rs K k (o :: r) M S s

/-- What an operation does. -/
def GV (P : Program) (ops : Array Oper) (ws rs : List Nat) (T : List (Nat × AV)) (os : Nat → AHeap) (H0 S : AHeap) (i : Nat) (o : Oper) (x : AV) (obs B B' : AHeap) : Prop :=
  (ws.contains i = false ∧ obs = [] ∧ B' = B ∧ ((Wanted ops T o false ∧ x = .v undef) ∨
    (Wanted ops T o true ∧ ∃ Hn, Eff P o T Hn x [] ∧ (∀ p, p ∈ Hn → p ∈ H0 ∨ ∃ j, j < i ∧ p ∈ os j ∧ anc ops i i j = true) ∧ (Hn = [] ∨ rs.contains i = true ∨ ∀ p, p ∈ Hn → p ∈ S)))) ∨
  (ws.contains i = false ∧ rs.contains i = true ∧ B' = obs ++ B ∧ Wanted ops T o true ∧ Eff P o T [] x obs) ∨
  (ws.contains i = true ∧ obs = [] ∧ Wanted ops T o true ∧ x = .v undef ∧ EffW P o T B B') ∨
  (ws.contains i = true ∧ Wanted ops T o true ∧ ∃ id, obs = [(id, .rows 0 0 [])] ∧ EffA P o T B x B' id)
theorem GV.mono {P : Program} {ops : Array Oper} {ws rs : List Nat} {T : List (Nat × AV)} {os ps : Nat → AHeap} {H0 S S' : AHeap} {i : Nat} {o : Oper} {x : AV} {obs B B' : AHeap} (hS : ∀ p, p ∈ S → p ∈ S') (ho : ∀ j, j < i → ps j = os j)
    (h : GV P ops ws rs T os H0 S i o x obs B B') : GV P ops ws rs T ps H0 S' i o x obs B B' := by
  rcases h with ⟨h1, h2, h3, h4 | ⟨h4, Hn, h5, h6, h7⟩⟩ | h | h | h
  · exact .inl ⟨h1, h2, h3, .inl h4⟩
  · refine .inl ⟨h1, h2, h3, .inr ⟨h4, Hn, h5, fun p hp => (h6 p hp).imp id (fun ⟨j, a, b, c⟩ => ⟨j, a, by rw [ho j a]; exact b, c⟩), h7.imp id (fun h => h.imp id (fun h p hp => hS p (h p hp)))⟩⟩
  · exact .inr (.inl h)
  · exact .inr (.inr (.inl h))
  · exact .inr (.inr (.inr h))
def GoodV (P : Program) (ops : Array Oper) (n : Nat) (ws rs : List Nat) (xs : Nat → AV) (os B : Nat → AHeap) (T0 : List (Nat × AV)) (H0 S : AHeap) (i : Nat) : Prop :=
  ∃ o, ops[i]? = some o ∧ dok o.dst n = true ∧ GV P ops ws rs (TT ops xs T0 i) os H0 S i o (xs i) (os i) (B i) (B (i + 1))
theorem GoodV.congr {P : Program} {ops : Array Oper} {n : Nat} {ws rs : List Nat} {xs ys : Nat → AV} {os ps B E : Nat → AHeap} {T0 : List (Nat × AV)} {H0 S S' : AHeap} {i : Nat} (h1 : ∀ j, j ≤ i → ys j = xs j) (h2 : ∀ j, j ≤ i → ps j = os j) (h3 : ∀ j, j ≤ i + 1 → E j = B j) (hS : ∀ p, p ∈ S → p ∈ S')
    (h : GoodV P ops n ws rs xs os B T0 H0 S i) : GoodV P ops n ws rs ys ps E T0 H0 S' i := by
  obtain ⟨o, ho, hd, h⟩ := h
  refine ⟨o, ho, hd, ?_⟩
  rw [TT_congr (ops := ops) (T0 := T0) i (fun j hj => h1 j (by omega)), h1 i (Nat.le_refl _), h2 i (Nat.le_refl _), h3 i (by omega), h3 (i + 1) (Nat.le_refl _)]
  exact h.mono hS (fun j hj => h2 j (by omega))

/-- All that is told up to a place. -/
structure ToldV (P : Program) (ops : Array Oper) (n : Nat) (ws rs : List Nat) (T0 : List (Nat × AV)) (H0 : AHeap) (L : List Nat) (k : Nat) (S : AHeap) (xs : Nat → AV) (os B : Nat → AHeap) : Prop where
  b0 : B 0 = H0
  g : ∀ i, i < k → GoodV P ops n ws rs xs os B T0 H0 S i
  fr : ∀ i p, i < k → p ∈ os i → p.1 ∉ L
  di : ∀ i j p q, i < k → j < k → p ∈ os i → q ∈ os j → p.1 = q.1 → i = j
  nd : ∀ i, i < k → ((os i).map Prod.fst).Nodup
  s : ∀ p, p ∈ S → ∀ c, (∃ v, ws.contains v = true ∧ v < c) → c ≤ k → p ∈ B c

theorem ToldV.adv {P : Program} {ops : Array Oper} {n : Nat} {ws rs : List Nat} {T0 : List (Nat × AV)} {H0 : AHeap} {L : List Nat} {k : Nat} {S : AHeap} {xs : Nat → AV} {os B : Nat → AHeap} (h : ToldV P ops n ws rs T0 H0 L k S xs os B)
    {o : Oper} (ho : ops[k]? = some o) (hd : dok o.dst n = true) (x : AV) (obs H' : AHeap) (hg : GV P ops ws rs (TT ops xs T0 k) os H0 S k o x obs (B k) H') (hS : ∀ p, p ∈ S → p ∈ H')
    (h1 : ∀ p, p ∈ obs → p.1 ∉ L) (h2 : ∀ i p q, i < k → p ∈ os i → q ∈ obs → p.1 ≠ q.1) (h3 : (obs.map Prod.fst).Nodup) :
    ∃ (ys : Nat → AV) (ps E : Nat → AHeap), ToldV P ops n ws rs T0 H0 L (k + 1) S ys ps E ∧ TT ops ys T0 (k + 1) = put (TT ops xs T0 k) o.dst x ∧ E (k + 1) = H' ∧ (∀ i, i < k → ps i = os i) ∧ ps k = obs := by
  let ys : Nat → AV := fun i => if i = k then x else xs i
  let ps : Nat → AHeap := fun i => if i = k then obs else os i
  let E : Nat → AHeap := fun i => if i = k + 1 then H' else B i
  have e1 : ∀ i, i < k → ys i = xs i := fun i hi => if_neg (by omega)
  have e2 : ∀ i, i < k → ps i = os i := fun i hi => if_neg (by omega)
  have e3 : ∀ i, i ≤ k → E i = B i := fun i hi => if_neg (by omega)
  have e4 : ys k = x := if_pos rfl
  have e5 : ps k = obs := if_pos rfl
  have e6 : E (k + 1) = H' := if_pos rfl
  have et : TT ops ys T0 k = TT ops xs T0 k := TT_congr k e1
  refine ⟨ys, ps, E, ⟨(e3 0 (Nat.zero_le _)).trans h.b0, ?_, ?_, ?_, ?_, ?_⟩, ?_, e6, e2, e5⟩
  · intro i hi
    rcases Nat.lt_or_ge i k with hlt | hge
    · exact (h.g i hlt).congr (fun j hj => e1 j (by omega)) (fun j hj => e2 j (by omega)) (fun j hj => e3 j (by omega)) (fun _ h => h)
    · have e : i = k := by omega
      subst e
      refine ⟨o, ho, hd, ?_⟩
      rw [et, e4, e5, e6, e3 i (Nat.le_refl _)]
      exact hg.mono (fun _ h => h) e2
  · intro i p hi hp
    rcases Nat.lt_or_ge i k with hlt | hge
    · rw [e2 i hlt] at hp; exact h.fr i p hlt hp
    · have e : i = k := by omega
      subst e; rw [e5] at hp; exact h1 p hp
  · intro i j p q hi hj hp hq hpq
    rcases Nat.lt_or_ge i k with hlt | hge <;> rcases Nat.lt_or_ge j k with hlt' | hge'
    · rw [e2 i hlt] at hp; rw [e2 j hlt'] at hq; exact h.di i j p q hlt hlt' hp hq hpq
    · have e : j = k := by omega
      subst e; rw [e5] at hq; rw [e2 i hlt] at hp; exact (h2 i p q hlt hp hq hpq).elim
    · have e : i = k := by omega
      subst e; rw [e5] at hp; rw [e2 j hlt'] at hq; exact (h2 j q p hlt' hq hp hpq.symm).elim
    · omega
  · intro i hi
    rcases Nat.lt_or_ge i k with hlt | hge
    · rw [e2 i hlt]; exact h.nd i hlt
    · have e : i = k := by omega
      subst e; rw [e5]; exact h3
  · intro p hp c hv hc
    rcases Nat.lt_or_ge k c with hlt | hge
    · have e : c = k + 1 := by omega
      subst e; rw [e6]; exact hS p hp
    · rw [e3 c hge]; exact h.s p hp c hv hge
  · simp only [TT, ho, Option.bind_some]
    rw [e4, et]

theorem VCalm.tell {P : Program} {ops : Array Oper} {H0 : AHeap} {ws rs : List Nat} {K : St → Prop} {T0 : List (Nat × AV)} {D : List Nat} {n : Nat} (L : List Nat) {k : Nat} {l : List Oper} {M : List (Nat × (Nat × AObj))} {S : AHeap} {s : St} (h : VCalm P ops H0 ws rs K k l M S s) :
    ∀ (xs : Nat → AV) (os B : Nat → AHeap), ToldV P ops n ws rs T0 H0 L k S xs os B → ops.toList.drop k = l → s = ⟨TT ops xs T0 k, B k, D, n⟩ → (∀ j p, (j, p) ∈ M → j < k ∧ p ∈ os j) → (∀ p, p ∈ S → p ∈ B k) →
      ∃ (ys : Nat → AV) (ps E : Nat → AHeap) (S' : AHeap), ToldV P ops n ws rs T0 H0 L (k + l.length) S' ys ps E ∧ K ⟨TT ops ys T0 (k + l.length), E (k + l.length), D, n⟩ := by
  induction h with
  | done h =>
    intro xs os B hT hl hs hM hS
    subst hs
    exact ⟨xs, os, B, _, hT, h⟩
  | @keep k l M S s p hp hf h ih =>
    intro xs os B hT hl hs hM hS
    subst hs
    refine ih xs os B ⟨hT.b0, fun i hi => (hT.g i hi).congr (fun _ _ => rfl) (fun _ _ => rfl) (fun _ _ => rfl) (fun q hq => List.mem_cons_of_mem _ hq), hT.fr, hT.di, hT.nd, ?_⟩ hl rfl hM ?_
    · intro q hq c hv hc
      rcases List.mem_cons.1 hq with rfl | hq
      · obtain ⟨v, hv, hvc⟩ := hv
        have := List.all_eq_true.1 hf v (by simpa using hv)
        have := Nat.le_of_ble_eq_true this
        omega
      · exact hT.s q hq c hv hc
    · intro q hq
      rcases List.mem_cons.1 hq with rfl | hq
      · exact hp
      · exact hS q hq
  | @eff k o r M S s Hn x hw hd he hk hn hr h ih =>
    intro xs os B hT hl hs hM hS
    subst hs
    obtain ⟨h1, h2⟩ := drop_cons_get hl
    have ho : ops[k]? = some o := by rw [← Array.getElem?_toList]; exact h1
    obtain ⟨ys, ps, E, g1, g2, g3, g4, g5⟩ := hT.adv ho hd x [] (B k) (.inl ⟨hk, rfl, rfl, .inr ⟨hw, Hn, he, fun p hp => (hn p hp).imp id (fun ⟨j, a, b⟩ => ⟨j, (hM j p a).1, (hM j p a).2, b⟩), hr⟩⟩) hS nofun (fun _ _ _ _ _ h => nomatch h) List.nodup_nil
    rw [show k + (o :: r).length = k + 1 + r.length by simp; omega]
    exact ih ys ps E g1 h2 (by rw [g2, g3]) (fun j p hp => ⟨by have := (hM j p hp).1; omega, by rw [g4 j (hM j p hp).1]; exact (hM j p hp).2⟩) (by rw [g3]; exact hS)
  | @eff1 k o r M S s x ob hw hd he hk hk2 h ih =>
    intro xs os B hT hl hs hM hS
    subst hs
    obtain ⟨h1, h2⟩ := drop_cons_get hl
    have ho : ops[k]? = some o := by rw [← Array.getElem?_toList]; exact h1
    obtain ⟨id, hid⟩ := fresh (L ++ ((List.range k).flatMap fun i => (os i).map Prod.fst))
    rw [List.mem_append, not_or] at hid
    obtain ⟨ys, ps, E, g1, g2, g3, g4, g5⟩ := hT.adv ho hd (x id) [(id, ob id)] ((id, ob id) :: B k) (.inr (.inl ⟨hk2, hk, rfl, hw, he id⟩)) (fun p hp => List.mem_cons_of_mem _ (hS p hp)) (fun p hp => by rw [List.mem_singleton.1 hp]; exact hid.1)
      (fun i p q hi hp hq e => by rw [List.mem_singleton.1 hq] at e; exact hid.2 (List.mem_flatMap.2 ⟨i, List.mem_range.2 hi, List.mem_map.2 ⟨p, hp, e⟩⟩)) (by simp)
    rw [show k + (o :: r).length = k + 1 + r.length by simp; omega]
    refine ih id ys ps E g1 h2 (by rw [g2, g3]) ?_ (by rw [g3]; exact fun p hp => List.mem_cons_of_mem _ (hS p hp))
    intro j p hp
    rcases List.mem_cons.1 hp with hp | hp
    · cases hp; exact ⟨by omega, by rw [g5]; exact List.mem_cons_self⟩
    · exact ⟨by have := (hM j p hp).1; omega, by rw [g4 j (hM j p hp).1]; exact (hM j p hp).2⟩
  | @off k o r M S s hw hd hk h ih =>
    intro xs os B hT hl hs hM hS
    subst hs
    obtain ⟨h1, h2⟩ := drop_cons_get hl
    have ho : ops[k]? = some o := by rw [← Array.getElem?_toList]; exact h1
    obtain ⟨ys, ps, E, g1, g2, g3, g4, g5⟩ := hT.adv ho hd (.v undef) [] (B k) (.inl ⟨hk, rfl, rfl, .inl ⟨hw, rfl⟩⟩) hS nofun (fun _ _ _ _ _ h => nomatch h) List.nodup_nil
    rw [show k + (o :: r).length = k + 1 + r.length by simp; omega]
    exact ih ys ps E g1 h2 (by rw [g2, g3]) (fun j p hp => ⟨by have := (hM j p hp).1; omega, by rw [g4 j (hM j p hp).1]; exact (hM j p hp).2⟩) (by rw [g3]; exact hS)
  | @write k o r M S s H' hw hd he hk hS' h ih =>
    intro xs os B hT hl hs hM hS
    subst hs
    obtain ⟨h1, h2⟩ := drop_cons_get hl
    have ho : ops[k]? = some o := by rw [← Array.getElem?_toList]; exact h1
    obtain ⟨ys, ps, E, g1, g2, g3, g4, g5⟩ := hT.adv ho hd (.v undef) [] H' (.inr (.inr (.inl ⟨hk, rfl, hw, rfl, he⟩))) hS' nofun (fun _ _ _ _ _ h => nomatch h) List.nodup_nil
    rw [show k + (o :: r).length = k + 1 + r.length by simp; omega]
    exact ih ys ps E g1 h2 (by rw [g2, g3]) (fun j p hp => ⟨by have := (hM j p hp).1; omega, by rw [g4 j (hM j p hp).1]; exact (hM j p hp).2⟩) (by rw [g3]; exact hS')
  | @app k o r M S s x H' hw hd he hk hS' h ih =>
    intro xs os B hT hl hs hM hS
    subst hs
    obtain ⟨h1, h2⟩ := drop_cons_get hl
    have ho : ops[k]? = some o := by rw [← Array.getElem?_toList]; exact h1
    obtain ⟨id, hid⟩ := fresh (L ++ ((List.range k).flatMap fun i => (os i).map Prod.fst))
    rw [List.mem_append, not_or] at hid
    obtain ⟨ys, ps, E, g1, g2, g3, g4, g5⟩ := hT.adv ho hd (x id) [(id, .rows 0 0 [])] (H' id) (.inr (.inr (.inr ⟨hk, hw, id, rfl, he id⟩))) (hS' id) (fun p hp => by rw [List.mem_singleton.1 hp]; exact hid.1)
      (fun i p q hi hp hq e => by rw [List.mem_singleton.1 hq] at e; exact hid.2 (List.mem_flatMap.2 ⟨i, List.mem_range.2 hi, List.mem_map.2 ⟨p, hp, e⟩⟩)) (by simp)
    rw [show k + (o :: r).length = k + 1 + r.length by simp; omega]
    exact ih id ys ps E g1 h2 (by rw [g2, g3]) (fun j p hp => ⟨by have := (hM j p hp).1; omega, by rw [g4 j (hM j p hp).1]; exact (hM j p hp).2⟩) (by rw [g3]; exact hS' id)

/-- What lies in the heap: ahead of the first write what has been laid; then what the text tells. -/
def hpF (N : Nat) (ps : Nat → AHeap) (H0 : AHeap) (B : Nat → AHeap) (listed : Array Bool) (cur : Nat) : AHeap :=
  if cur = 0 then (List.range N).flatMap (fun j => if listed.getD j false = true then ps j else []) ++ H0 else B cur

structure InvV (P : Program) (ops : Array Oper) (ws : List Nat) (ys : Nat → AV) (ps B : Nat → AHeap) (cur : Nat) (s : St) (Z : List Nat) (C0 : Ctx) (H0 : AHeap) (w0 : World) (listed : Array Bool) (a : Act) (w : World) (C : Ctx) : Prop where
  wr : WR C (hpF ops.size ps s.H B listed cur) w
  sl0 : ∀ t x, lk s.T t = some x → (∀ j, j < ops.size → listed.getD j false = true → (ops[j]?).bind (·.dst) ≠ some t) → ∃ v, a.tmps[t]? = some v ∧ VR C x v
  sl1 : ∀ j t, j < ops.size → listed.getD j false = true → (ops[j]?).bind (·.dst) = some t → ∃ v, a.tmps[t]? = some v ∧ VR C (ys j) v
  df : a.defers = s.D.map (mark C)
  du : ∀ i, i ∈ s.D → i ∈ C.U
  sz : a.tmps.size = s.n
  av : ∀ j p, j < ops.size → listed.getD j false = false → p ∈ ps j → p.1 ∉ C.U
  ext : Ext Z C0 H0 w0 C (hpF ops.size ps s.H B listed cur) w
  dn : ∀ i o, ops[i]? = some o → listed.getD i false = true → ∀ e, e ∈ o.after → Region.binds .any e = true → listed.getD e.on false = true
  lw : ∀ v, ws.contains v = true → v < ops.size → (listed.getD v false = true ↔ v < cur)
  lc : cur ≤ ops.size
  lz : cur = 0 ∨ ∃ v, ws.contains v = true ∧ v < cur

/-- What is looked at was written ahead of it, or will be written behind it. -/
def okLooksV (ops : Array Oper) (ms : List Nat) : Bool := (List.range ops.size).all fun i => match ops[i]? with
  | some o => (o.looksAt ops).all fun t => (List.range ops.size).all fun j => !((ops[j]?).bind (·.dst) == some t) || (Nat.blt j i && bitOf ms i j) || (Nat.blt i j && bitOf ms j i)
  | none => false
def tidyV (ops : Array Oper) (ms ws rs : List Nat) : Bool := (okEdges ops && okDst ops ops.size && okCert ops ms && okLooksV ops ms && okWrites ms ws rs && (ws ++ rs).all fun i => Nat.blt i ops.size) && !ws.isEmpty

theorem phaseV {P : Program} {ro : Option Nat} {ops : Array Oper} {Q : Exit → St → Prop} {ms ws rs : List Nat} {ys : Nat → AV} {ps B : Nat → AHeap} {S : AHeap} {s : St} {Z : List Nat} {C0 : Ctx} {H0 : AHeap} {w0 : World}
    (ht0 : tidyV ops ms ws rs = true) (hK : Q .normal ⟨TT ops ys s.T ops.size, B ops.size, s.D, s.n⟩) (hT : ToldV P ops s.n ws rs s.T s.H Z ops.size S ys ps B) :
    ∀ (fuel : Nat) (listed : Array Bool) (cur : Nat) (a : Act) (w : World) (C : Ctx), listed.size = ops.size → left ops listed = fuel →
      InvV P ops ws ys ps B cur s Z C0 H0 w0 listed a w C → wpAnyIn (Wd ro) 0 P .any ops (Post Z C0 H0 w0 Q) fuel listed a w := by
  have hg := hT.g
  simp only [tidyV, Bool.and_eq_true] at ht0
  obtain ⟨ht, hwe⟩ := ht0
  obtain ⟨⟨⟨⟨⟨hE, hD⟩, hCt⟩, hL⟩, hW⟩, hIn⟩ := ht
  have hcert := cert_anc hE hCt
  have hwsz : ∀ v, ws.contains v = true → v < ops.size := fun v hv => Nat.blt_eq ▸ List.all_eq_true.1 hIn v (List.mem_append_left _ (by simpa using hv))
  have hrsz : ∀ v, rs.contains v = true → v < ops.size := fun v hv => Nat.blt_eq ▸ List.all_eq_true.1 hIn v (List.mem_append_right _ (by simpa using hv))
  have hrw : ∀ v r, ws.contains v = true → rs.contains r = true → anc ops v v r = true := by
    intro v r hv hr
    have h1 := List.all_eq_true.1 hW v (by simpa using hv)
    rw [Bool.and_eq_true] at h1
    have h2 := List.all_eq_true.1 h1.1 r (by simpa using hr)
    rw [Bool.and_eq_true] at h2
    exact hcert v (hwsz v hv) r (Nat.blt_eq ▸ h2.1) h2.2
  have hww : ∀ v u, ws.contains v = true → ws.contains u = true → u < v → anc ops v v u = true := by
    intro v u hv hu hlt
    have h1 := List.all_eq_true.1 hW v (by simpa using hv)
    rw [Bool.and_eq_true] at h1
    have h2 := List.all_eq_true.1 h1.2 u (by simpa using hu)
    simp only [Bool.or_eq_true, Bool.and_eq_true] at h2
    rcases h2 with (h2 | h2) | h2
    · have := Nat.eq_of_beq_eq_true h2; omega
    · exact hcert v (hwsz v hv) u hlt h2.2
    · have : v < u := Nat.blt_eq ▸ h2.1; omega
  -- the first write, and what lies ahead of it
  obtain ⟨w1, hw1⟩ : ∃ v, ws.contains v = true := by
    cases ws with
    | nil => cases hwe
    | cons v r => exact ⟨v, by simp⟩
  have hrlt : ∀ v r, ws.contains v = true → rs.contains r = true → r < v := by
    intro v r hv hr
    have h1 := List.all_eq_true.1 hW v (by simpa using hv)
    rw [Bool.and_eq_true] at h1
    have h2 := List.all_eq_true.1 h1.1 r (by simpa using hr)
    rw [Bool.and_eq_true] at h2
    exact Nat.blt_eq ▸ h2.1
  have hps : ∀ i, i < ops.size → ps i = [] ∨ rs.contains i = true ∨ ws.contains i = true := by
    intro i hi
    obtain ⟨o, _, _, h | h | h | h⟩ := hg i hi
    · exact .inl h.2.1
    · exact .inr (.inl h.2.1)
    · exact .inl h.2.1
    · exact .inr (.inr h.1)
  have hBs : ∀ v i, ws.contains v = true → v ≤ i → i < ops.size → ws.contains i = false → B (i + 1) = B i := by
    intro v i hv hvi hi hw
    obtain ⟨o, _, _, h | h | h | h⟩ := hg i hi
    · exact h.2.2.1
    · have := hrlt v i hv h.2.1; omega
    · rw [hw] at h; cases h.1
    · rw [hw] at h; cases h.1
  have hB0 : ∀ i, i ≤ ops.size → (∀ v, ws.contains v = true → i ≤ v) → B i = HH ps s.H i := by
    intro i
    induction i with
    | zero => intro _ _; exact hT.b0
    | succ i ih =>
      intro hi hv
      have e := ih (by omega) (fun v h => by have := hv v h; omega)
      obtain ⟨o, _, _, h | h | h | h⟩ := hg i (by omega)
      · rw [h.2.2.1, e]; simp only [HH]; rw [h.2.1]; rfl
      · rw [h.2.2.1, e]; rfl
      · have := hv i h.1; omega
      · have := hv i h.1; omega
  have flatV : ∀ v d a, ws.contains v = true → v < a → a + d ≤ ops.size → (∀ i, a ≤ i → i < a + d → ws.contains i = false) → B (a + d) = B a := by
    intro v d a hv hva
    induction d with
    | zero => intro _ _; rfl
    | succ d ih =>
      intro h hw
      rw [show a + (d + 1) = (a + d) + 1 from by omega, hBs v (a + d) hv (by omega) (by omega) (hw _ (by omega) (by omega))]
      exact ih (by omega) (fun i h1 h2 => hw i h1 (by omega))
  intro fuel
  induction fuel with
  | zero =>
    intro listed cur a w C hls hleft hI
    have hall : ∀ i, i < ops.size → listed.getD i false = true := by
      intro i hi
      cases hb : listed.getD i false with
      | true => rfl
      | false => have := left_set hi hls hb; omega
    refine ⟨?_, ?_⟩
    · rw [List.eq_nil_iff_forall_not_mem]
      intro j hj
      obtain ⟨h3, o, h4, _⟩ := mem_ready.1 hj
      have hlt : j < ops.size := (Array.getElem?_eq_some_iff.1 h4).1
      have := hall j hlt
      simp [hls, hlt] at h3 this
      rw [h3] at this; cases this
    · have hcw := (hI.lw w1 hw1 (hwsz w1 hw1)).1 (hall w1 (hwsz w1 hw1))
      have hB : B ops.size = B cur := by
        have := flatV w1 (ops.size - cur) cur hw1 hcw (by have := hI.lc; omega) (fun i h1 h2 => by
          cases hw : ws.contains i with
          | false => rfl
          | true => have := (hI.lw i hw (hwsz i hw)).1 (hall i (hwsz i hw)); omega)
        rwa [show cur + (ops.size - cur) = ops.size from by have := hI.lc; omega] at this
      have hH : hpF ops.size ps s.H B listed cur = B ops.size := by unfold hpF; rw [if_neg (by omega), hB]
      refine ⟨nofun, C, _, hK, ⟨by rw [← hH]; exact hI.wr, ?_, hI.df, hI.du, hI.sz⟩, by rw [← hH]; exact hI.ext⟩
      intro t x hx
      rcases TT_look ops.size hx with ⟨j, h1, h2, rfl⟩ | ⟨h1, h2⟩
      · exact hI.sl1 j t h1 (hall j h1) h2
      · exact hI.sl0 t x h1 (fun j hj _ => h2 j hj)
  | succ fuel ih =>
    intro listed cur a w C hls hleft hI
    refine ⟨fun hnil => ?_, fun i hi => ?_⟩
    · exfalso
      obtain ⟨i, h1, h2, h3⟩ := left_pos (ops := ops) (listed := listed) (by omega)
      have : i ∈ Region.ready .any ops listed := by
        rw [mem_ready]
        refine ⟨?_, ops[i], Array.getElem?_eq_getElem h1, ?_⟩
        · simp [hls, h1] at h2 ⊢; exact h2
        · intro e he hbd
          have := List.all_eq_true.1 hE i (List.mem_range.2 h1)
          rw [Array.getElem?_eq_getElem h1] at this
          have h5 := Array.all_eq_true_iff_forall_mem.1 this e he
          rw [hbd, Bool.not_true, Bool.false_or, Nat.blt_eq] at h5
          exact h3 e.on h5
      rw [hnil] at this; cases this
    · obtain ⟨h3, o, ho, hdeps⟩ := mem_ready.1 hi
      have hlt : i < ops.size := (Array.getElem?_eq_some_iff.1 ho).1
      have hunl : listed.getD i false = false := by simp [hls, hlt] at h3 ⊢; exact h3
      obtain ⟨o', ho', hd, hgood⟩ := hg i hlt
      rw [ho] at ho'; cases ho'
      have hanc : ∀ j, anc ops i i j = true → listed.getD j false = true := fun j hj => anc_listed hI.dn i i j o ho hdeps hj
      have hLi := List.all_eq_true.1 hL i (List.mem_range.2 hlt)
      simp only [ho] at hLi
      have hlook : ∀ t x, t ∈ o.looksAt ops → lk (TT ops ys s.T i) t = some x → ∃ v, a.tmps[t]? = some v ∧ VR C x v := by
        intro t x htl' hx
        have h5 := List.all_eq_true.1 hLi t htl'
        have h6 : ∀ j, j < ops.size → (ops[j]?).bind (·.dst) = some t → (j < i ∧ listed.getD j false = true) ∨ (i < j ∧ listed.getD j false = false) := by
          intro j hj hjt
          have h7 := List.all_eq_true.1 h5 j (List.mem_range.2 hj)
          rw [hjt] at h7
          simp only [beq_self_eq_true, Bool.not_true, Bool.false_or, Bool.or_eq_true, Bool.and_eq_true, Nat.blt_eq] at h7
          rcases h7 with h7 | h7
          · exact .inl ⟨h7.1, hanc j (hcert i hlt j h7.1 h7.2)⟩
          · refine .inr ⟨h7.1, ?_⟩
            cases hlj : listed.getD j false with
            | false => rfl
            | true =>
              have := anc_listed hI.dn j j i _ (Array.getElem?_eq_getElem hj) (fun e he hb => hI.dn j _ (Array.getElem?_eq_getElem hj) hlj e he hb) (hcert j hj i h7.1 h7.2)
              rw [hunl] at this; cases this
        rcases TT_look i hx with ⟨j, h7, h8, rfl⟩ | ⟨h7, h8⟩
        · exact hI.sl1 j t (by omega) ((h6 j (by omega) h8).resolve_right (fun h => by omega)).2 h8
        · refine hI.sl0 t x h7 (fun j hj hlj hjt => ?_)
          rcases h6 j hj hjt with ⟨h9, _⟩ | ⟨_, h9⟩
          · exact h8 j h9 hjt
          · rw [h9] at hlj; cases hlj
      have hwant : ∀ b, Wanted ops (TT ops ys s.T i) o b → Region.wanted o (yielded ops a.tmps) = b := by
        intro b hb
        rcases hb with ⟨h, rfl⟩ | ⟨g, c, d, og, t, h1, h2, h4, ⟨h5, h6⟩ | ⟨h5, rfl⟩⟩
        · simp [Region.wanted, h]
        · obtain ⟨v, h7, h8⟩ := hlook t _ (looks_guard h1 h2 h4) h5
          have := VR.val h8
          subst this
          have hy : yielded ops a.tmps g = some d := by
            have hb : (ops[g]?.bind fun x => x.dst) = some t := by rw [h2]; exact h4
            have hb2 : ((ops[g]?.bind fun x => x.dst).bind fun x => a.tmps[x]?) = some (.bool d) := by rw [hb]; exact h7
            unfold yielded
            rw [hb2]
          rw [← h6]
          cases d <;> cases c <;> simp [Region.wanted, h1, hy]
        · obtain ⟨v, h7, h8⟩ := hlook t _ (looks_guard h1 h2 h4) h5
          have := VR.val h8
          subst this
          have hy : yielded ops a.tmps g = none := by
            have hb : (ops[g]?.bind fun x => x.dst) = some t := by rw [h2]; exact h4
            have hb2 : ((ops[g]?.bind fun x => x.dst).bind fun x => a.tmps[x]?) = some undef := by rw [hb]; exact h7
            unfold yielded
            rw [hb2]
            rfl
          simp [Region.wanted, h1, hy]
      have hdst : ∀ j t, j < ops.size → j ≠ i → o.dst = some t → (ops[j]?).bind (·.dst) ≠ some t := by
        intro j t hj hne hot hjt
        have hbi : (ops[i]?).bind (·.dst) = some t := by rw [ho]; exact hot
        rcases Nat.lt_or_ge j i with h | h
        · have h5 := List.all_eq_true.1 (List.all_eq_true.1 hD i (List.mem_range.2 hlt)) j (List.mem_range.2 h)
          rw [hbi, hjt] at h5; simp at h5
        · have h5 := List.all_eq_true.1 (List.all_eq_true.1 hD j (List.mem_range.2 hj)) i (List.mem_range.2 (by omega))
          rw [hbi, hjt] at h5; simp at h5
      have hset : ∀ j, (listed.setIfInBounds i true).getD j false = if j = i then true else listed.getD j false := by
        intro j
        by_cases e : j = i
        · subst e; have : j < listed.size := by omega
          simp [this]
        · rw [if_neg e, getD_set_ne _ (Ne.symm e)]
      have hops : ∀ p, p ∈ o.op.operands → ∀ y, ev (TT ops ys s.T i) p = some y → VR C y (a.eval p) := by
        intro p hp y hy
        cases p with
        | tmp t =>
          obtain ⟨v, h5, h6⟩ := hlook t y (looks_tmp hp) hy
          have e : a.eval (.tmp t) = v := by simp [Act.eval, h5]
          rw [e]; exact h6
        | const c => cases hy; exact .v c
        | func f => cases hy; exact .fn _ [] #[] rfl (by intro i c x h; simp at h)
        | global g => cases hy
      -- behind it
      have next : ∀ (cur' : Nat) (Hx : AHeap) (v : Value) (w1 : World) (C1 : Ctx), VR C1 (ys i) v → Hx.Perm (hpF ops.size ps s.H B (listed.setIfInBounds i true) cur') → WR C1 Hx w1 →
          Ext (Z ++ (List.range ops.size).flatMap (fun j => if j = i then [] else (ps j).map Prod.fst)) C (hpF ops.size ps s.H B listed cur) w C1 Hx w1 → cur' ≤ ops.size →
          (∀ u, ws.contains u = true → u < ops.size → ((listed.setIfInBounds i true).getD u false = true ↔ u < cur')) → (cur' = 0 ∨ ∃ v, ws.contains v = true ∧ v < cur') →
          wpAnyIn (Wd ro) 0 P .any ops (Post Z C0 H0 w0 Q) fuel (listed.setIfInBounds i true) (a.put o.dst v) w1 := by
        intro cur' Hx v w1 C1 hv hpm hw1 he1 hcs hlw hlz
        refine ih _ cur' _ _ C1 (by simpa using hls) (by have := left_set hlt hls hunl; omega) ?_
        refine ⟨hw1.perm hpm, ?_, ?_, ?_, fun j hj => he1.le.U j (hI.du j hj), ?_, ?_, (hI.ext.trans (he1.subZ (fun z hz => List.mem_append_left _ hz))).permR hpm, ?_, hlw, hcs, hlz⟩
        · intro t x hx hno
          obtain ⟨u, h5, h6⟩ := hI.sl0 t x hx (fun j hj hlj => hno j hj (by rw [hset]; split; rfl; exact hlj))
          refine ⟨u, ?_, h6.mono he1.le⟩
          cases hod : o.dst with
          | none => exact h5
          | some d =>
            have hne : d ≠ t := by
              rintro rfl
              exact hno i hlt (by rw [hset, if_pos rfl]) (by rw [ho]; exact hod)
            simpa [Act.put, Array.getElem?_setIfInBounds_ne hne] using h5
        · intro j t hj hlj hjt
          by_cases e : j = i
          · subst e
            have hod : o.dst = some t := by rw [ho] at hjt; exact hjt
            refine ⟨v, ?_, hv⟩
            have := dok_spec hd t hod
            rw [← hI.sz] at this
            simp [Act.put, hod, this]
          · rw [hset, if_neg e] at hlj
            obtain ⟨u, h5, h6⟩ := hI.sl1 j t hj hlj hjt
            refine ⟨u, ?_, h6.mono he1.le⟩
            cases hod : o.dst with
            | none => exact h5
            | some d =>
              have hne : d ≠ t := by
                rintro rfl
                exact hdst j d hj e hod hjt
              simpa [Act.put, Array.getElem?_setIfInBounds_ne hne] using h5
        · have e1 : (a.put o.dst v).defers = a.defers := by cases o.dst <;> rfl
          rw [e1, hI.df]
          exact List.map_congr_left fun j hj => by simp [mark, he1.le.m j (hI.du j hj)]
        · have e1 : (a.put o.dst v).tmps.size = a.tmps.size := by cases o.dst <;> simp [Act.put]
          rw [e1]; exact hI.sz
        · intro j p hj hlj hp
          by_cases e : j = i
          · rw [hset, if_pos e] at hlj; cases hlj
          · rw [hset, if_neg e] at hlj
            refine he1.av p.1 (List.mem_append_right _ (List.mem_flatMap.2 ⟨j, List.mem_range.2 hj, ?_⟩)) (hI.av j p hj hlj hp)
            rw [if_neg e]; exact List.mem_map.2 ⟨p, hp, rfl⟩
        · intro j o2 ho2 hlj e he hb
          rw [hset]
          split
          · rfl
          · by_cases e2 : j = i
            · subst e2; rw [ho] at ho2; cases ho2; exact hdeps e he hb
            · rw [hset, if_neg e2] at hlj; exact hI.dn j o2 ho2 hlj e he hb
      have hlw0 : ws.contains i = false → ∀ u, ws.contains u = true → u < ops.size → ((listed.setIfInBounds i true).getD u false = true ↔ u < cur) := by
        intro hw u hu hus
        have : u ≠ i := fun e => by rw [e, hw] at hu; cases hu
        rw [hset, if_neg this]; exact hI.lw u hu hus
      have hflat : ((List.range ops.size).flatMap (fun j => if (listed.setIfInBounds i true).getD j false = true then ps j else []) ++ s.H).Perm
          (ps i ++ ((List.range ops.size).flatMap (fun j => if listed.getD j false = true then ps j else []) ++ s.H)) := by
        rw [← List.append_assoc]
        refine List.Perm.append_right _ ?_
        have := flat_set ops.size i (fun j => if listed.getD j false = true then ps j else []) (fun j => if (listed.setIfInBounds i true).getD j false = true then ps j else []) hlt (by simp only [hunl]; rfl)
          (fun j hj => by simp only [hset, if_neg hj])
        simp only [hset, if_true] at this ⊢
        exact this
      -- where it lays nothing, what has been laid stays
      have hsame : ps i = [] → (hpF ops.size ps s.H B listed cur).Perm (hpF ops.size ps s.H B (listed.setIfInBounds i true) cur) := by
        intro h
        unfold hpF
        split
        · rw [h] at hflat; exact hflat.symm
        · exact .refl _
      -- what comes ahead of the writes comes ahead of them
      have hearly : rs.contains i = true → cur = 0 := by
        intro hr
        rcases hI.lz with h | ⟨v, hv, hvc⟩
        · exact h
        · have hvs := hwsz v hv
          have hlv := (hI.lw v hv hvs).2 hvc
          have := anc_listed hI.dn v v i _ (Array.getElem?_eq_getElem hvs) (fun e he hb => hI.dn v _ (Array.getElem?_eq_getElem hvs) hlv e he hb) (hrw v i hv hr)
          rw [hunl] at this; cases this
      unfold wpOpIn
      simp only [ho]
      have hwr : ws.contains i = true → cur ≤ i ∧ (hpF ops.size ps s.H B listed cur).Perm (B i) ∧ (∀ u, ws.contains u = true → u < ops.size → ((listed.setIfInBounds i true).getD u false = true ↔ u < i + 1)) := by
        intro hwi
        have hge : cur ≤ i := Nat.le_of_not_lt fun h => by
          have := (hI.lw i hwi hlt).2 h
          rw [hunl] at this; cases this
        -- the heap as the text tells it
        have hBi : (hpF ops.size ps s.H B listed cur).Perm (B i) := by
          unfold hpF
          split
          · rename_i hc
            have hno : ∀ v, ws.contains v = true → i ≤ v := by
              intro v hv
              refine Nat.le_of_not_lt fun hlt' => ?_
              have := hanc v (hww i v hwi hv hlt')
              have := (hI.lw v hv (hwsz v hv)).1 this
              omega
            rw [hB0 i (by omega) hno]
            refine List.Perm.trans (List.Perm.append_right _ ?_) (HH_flat ps s.H i).symm
            have e : List.range ops.size = List.range i ++ List.range' i (ops.size - i) := by
              have e3 := List.range'_append_1 (s := 0) (m := i) (n := ops.size - i)
              rw [Nat.zero_add, show i + (ops.size - i) = ops.size from by omega] at e3
              rw [List.range_eq_range', List.range_eq_range', e3]
            rw [e, List.flatMap_append]
            have e1 : ∀ l : List Nat, (∀ j, j ∈ l → j < i) → l.flatMap (fun j => if listed.getD j false = true then ps j else []) = l.flatMap ps := by
              intro l
              induction l with
              | nil => intro _; rfl
              | cons x l ih2 =>
                intro h
                simp only [List.flatMap_cons]
                rw [ih2 (fun j hj => h j (List.mem_cons_of_mem _ hj))]
                have hxi := h x List.mem_cons_self
                rcases hps x (by omega) with hp | hp | hp
                · rw [hp]; simp
                · rw [if_pos (hanc x (hrw i x hwi hp))]
                · have := hno x hp; omega
            have e2 : (List.range' i (ops.size - i)).flatMap (fun j => if listed.getD j false = true then ps j else []) = [] := by
              rw [List.flatMap_eq_nil_iff]
              intro j hj
              have hj2 := List.mem_range'_1.1 hj
              rcases hps j (by omega) with hp | hp | hp
              · rw [hp]; simp
              · have := hrlt i j hwi hp; omega
              · rw [if_neg]
                intro hl
                have := (hI.lw j hp (hwsz j hp)).1 hl
                omega
            rw [e1 _ (fun j hj => List.mem_range.1 hj), e2, List.append_nil]
          · rename_i hc
            obtain ⟨v, hv, hvc⟩ := hI.lz.resolve_left hc
            have := flatV v (i - cur) cur hv hvc (by omega) (fun j h1 h2 => by
              cases hwj : ws.contains j with
              | false => rfl
              | true =>
                have := hanc j (hww i j hwi hwj (by omega))
                have := (hI.lw j hwj (hwsz j hwj)).1 this
                omega)
            rw [show cur + (i - cur) = i from by omega] at this
            rw [this]
        refine ⟨hge, hBi, ?_⟩
        intro u hu hus
        rw [hset]
        by_cases e : u = i
        · subst e; simp
        · rw [if_neg e]
          constructor
          · intro h; have := (hI.lw u hu hus).1 h; omega
          · intro h; exact hanc u (hww i u hwi hu (by omega))
      rcases hgood with ⟨hwi, hpi, hBi, ⟨hw, hx⟩ | ⟨hw, Hn, heff, hHn, hrd⟩⟩ | ⟨hwi, hri, hBi, hw, heff⟩ | ⟨hwi, hpi, hw, hx, heff⟩ | ⟨hwi, hw, id, hpi, heff⟩
      · rw [hwant false hw]
        simp only [Bool.false_eq_true, if_false]
        exact ⟨fun _ _ => trivial, next cur _ undef w C (by rw [hx]; exact .v undef) (hsame hpi) hI.wr (.refl ..) hI.lc (hlw0 hwi) hI.lz⟩
      · rw [hwant true hw]
        simp only [if_true]
        refine ⟨fun _ _ => trivial, ?_⟩
        refine heff (Z ++ (List.range ops.size).flatMap (fun j => if j = i then [] else (ps j).map Prod.fst)) C _ a w hI.wr ?_ hops nofun List.nodup_nil (fun _ _ => by simp) ro _ _ (fun v w1 C1 hv hw1 he1 => next cur _ v w1 C1 hv (hsame hpi) hw1 he1 hI.lc (hlw0 hwi) hI.lz)
        intro p hp
        have h0 : cur = 0 → p ∈ hpF ops.size ps s.H B listed cur := by
          intro hc
          unfold hpF
          rw [if_pos hc]
          rcases hHn p hp with h5 | ⟨j, h5, h6, h7⟩
          · exact List.mem_append_right _ h5
          · refine List.mem_append_left _ (List.mem_flatMap.2 ⟨j, List.mem_range.2 (by omega), ?_⟩)
            rw [if_pos (hanc j h7)]; exact h6
        rcases hrd with h | h | h
        · subst h; cases hp
        · exact h0 (hearly h)
        · by_cases hc : cur = 0
          · exact h0 hc
          · unfold hpF
            rw [if_neg hc]
            exact hT.s p (h p hp) cur (hI.lz.resolve_left hc) hI.lc
      · rw [hwant true hw]
        simp only [if_true]
        refine ⟨fun _ _ => trivial, ?_⟩
        have hc := hearly hri
        refine heff (Z ++ (List.range ops.size).flatMap (fun j => if j = i then [] else (ps j).map Prod.fst)) C _ a w hI.wr nofun hops ?_ (hT.nd i hlt) ?_ ro _ _ (fun v w1 C1 hv hw1 he1 => next cur _ v w1 C1 hv ?_ hw1 he1 hI.lc (hlw0 hwi) hI.lz)
        · intro p hp; exact hI.av i p hlt hunl hp
        · intro z hz hm
          obtain ⟨p, hp, rfl⟩ := List.mem_map.1 hm
          rcases List.mem_append.1 hz with hz | hz
          · exact hT.fr i p hlt hp hz
          · obtain ⟨j, hj, h5⟩ := List.mem_flatMap.1 hz
            split at h5
            · cases h5
            · rename_i hne
              obtain ⟨q, hq, h6⟩ := List.mem_map.1 h5
              exact hne (hT.di j i q p (List.mem_range.1 hj) hlt hq hp h6)
        · unfold hpF
          rw [if_pos hc, if_pos hc]
          exact hflat.symm
      · rw [hwant true hw]
        simp only [if_true]
        refine ⟨fun _ _ => trivial, ?_⟩
        obtain ⟨hge, hBi, hlw'⟩ := hwr hwi
        refine heff (Z ++ (List.range ops.size).flatMap (fun j => if j = i then [] else (ps j).map Prod.fst)) C a w (hI.wr.perm hBi) hops ro _ _ (fun v w1 C1 hv hw1 he1 => next (i + 1) _ v w1 C1 (by rw [hx]; exact hv) ?_ hw1 (he1.permL hBi.symm) (by omega) hlw' (.inr ⟨i, hwi, by omega⟩))
        unfold hpF
        rw [if_neg (by omega)]
      · rw [hwant true hw]
        simp only [if_true]
        refine ⟨fun _ _ => trivial, ?_⟩
        obtain ⟨hge, hBi, hlw'⟩ := hwr hwi
        have hpm : (id, AObj.rows 0 0 []) ∈ ps i := by rw [hpi]; exact List.mem_cons_self
        refine heff (Z ++ (List.range ops.size).flatMap (fun j => if j = i then [] else (ps j).map Prod.fst)) C a w (hI.wr.perm hBi) hops (hI.av i _ hlt hunl hpm) ?_ ro _ _ (fun v w1 C1 hv hw1 he1 => next (i + 1) _ v w1 C1 hv ?_ hw1 (he1.permL hBi.symm) (by omega) hlw' (.inr ⟨i, hwi, by omega⟩))
        · intro hz
          rcases List.mem_append.1 hz with hz | hz
          · exact hT.fr i _ hlt hpm hz
          · obtain ⟨j, hj, h5⟩ := List.mem_flatMap.1 hz
            split at h5
            · cases h5
            · rename_i hne
              obtain ⟨q, hq, h6⟩ := List.mem_map.1 h5
              exact hne (hT.di j i q _ (List.mem_range.1 hj) hlt hq hpm h6)
        · unfold hpF
          rw [if_neg (by omega)]

/-- **A region whose order is drawn**, with new things and writes in it. -/
theorem awp_drawV {P : Program} {ro : Option Nat} {Q : Exit → St → Prop} {s : St} {id : Nat} {l : List Oper} (ms ws rs : List Nat) (hm : P.follows .mixedOrders = true) (ht : tidyV l.toArray ms ws rs = true)
    (h : VCalm P l.toArray s.H ws rs (Q .normal) 0 l [] [] s) : AWp P ro (.region id l.toArray true) Q s := by
  intro Z C0 H0 w0 C a w he hs
  refine wpIn_region_any hm ?_
  obtain ⟨ys, ps, B, S, h1, h2⟩ := h.tell (T0 := s.T) (D := s.D) (n := s.n) (C.U ++ Z) (fun _ => .v undef) (fun _ => []) (fun _ => s.H) ⟨rfl, fun i hi => absurd hi (Nat.not_lt_zero _), fun i p hi => absurd hi (Nat.not_lt_zero _), fun i j p q hi => absurd hi (Nat.not_lt_zero _), fun i hi => absurd hi (Nat.not_lt_zero _), nofun⟩ (by simp) rfl nofun nofun
  simp only [Nat.zero_add] at h1 h2
  have hw1 : WR C s.H { w with drawn := w.drawn + 1 } := ⟨hs.wr.hp, hs.wr.nd, fun i o hi => ⟨(hs.wr.ids i o hi).1, (hs.wr.ids i o hi).2.keep (.refl C) (hs.wr.ids i o hi).1 (fun _ _ _ => rfl)⟩, hs.wr.inj, hs.wr.dis⟩
  have he1 : Ext Z C0 H0 w0 C s.H { w with drawn := w.drawn + 1 } := ⟨he.le, he.av, he.os, he.tape, he.output, he.size, he.fr, he.nhp, he.nbl, he.nid⟩
  have hf : ∀ i, (Array.replicate l.toArray.size false).getD i false = false := by
    intro i
    rw [Array.getD_eq_getD_getElem?, Array.getElem?_replicate]
    split <;> rfl
  have hH : hpF l.toArray.size ps s.H B (Array.replicate l.toArray.size false) 0 = s.H := by
    unfold hpF
    rw [if_pos rfl]
    have : (List.range l.toArray.size).flatMap (fun j => if (Array.replicate l.toArray.size false).getD j false = true then ps j else []) = [] := by
      rw [List.flatMap_eq_nil_iff]
      intro j hj
      rw [hf, if_neg (by simp)]
    rw [this]; rfl
  have hT : ToldV P l.toArray s.n ws rs s.T s.H Z l.toArray.size S ys ps B := by
    have e : l.length = l.toArray.size := by simp
    rw [← e]
    exact ⟨h1.b0, h1.g, fun i p hi hp hz => h1.fr i p hi hp (List.mem_append_right _ hz), h1.di, h1.nd, h1.s⟩
  refine phaseV (ys := ys) (ps := ps) (B := B) (S := S) (s := s) (cur := 0) ht (by simpa using h2) hT l.toArray.size _ _ _ C (by simp) ?_ ?_
  · unfold left
    rw [List.filter_eq_self.2 (fun i _ => by rw [hf]; rfl), List.length_range]
  · refine ⟨by rw [hH]; exact hw1, fun t x hx _ => hs.sl t x hx, fun j t _ hj => (by rw [hf] at hj; cases hj), hs.df, hs.du, hs.sz, fun j p hj _ hp hu => ?_, by rw [hH]; exact he1, fun i o _ hi => (by rw [hf] at hi; cases hi), fun v _ _ => by rw [hf]; simp, Nat.zero_le _, .inl rfl⟩
    have e : l.length = l.toArray.size := by simp
    exact h1.fr j p (by omega) hp (List.mem_append_left _ hu)

/-! ### Its steps, by the shapes in which they are met -/
section
variable {P : Program} {ops : Array Oper} {o : Oper} {rest : List Oper} {H0 : AHeap} {ws rs : List Nat} {K : St → Prop} {k : Nat} {M : List (Nat × (Nat × AObj))} {S : AHeap} {s : St}
theorem vcalm_e {x : AV} (hw : Wanted ops s.T o true) (hd : dok o.dst s.n = true) (he : Eff P o s.T [] x []) (hk : ws.contains k = false) (h : VCalm P ops H0 ws rs K (k + 1) rest M S { s with T := put s.T o.dst x }) : VCalm P ops H0 ws rs K k (o :: rest) M S s :=
  .eff [] x hw hd he hk nofun (.inl rfl) h
theorem vcalm_n {x : Nat → AV} {ob : Nat → AObj} (hw : Wanted ops s.T o true) (hd : dok o.dst s.n = true) (he : ∀ id, Eff P o s.T [] (x id) [(id, ob id)]) (hk : rs.contains k = true) (hk2 : ws.contains k = false)
    (h : ∀ id, VCalm P ops H0 ws rs K (k + 1) rest ((k, (id, ob id)) :: M) S { s with T := put s.T o.dst (x id), H := (id, ob id) :: s.H }) : VCalm P ops H0 ws rs K k (o :: rest) M S s := .eff1 x ob hw hd he hk hk2 h
/-- A look at a thing that was there: j its place now, i its place ahead of the region. -/
theorem vcalm_load_ptr {t : TypeId} {p : Operand} {id sz i c el : Nat} {es : List (List AV)} {e : List AV} {x : AV} (j : Nat) (hw : Wanted ops s.T o true) (hd : dok o.dst s.n = true)
    (ho : o.op = .load t p) (hp : ev s.T p = some (.ptr id sz i c)) (hH : H0[j]? = some (id, .rows el sz es)) (he : es[i]? = some e) (hl : Ld P t (e.drop c) x) (hr : rs.contains k = true) (hk : ws.contains k = false)
    (h : VCalm P ops H0 ws rs K (k + 1) rest M S { s with T := put s.T o.dst x }) : VCalm P ops H0 ws rs K k (o :: rest) M S s :=
  .eff [(id, .rows el sz es)] x hw hd (eff_load ho hp ⟨el, es, e, List.mem_cons_self, he, rfl⟩ hl) hk (fun p hp => by rw [List.mem_singleton.1 hp]; exact .inl (List.mem_of_getElem? hH)) (.inr (.inl hr)) h
/-- All of some lie in a heap, by their places. -/
def inH (H : AHeap) : AHeap → List Nat → Prop
  | [], _ => True
  | p :: S, j :: js => H[j]? = some p ∧ inH H S js
  | _ :: _, [] => False
theorem inH_mem {H : AHeap} : ∀ {S : AHeap} {js : List Nat}, inH H S js → ∀ p, p ∈ S → p ∈ H
  | [], _, _, p, hp => nomatch hp
  | q :: S, j :: js, h, p, hp => by
    rcases List.mem_cons.1 hp with rfl | hp
    · exact List.mem_of_getElem? h.1
    · exact inH_mem h.2 p hp
  | _ :: _, [], h, _, _ => h.elim
theorem vcalm_store {t n id sz i c el : Nat} {b : Bool} {p q : Operand} {es : List (List AV)} {e : List AV} {x : AV} (j : Nat) (js : List Nat) [kt : TK P t b n] (hw : Wanted ops s.T o true) (hd : dok o.dst s.n = true)
    (ho : o.op = .store t p q) (hp : ev s.T p = some (.ptr id sz i c)) (hH : s.H[j]? = some (id, .rows el sz es)) (he : es[i]? = some e) (hq : ev s.T q = some x)
    (hx : (cellsA x).length = n) (h1 : (cellsA x).all one = true) (hc : Nat.ble (c + n) sz = true) (hk : ws.contains k = true)
    (hS : inH (s.H.set j (id, .rows el sz (es.set i (e.take c ++ cellsA x ++ e.drop (c + (cellsA x).length))))) S js)
    (h : VCalm P ops H0 ws rs K (k + 1) rest M S { s with T := put s.T o.dst (.v undef), H := s.H.set j (id, .rows el sz (es.set i (e.take c ++ cellsA x ++ e.drop (c + (cellsA x).length)))) }) : VCalm P ops H0 ws rs K k (o :: rest) M S s :=
  .write _ hw hd (effW_store j ho hp hH he hq hx h1 hc) hk (inH_mem hS) h
theorem vcalm_append {t e size bytes id : Nat} {p q : Operand} {y : AV} {xs ys : List (List AV)} {n : Nat} (j : Nat) (js : List Nat) [hu : UD P t (.slice e)] [ha : AP P e size bytes] (hw : Wanted ops s.T o true) (hd : dok o.dst s.n = true)
    (ho : o.op = .call { callee := .builtin .append, args := #[p, q], argTypes := #[t, t] }) (hp : ev s.T p = some (.own id size 0 n)) (hH : s.H[j]? = some (id, .rows e size xs)) (hn : n = xs.length) (hq : ev s.T q = some y) (hy : SlA s.H size y ys)
    (hml : (xs.length + ys.length) * bytes ≤ 140737488355328) (hm : xs.length + ys.length ≤ maxLen) (hk : ws.contains k = true) (hS : ∀ id', inH (s.H.set j (id', .rows e size (xs ++ ys))) S js)
    (h : ∀ id', VCalm P ops H0 ws rs K (k + 1) rest M S { s with T := put s.T o.dst (.own id' size 0 (xs.length + ys.length)), H := s.H.set j (id', .rows e size (xs ++ ys)) }) : VCalm P ops H0 ws rs K k (o :: rest) M S s := by
  subst hn
  refine .app (fun id' => .own id' size 0 (xs.length + ys.length)) (fun id' => s.H.set j (id', .rows e size (xs ++ ys))) hw hd ?_ hk (fun id' => inH_mem (hS id')) h
  intro id' Z C a w hs hops hid hidz ro next R hnext
  have hmp : p ∈ o.op.operands := by rw [ho]; simp [Op.operands, Call.operands]
  have hmq : q ∈ o.op.operands := by rw [ho]; simp [Op.operands, Call.operands]
  obtain ⟨v', w', C', h1, h2, h3, h4⟩ := append_run (P := P) (ty := o.type) (t := t) hs hH (hops p hmp _ hp) (hops q hmq _ hq) hy hml hm hid hidz
  have hr : (o.semAt ro a.eval).run P w = .ok (.value v') w' := by
    rw [Oper.semAt_eq _ _ _ (by intro c; rw [ho]; nofun)]
    simp [execOp, ho, resolve, invoke, builtin, h1, Result.andThen, Sem.run_bind]
  rw [hr]
  exact hnext v' w' C' h2 h3 h4
end
end Go.Sx
