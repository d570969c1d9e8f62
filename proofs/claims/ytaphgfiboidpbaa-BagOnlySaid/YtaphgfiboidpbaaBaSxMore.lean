/- Guards as values; what is owned given up for good, or lent to a call; returns. -/
import Derived.Test.YtaphgfiboidpbaaBaSxRange
set_option linter.unusedSimpArgs false
set_option linter.unusedVariables false
namespace Go.Sx
open Go

theorem andL {a b : Bool} (h : (a && b) = true) : a = true := by cases a <;> simp_all
theorem andR {a b : Bool} (h : (a && b) = true) : b = true := by cases a <;> simp_all
theorem notT {a : Bool} (h : (!a) = true) : a = false := by cases a <;> simp_all

section
variable {P : Program} {ro : Option Nat} {Q : Exit → St → Prop} {s : St} {ops : Array Oper} {o : Oper} {rest : List Oper} {T : List (Nat × AV)}

/-! ### Guards -/

theorem w0 (h : o.guard = none) : Wanted ops T o true := .inl ⟨h, rfl⟩
theorem wT {g t : Nat} {d : Bool} {og : Oper} (h : o.guard = some (g, true)) (h1 : ops[g]? = some og) (h2 : og.dst = some t) (h3 : lk T t = some (.v (.bool d))) : Wanted ops T o d :=
  .inr ⟨g, true, d, og, t, h, h1, h2, .inl ⟨h3, by cases d <;> rfl⟩⟩
theorem wF {g t : Nat} {d : Bool} {og : Oper} (h : o.guard = some (g, false)) (h1 : ops[g]? = some og) (h2 : og.dst = some t) (h3 : lk T t = some (.v (.bool d))) : Wanted ops T o (!d) :=
  .inr ⟨g, false, d, og, t, h, h1, h2, .inl ⟨h3, by cases d <;> rfl⟩⟩
theorem wFg {g t : Nat} {e d : Bool} {og : Oper} (h : o.guard = some (g, false)) (h1 : ops[g]? = some og) (h2 : og.dst = some t) (h3 : lk T t = some (cond e (.v (.bool d)) (.v undef))) : Wanted ops T o (e && !d) := by
  cases e
  · exact .inr ⟨g, false, d, og, t, h, h1, h2, .inr ⟨h3, rfl⟩⟩
  · exact wF h h1 h2 h3

theorem ev_g {e : Bool} {p : Operand} {x y : AV} (hg : e = true) (h : ev T p = some (cond e x y)) : ev T p = some x := by subst hg; exact h
theorem evs_nil : evs T [] = some [] := rfl
theorem evs_cons {p : Operand} {ps : List Operand} {x : AV} {xs : List AV} (h : ev T p = some x) (hs : evs T ps = some xs) : evs T (p :: ps) = some (x :: xs) := by simp [evs, h, hs]

theorem aops_g {x : AV} {e : Bool} (hw : Wanted ops s.T o e) (hd : dok o.dst s.n = true) (he : e = true → Eff P o s.T [] x [])
    (h : AOps P ro ops rest Q { s with T := put s.T o.dst (cond e x (.v undef)) }) : AOps P ro ops (o :: rest) Q s := by
  cases e
  · exact aops_off hw hd h
  · exact aops_eff [] x hw hd (he rfl) nofun h
theorem aops_gload {x : AV} {e : Bool} {t : TypeId} {p : Operand} {id sz i c el : Nat} {es : List (List AV)} {r : List AV} (k : Nat) (hw : Wanted ops s.T o e) (hd : dok o.dst s.n = true)
    (ho : o.op = .load t p) (hp : e = true → ev s.T p = some (.ptr id sz i c)) (hH : s.H[k]? = some (id, .rows el sz es)) (he : es[i]? = some r) (hl : Ld P t (r.drop c) x)
    (h : AOps P ro ops rest Q { s with T := put s.T o.dst (cond e x (.v undef)) }) : AOps P ro ops (o :: rest) Q s := by
  cases e
  · exact aops_off hw hd h
  · exact aops_load_ptr k hw hd ho (hp rfl) hH he hl h
variable {H0 : AHeap} {K : St → Prop} {k : Nat} {M : List (Nat × (Nat × AObj))}
theorem calm_g {x : AV} {e : Bool} (hw : Wanted ops s.T o e) (hd : dok o.dst s.n = true) (he : e = true → Eff P o s.T [] x [])
    (h : Calm P ops H0 K (k + 1) rest M { s with T := put s.T o.dst (cond e x (.v undef)) }) : Calm P ops H0 K k (o :: rest) M s := by
  cases e
  · exact .off hw hd h
  · exact .eff [] x hw hd (he rfl) nofun h
theorem calm_gload {x : AV} {e : Bool} {t : TypeId} {p : Operand} {id sz i c el : Nat} {es : List (List AV)} {r : List AV} (j : Nat) (hw : Wanted ops s.T o e) (hd : dok o.dst s.n = true)
    (ho : o.op = .load t p) (hp : e = true → ev s.T p = some (.ptr id sz i c)) (hH : H0[j]? = some (id, .rows el sz es)) (he : es[i]? = some r) (hl : Ld P t (r.drop c) x)
    (h : Calm P ops H0 K (k + 1) rest M { s with T := put s.T o.dst (cond e x (.v undef)) }) : Calm P ops H0 K k (o :: rest) M s := by
  cases e
  · exact .off hw hd h
  · exact calm_load_ptr j hw hd ho (hp rfl) hH he hl h

theorem eff_loadE {t : TypeId} {p : Operand} {i c : Nat} {es : List (List AV)} {e : List AV} {x : AV} (ho : o.op = .load t p) (hp : ev T p = some (.elt es i c)) (he : es[i]? = some e) (hl : Ld P t (e.drop c) x) : Eff P o T [] x [] :=
  eff_load ho hp ⟨e, he, rfl⟩ hl

theorem eff_and {c p : Operand} {e d b : Bool} {u : AV} (ho : o.op = .pick c p (.const (.bool false))) (hc : ev T c = some (.v (.bool d))) (hp : ev T p = some (cond e (.v (.bool b)) u)) (he : d = true → e = true) :
    Eff P o T [] (.v (.bool (d && b))) [] := by
  cases d
  · have := eff_pick (P := P) ho hc hp rfl
    simpa using this
  · have h1 := he rfl
    subst h1
    have := eff_pick (P := P) ho hc hp rfl
    simpa using this
theorem eff_or {c q : Operand} {e d b : Bool} {u : AV} (ho : o.op = .pick c (.const (.bool true)) q) (hc : ev T c = some (.v (.bool d))) (hp : ev T q = some (cond e (.v (.bool b)) u)) (he : d = false → e = true) :
    Eff P o T [] (.v (.bool (d || b))) [] := by
  cases d
  · have h1 := he rfl
    subst h1
    have := eff_pick (P := P) ho hc rfl hp
    simpa using this
  · have := eff_pick (P := P) ho hc rfl hp
    simpa using this

/-! ### What is owned, given up for good -/

def Ctx.hpSet (C : Ctx) (b : Option Nat) (o : Option Obj) : Ctx := { C with hp := fun x => if some x = b then o else C.hp x }

/-- An owned row seen as a list of a world that nobody writes. -/
theorem frz {C : Ctx} {id sz el : Nat} {es : List (List AV)} {R : AHeap} {w : World} (hw : WR C ((id, .rows el sz es) :: R) w) :
    ∃ (b : Option Nat) (ob : Option Obj), (∀ N bb, C.m id = some (bb, N) → b = some bb) ∧ (∀ x, some x = b → C.hp x = none ∧ ∃ N, C.m id = some (x, N)) ∧ (∀ x, some x = b → ob = w.heap[x]?) ∧
      WR (C.hpSet b ob) R w ∧ C.Le (C.hpSet b ob) ∧ (∀ v len, len = es.length → VR C (.own id sz 0 len) v → VR (C.hpSet b ob) (.lst es) v) := by
  obtain ⟨hu, hlen, hor⟩ := hw.ids id _ List.mem_cons_self
  have hnd := hw.nd
  simp only [List.map_cons, List.nodup_cons] at hnd
  have hR : WR C R w := hw.sub (fun p hp => List.mem_cons_of_mem _ hp) hnd.2
  rcases hor with ⟨hn, rfl⟩ | ⟨b, N, cells, hm, hh, hs, hf, hrow⟩
  · have e : C.hpSet none none = C := by simp [Ctx.hpSet]
    refine ⟨none, none, (by intro N bb h; rw [hn] at h; cases h), nofun, nofun, by rw [e]; exact hR, by rw [e]; exact .refl C, ?_⟩
    intro v len hl hv
    cases hv with
    | own _ _ _ _ b N cap hid => rw [hn] at hid; cases hid
    | ownNil => exact .lstNil
  · have hb : blk C ((id, .rows el sz es) :: R) b := ⟨id, _, N, List.mem_cons_self, hm⟩
    have hno := hw.dis b hb
    have hle : C.Le (C.hpSet (some b) (some (.cells cells el (0, 0)))) := by
      refine ⟨fun x o hx => ?_, fun _ _ => rfl, fun _ h => h⟩
      simp only [Ctx.hpSet, Option.some.injEq]
      split
      · rename_i e; subst e; rw [hno] at hx; cases hx
      · exact hx
    refine ⟨some b, some (.cells cells el (0, 0)), ?_, ?_, ?_, ?_, hle, ?_⟩
    · intro N' bb h; rw [hm] at h; cases h; rfl
    · intro x hx; cases hx; exact ⟨hno, N, hm⟩
    · intro x hx; cases hx; exact hh.symm
    · refine ⟨?_, hR.nd, ?_, hR.inj, ?_⟩
      · intro x o hx
        simp only [Ctx.hpSet, Option.some.injEq] at hx
        split at hx
        · rename_i e; subst e; cases hx; exact hh
        · exact hw.hp x o hx
      · intro i o hi
        obtain ⟨h1, h2⟩ := hR.ids i o hi
        exact ⟨h1, h2.keep hle h1 (fun _ _ _ => rfl)⟩
      · rintro x ⟨i, o, N', hi, hmi⟩
        simp only [Ctx.hpSet, Option.some.injEq]
        split
        · rename_i e; subst e
          have := hw.inj id i _ o x N N' List.mem_cons_self (List.mem_cons_of_mem _ hi) hm hmi
          subst this
          exact (hnd.1 (List.mem_map.2 ⟨(id, o), hi, rfl⟩)).elim
        · exact hR.dis x ⟨i, o, N', hi, hmi⟩
    · intro v len hl hv
      cases hv with
      | ownNil _ _ hid => rw [hm] at hid; cases hid
      | own _ _ _ _ b' N' cap hid _ hcap hlc hml =>
        subst hl
        rw [hm] at hid; cases hid
        refine .lst es _ sz cap cells el (0, 0) (fun i j => (cells[i * sz + j]?).getD default) (fun _ => rfl) (fun _ => by simp [Ctx.hpSet]) hlen ?_ ?_ ?_ hlc
        · intro i e j c h1 h2
          obtain ⟨x, h3, _, _⟩ := hrow i e j c h1 h2
          simp only [Nat.zero_mul, Nat.zero_add, h3]; rfl
        · intro i e j c h1 h2
          obtain ⟨x, h3, h4, _⟩ := hrow i e j c h1 h2
          simp only [h3]; exact h4.mono hle
        · intro i e j c h1 h2
          obtain ⟨x, h3, _, h5⟩ := hrow i e j c h1 h2
          simp only [h3]; exact h5

theorem perm_get {H : AHeap} {k : Nat} {p : Nat × AObj} (h : H[k]? = some p) : H.Perm (p :: H.eraseIdx k) := by
  induction H generalizing k with
  | nil => simp at h
  | cons q r ih =>
    cases k with
    | zero => simp at h; subst h; exact .refl _
    | succ k => simp at h; exact ((ih h).cons q).trans (.swap ..)

/-- A row that is owned becomes a list that stays, seen in slot t. -/
theorem weak_frz {id sz el len : Nat} {es : List (List AV)} {T' : List (Nat × AV)} (k t : Nat) (hH : s.H[k]? = some (id, .rows el sz es)) (ht : lk s.T t = some (.own id sz 0 len)) (hl : len = es.length) (hT : SubT s.T T') :
    Weak s ⟨(t, .lst es) :: T', s.H.eraseIdx k, s.D, s.n⟩ := by
  intro Z C a w hs
  have hw := hs.wr.perm (perm_get hH)
  obtain ⟨b, ob, h1, h2, h3, h4, h5, h6⟩ := frz hw
  refine ⟨C.hpSet b ob, ⟨h4, ?_, ?_, hs.du, hs.sz⟩, ⟨h5, fun _ _ h => h, rfl, rfl, rfl, Nat.le_refl _, fun _ _ _ => rfl, ?_, ?_, ?_⟩⟩
  · intro t' x hx
    simp only [lk] at hx
    cases hb : Nat.beq t t' with
    | true =>
      have e := Nat.eq_of_beq_eq_true hb
      subst e
      simp only [hb, cond_true, Option.some.injEq] at hx
      subst hx
      obtain ⟨v, h7, h8⟩ := hs.sl t _ ht
      exact ⟨v, h7, h6 v len hl h8⟩
    | false =>
      simp only [hb, cond_false] at hx
      obtain ⟨v, h7, h8⟩ := hs.sl t' x (hT.lk t' x hx)
      exact ⟨v, h7, h8.mono h5⟩
  · rw [hs.df]
    exact List.map_congr_left fun i hi => by simp [mark, Ctx.hpSet]
  · intro x o hx
    simp only [Ctx.hpSet] at hx
    split at hx
    · rename_i e
      obtain ⟨_, N, hm⟩ := h2 x e
      exact .inr (.inr ⟨id, _, N, List.mem_of_getElem? hH, hm⟩)
    · exact .inl ⟨o, hx⟩
  · rintro x ⟨i, o, N, hi, hm⟩
    exact .inl ⟨i, o, N, List.mem_of_mem_eraseIdx hi, hm⟩
  · intro i o hi
    exact .inl ⟨o, List.mem_of_mem_eraseIdx hi⟩

/-! ### What is owned, lent to a call -/

/-- A value that no memory that stays is needed for. -/
def flat : AV → Bool
  | .v _ => true
  | .own .. => true
  | .ptr .. => true
  | .map _ => true
  | _ => false
def flats : AV → Bool
  | .agg cs => cs.all flat
  | .tup cs => cs.all flat
  | x => flat x

theorem flat_spec {C C' : Ctx} {x : AV} {v : Value} (h : flat x = true) (hm : ∀ i, i ∈ C.U → i ∈ C'.U ∧ C'.m i = C.m i) (hv : VR C x v) : VR C' x v := by
  cases hv with
  | v => exact .v _
  | own id sz off len b N cap hid hu hcap hlen hml => exact .own id sz off len b N cap ((hm id hu).2.trans hid) (hm id hu).1 hcap hlen hml
  | ownNil id sz hid hu => exact .ownNil id sz ((hm id hu).2.trans hid) (hm id hu).1
  | ptr id sz i c b N hid hu => exact .ptr id sz i c b N ((hm id hu).2.trans hid) (hm id hu).1
  | map id b N hid hu => exact .map id b N ((hm id hu).2.trans hid) (hm id hu).1
  | _ => cases h

theorem flats_spec {C C' : Ctx} {x : AV} {v : Value} (h : flats x = true) (hm : ∀ i, i ∈ C.U → i ∈ C'.U ∧ C'.m i = C.m i) (hv : VR C x v) : VR C' x v := by
  cases x with
  | agg cs =>
    cases hv with
    | agg _ vs hl hh => exact .agg cs vs hl (fun i c y h1 h2 => flat_spec (List.all_eq_true.1 h c (List.mem_of_getElem? h1)) hm (hh i c y h1 h2))
  | tup cs =>
    cases hv with
    | tup _ vs hl hh => exact .tup cs vs hl (fun i c y h1 h2 => flat_spec (List.all_eq_true.1 h c (List.mem_of_getElem? h1)) hm (hh i c y h1 h2))
  | _ => exact flat_spec h hm hv

/-- Arguments, some of which are the row that is lent. -/
inductive Lend (id sz : Nat) (es : List (List AV)) : List AV → List AV → Prop
  | nil : Lend id sz es [] []
  | keep {x : AV} {xs ys : List AV} (h : Lend id sz es xs ys) : Lend id sz es (x :: xs) (x :: ys)
  | lend {len : Nat} {xs ys : List AV} (hl : len = es.length) (h : Lend id sz es xs ys) : Lend id sz es (.own id sz 0 len :: xs) (.lst es :: ys)

theorem Lend.spec {id sz : Nat} {es : List (List AV)} {C C' : Ctx} (hle : C.Le C') (h6 : ∀ v len, len = es.length → VR C (.own id sz 0 len) v → VR C' (.lst es) v) : ∀ {xs ys : List AV} {vs : List Value}, Lend id sz es xs ys →
    xs.length = vs.length → (∀ (i : Nat) (x : AV) (v : Value), xs[i]? = some x → vs[i]? = some v → VR C x v) → ys.length = vs.length ∧ ∀ (i : Nat) (x : AV) (v : Value), ys[i]? = some x → vs[i]? = some v → VR C' x v
  | [], [], vs, .nil, hl, _ => ⟨hl, by intro i x v h; simp at h⟩
  | x :: xs, _ :: ys, [], _, hl, _ => by simp at hl
  | x :: xs, _ :: ys, v :: vs, .keep h, hl, hv => by
    obtain ⟨h1, h2⟩ := Lend.spec hle h6 h (vs := vs) (by simpa using hl) (fun i x v ha hb => hv (i + 1) x v (by simpa using ha) (by simpa using hb))
    refine ⟨by simp [h1], fun i y u hy hu => ?_⟩
    cases i with
    | zero => simp at hy hu; subst hy; subst hu; exact (hv 0 _ _ rfl rfl).mono hle
    | succ i => exact h2 i y u (by simpa using hy) (by simpa using hu)
  | _ :: xs, _ :: ys, v :: vs, .lend hlen h, hl, hv => by
    obtain ⟨h1, h2⟩ := Lend.spec hle h6 h (vs := vs) (by simpa using hl) (fun i x v ha hb => hv (i + 1) x v (by simpa using ha) (by simpa using hb))
    refine ⟨by simp [h1], fun i y u hy hu => ?_⟩
    cases i with
    | zero => simp at hy hu; subst hy; subst hu; exact h6 _ _ hlen (hv 0 _ _ rfl rfl)
    | succ i => exact h2 i y u (by simpa using hy) (by simpa using hu)

/-- A call that gives a flat value, and to which a row that is owned is lent. -/
theorem eff_lend {fo : Operand} {args : Array Operand} {ats : Array TypeId} {f id sz el : Nat} {es : List (List AV)} {caps xs ys : List AV} {x : AV}
    (ho : o.op = .call { callee := .value fo, args := args, argTypes := ats }) (hfo : ev T fo = some (.fn (.func f) caps)) (hxs : evs T args.toList = some xs) (hl : Lend id sz es (xs ++ caps) ys)
    (hc : ACalls P f ys [] (fun e H' => e = .ret x ∧ H' = [])) (hx : flats x = true) : Eff P o T [(id, .rows el sz es)] x [] := by
  intro Z C H a w hw hn hv _ _ _ ro next R hk
  obtain ⟨vs, h1, h2⟩ := run_callOp ho hfo hxs hc.ok hv ro w
  rw [h2]
  refine ⟨nofun, ?_⟩
  obtain ⟨Fr, hp⟩ := split_of_mem [(id, .rows el sz es)] H hn (by simp)
  have hwp := hw.perm hp
  obtain ⟨b, ob, g1, g2, g3, g4, g5, g6⟩ := frz hwp
  obtain ⟨l1, l2⟩ := Lend.spec g5 g6 hl (vs := vs.toList) (by simpa using h1.1) (fun i x v ha hb => h1.2 i x v ha (by simpa using hb))
  have hE : WR (C.hpSet b ob) [] w := g4.sub nofun List.nodup_nil
  refine (hc.run Z _ w vs hE ⟨by simpa using l1, fun i x v ha hb => l2 i x v ha (by simpa using hb)⟩).mono ?_
  rintro e w' ⟨C', H', y, ⟨hR, rfl⟩, hw', he', hx'⟩
  subst hR
  cases e with
  | panicked ch => exact hx'.elim
  | outgrown => exact hx'.elim
  | returned v =>
    have stay : ∀ x, x < w.heap.size → w'.heap[x]? = w.heap[x]? := fun x hlt => he'.fr x hlt (by rintro ⟨i, o, N, hi, _⟩; cases hi)
    have hle : C.Le (C'.hpSet b none) := by
      refine ⟨fun x o hx0 => ?_, fun i hi => he'.le.m i hi, fun i hi => he'.le.U i hi⟩
      simp only [Ctx.hpSet]
      split
      · rename_i e; rw [(g2 x e).1] at hx0; cases hx0
      · exact he'.le.hp x o (g5.hp x o hx0)
    have hwR : WR (C'.hpSet b none) H w' := by
      refine ⟨?_, hw.nd, ?_, ?_, ?_⟩
      · intro x o hx0
        simp only [Ctx.hpSet] at hx0
        split at hx0
        · cases hx0
        · exact hw'.hp x o hx0
      · intro i o hi
        obtain ⟨h3, h4⟩ := hw.ids i o hi
        exact ⟨he'.le.U _ h3, h4.keep hle h3 (fun bb N hm' => stay bb (hw.lt ⟨i, o, N, hi, hm'⟩))⟩
      · intro i j o o' bb N N' hi hj hm1 hm2
        have hi' : i ∈ C.U := (hw.ids i o hi).1
        have hj' : j ∈ C.U := (hw.ids j o' hj).1
        exact hw.inj i j o o' bb N N' hi hj (by rw [← hle.m i hi']; exact hm1) (by rw [← hle.m j hj']; exact hm2)
      · rintro x ⟨i, o, N, hi, hm1⟩
        have hi' : i ∈ C.U := (hw.ids i o hi).1
        rw [hle.m i hi'] at hm1
        simp only [Ctx.hpSet]
        split
        · rfl
        · rename_i hne
          have hbl : blk C H x := ⟨i, o, N, hi, hm1⟩
          cases hx0 : C'.hp x with
          | none => rfl
          | some o' =>
            rcases he'.nhp x o' hx0 with ⟨o'', h5⟩ | h5 | ⟨i', o'', N', h5, _⟩
            · simp only [Ctx.hpSet, if_neg hne] at h5
              rw [hw.dis x hbl] at h5; cases h5
            · have := hw.lt hbl; omega
            · cases h5
    refine hk v w' (C'.hpSet b none) (flats_spec (C := C') hx (fun i hi => ⟨hi, rfl⟩) (show VR C' x v from hx')) hwR ⟨hle, he'.av, he'.os, he'.tape, he'.output, he'.size, fun x hlt _ => stay x hlt, ?_, ?_, ?_⟩
    · intro x o hx0
      simp only [Ctx.hpSet] at hx0
      split at hx0
      · cases hx0
      · rename_i hne
        rcases he'.nhp x o hx0 with ⟨o'', h5⟩ | h5 | ⟨i', o'', N', h5, _⟩
        · simp only [Ctx.hpSet, if_neg hne] at h5
          exact .inl ⟨o'', h5⟩
        · exact .inr (.inl h5)
        · cases h5
    · rintro x ⟨i, o, N, hi, hm1⟩
      rw [hle.m i (hw.ids i o hi).1] at hm1
      exact .inl ⟨i, o, N, hi, hm1⟩
    · intro i o hi
      exact .inl ⟨o, hi⟩

theorem aops_lend {fo : Operand} {args : Array Operand} {ats : Array TypeId} {f id sz el : Nat} {es : List (List AV)} {caps xs ys : List AV} {x : AV} (j : Nat) (hw : Wanted ops s.T o true) (hd : dok o.dst s.n = true)
    (ho : o.op = .call { callee := .value fo, args := args, argTypes := ats }) (hfo : ev s.T fo = some (.fn (.func f) caps)) (hxs : evs s.T args.toList = some xs) (hH : s.H[j]? = some (id, .rows el sz es)) (hl : Lend id sz es (xs ++ caps) ys)
    (hc : ACalls P f ys [] (fun e H' => e = .ret x ∧ H' = [])) (hx : flats x = true) (h : AOps P ro ops rest Q { s with T := put s.T o.dst x }) : AOps P ro ops (o :: rest) Q s :=
  aops_eff [(id, .rows el sz es)] x hw hd (eff_lend ho hfo hxs hl hc hx) (fun p hp => by rw [List.mem_singleton.1 hp]; exact List.mem_of_getElem? hH) h
theorem aops_glend {fo : Operand} {args : Array Operand} {ats : Array TypeId} {f id sz el : Nat} {es : List (List AV)} {caps xs ys : List AV} {x : AV} {e : Bool} (j : Nat) (hw : Wanted ops s.T o e) (hd : dok o.dst s.n = true)
    (ho : o.op = .call { callee := .value fo, args := args, argTypes := ats }) (hfo : ev s.T fo = some (.fn (.func f) caps)) (hxs : e = true → evs s.T args.toList = some xs) (hH : s.H[j]? = some (id, .rows el sz es)) (hl : Lend id sz es (xs ++ caps) ys)
    (hc : e = true → ACalls P f ys [] (fun e H' => e = .ret x ∧ H' = [])) (hx : flats x = true) (h : AOps P ro ops rest Q { s with T := put s.T o.dst (cond e x (.v undef)) }) : AOps P ro ops (o :: rest) Q s := by
  cases e
  · exact aops_off hw hd h
  · exact aops_lend j hw hd ho hfo (hxs rfl) hH hl (hc rfl) hx h

/-! ### What is handed back -/

/-- The contract of a function that gives a value and leaves nothing. -/
def Gives (x : AV) : AEnd → AHeap → Prop := fun e H => e = .ret x ∧ H = []

theorem retq {fn : Func} {R : AEnd → AHeap → Prop} {xs : List AV} (hD : s.D = []) (hres : Res P s.T s.H fn.results.toList xs) (hR : R (.ret (mkRes xs)) []) : RetQ P fn R .ret s :=
  ⟨s, .refl s, s.H, xs, by rw [hD]; exact .refl _, hres, [], List.nil_sublist _, hR⟩
/-- A list that was built, handed back for good. -/
theorem retq_frz {fn : Func} {x : AV} {t id sz el len : Nat} {es : List (List AV)} (k : Nat) (hD : s.D = []) (hr : fn.results.toList = [.tmp t]) (ht : lk s.T t = some (.own id sz 0 len)) (hH : s.H[k]? = some (id, .rows el sz es)) (hl : len = es.length) (hx : x = .lst es) :
    RetQ P fn (Gives x) .ret s := by
  refine ⟨_, weak_frz (T' := []) k t hH ht hl trivial, s.H.eraseIdx k, [.lst es], by simp [hD], ?_, [], List.nil_sublist _, by rw [hx]; rfl, rfl⟩
  rw [hr]
  refine ⟨?_, trivial⟩
  simp [lk]

theorem at_ptr {H : AHeap} {id sz i c el : Nat} {es : List (List AV)} {e : List AV} (k : Nat) (hH : H[k]? = some (id, .rows el sz es)) (he : es[i]? = some e) : At H (.ptr id sz i c) (e.drop c) :=
  ⟨el, es, e, List.mem_of_getElem? hH, he, rfl⟩
theorem res_nil {H : AHeap} : Res P T H [] [] := trivial
theorem res_cell {H : AHeap} {a : Nat} {t : TypeId} {r : List ResultVar} {x : AV} {xs : List AV} {id sz i c el : Nat} {es : List (List AV)} {e : List AV} (k : Nat) (h : lk T a = some (.ptr id sz i c)) (hH : H[k]? = some (id, .rows el sz es)) (he : es[i]? = some e)
    (hl : Ld P t (e.drop c) x) (hr : Res P T H r xs) : Res P T H (.cell a t :: r) (x :: xs) := ⟨⟨_, _, h, at_ptr k hH he, hl⟩, hr⟩
theorem res_tmp {H : AHeap} {a : Nat} {r : List ResultVar} {x : AV} {xs : List AV} (h : lk T a = some x) (hr : Res P T H r xs) : Res P T H (.tmp a :: r) (x :: xs) := ⟨h, hr⟩

/-! ### A list that is nothing yet -/
theorem eff_nil (id : Nat) (el : TypeId) (sz : Nat) {p : Operand} (ho : o.op = .assign p ∨ o.op = .move p) (hx : ev T p = some (.v (.slice none 0 0))) : Eff P o T [] (.own id sz 0 0) [(id, .rows el sz [])] := by
  intro Z C H a w hw hn hv hid _ hZ ro next R hk
  have hid' : id ∉ C.U := hid _ List.mem_cons_self
  have h0 : (o.semAt ro a.eval).run P w = .ok (.value (a.eval p)) w := by
    rcases ho with ho | ho
    · rw [Oper.semAt_eq _ _ _ (by intro c; rw [ho]; nofun)]; simp [execOp, ho]
    · rw [Oper.semAt_eq _ _ _ (by intro c; rw [ho]; nofun)]; simp [execOp, ho]
  rw [h0]
  have h1 := VR.val (hv p (by rcases ho with ho | ho <;> (rw [ho]; simp [Op.operands])) _ hx)
  rw [h1]
  have hle := Ctx.le_bindO (x := none) hid'
  have hother : ∀ i o, (i, o) ∈ H → i ≠ id := by rintro i o hi rfl; exact hid' (hw.ids i o hi).1
  have hm : ∀ i, i ≠ id → (C.bindO id none).m i = C.m i := fun i hi => if_neg hi
  have hblk : ∀ b, blk (C.bindO id none) ((id, .rows el sz []) :: H) b → blk C H b := by
    rintro b ⟨i, o, N, hi, hmi⟩
    rcases List.mem_cons.1 hi with h2 | h2
    · cases h2; rw [Ctx.bindO_m] at hmi; cases hmi
    · rw [hm i (hother i o h2)] at hmi; exact ⟨i, o, N, h2, hmi⟩
  refine hk _ w (C.bindO id none) (.ownNil id sz (Ctx.bindO_m ..) List.mem_cons_self) ⟨hw.hp, ?_, ?_, ?_, fun b hb => hw.dis b (hblk b hb)⟩
    ⟨hle, ?_, rfl, rfl, rfl, Nat.le_refl _, fun _ _ _ => rfl, fun _ o h => .inl ⟨o, h⟩, fun b hb => .inl (hblk b hb), ?_⟩
  · simp only [List.cons_append, List.nil_append, List.map_cons, List.nodup_cons]
    refine ⟨fun hmem => ?_, hw.nd⟩
    obtain ⟨⟨i, o⟩, hi, he⟩ := List.mem_map.1 hmem
    exact hother i o hi he
  · intro i o hi
    rcases List.mem_cons.1 hi with h2 | h2
    · cases h2; exact ⟨List.mem_cons_self, nofun, .inl ⟨Ctx.bindO_m .., rfl⟩⟩
    · obtain ⟨h3, h4⟩ := hw.ids i o h2
      exact ⟨hle.U i h3, h4.keep hle h3 (fun _ _ _ => rfl)⟩
  · intro i j o o' b N N' hi hj h2 h3
    rcases List.mem_cons.1 hi with h4 | h4
    · cases h4; rw [Ctx.bindO_m] at h2; cases h2
    · rcases List.mem_cons.1 hj with h5 | h5
      · cases h5; rw [Ctx.bindO_m] at h3; cases h3
      · rw [hm i (hother i o h4)] at h2; rw [hm j (hother j o' h5)] at h3
        exact hw.inj i j o o' b N N' h4 h5 h2 h3
  · intro z hz hzu hmem
    rcases List.mem_cons.1 hmem with h2 | h2
    · exact hZ z hz (by simp [h2])
    · exact hzu h2
  · intro i o hi
    rcases List.mem_cons.1 hi with h2 | h2
    · cases h2; exact .inr hid'
    · exact .inl ⟨o, h2⟩

/-! ### Small facts for walks -/

theorem map_get {α β : Type} {l : List α} {f : α → β} {i : Nat} (h : i < l.length) : (l.map f)[i]? = some (f l[i]) := by simp [h]
theorem len_map {α : Type} {l : List α} {f : α → List AV} {n : Nat} (h : ∀ a, (f a).length = n) : ∀ x : List AV, x ∈ l.map f → x.length = n := by
  intro x hx; obtain ⟨a, _, rfl⟩ := List.mem_map.1 hx; exact h a
theorem i64_wrap {n : Int} (h : -9223372036854775808 ≤ n ∧ n ≤ 9223372036854775807) : IntKind.i64.wrap n = n := by
  unfold IntKind.wrap
  simp [IntKind.bits, IntKind.signed]
  omega
theorem arith_add {x y : Int} (h : -9223372036854775808 ≤ x + y ∧ x + y ≤ 9223372036854775807) : arith .add .i64 x y = some (x + y) := by simp [arith, i64_wrap h]
theorem arith_sub {x y : Int} (h : -9223372036854775808 ≤ x - y ∧ x - y ≤ 9223372036854775807) : arith .sub .i64 x y = some (x - y) := by simp [arith, i64_wrap h]

theorem awp_drawN {id : Nat} {l : List Oper} (np : Nat) (hm : P.follows .mixedOrders = true) (ht : tidy l.toArray (l.take np).length = true)
    (h : Calm P l.toArray s.H (AOps P ro l.toArray (l.drop np) Q) 0 (l.take np) [] s) : AWp P ro (.region id l.toArray true) Q s :=
  awp_draw (l.take np) (l.drop np) (List.take_append_drop np l).symm hm ht h

/-- A loop, with what holds of the name of its state. -/
theorem awp_loopJ {c : Code} {α : Type} (inv : α → St) (J : α → Prop) (μ : α → Nat) (x0 : α) (j0 : J x0) (h0 : Weak s (inv x0))
    (round : ∀ x, J x → AWp P ro c (thenQ (fun s' => ∃ y, J y ∧ μ y < μ x ∧ Weak s' (inv y)) Q) (inv x)) : AWp P ro (.loop c) Q s := by
  refine awp_loop (α := {x : α // J x}) (fun x => inv x.1) (fun x => μ x.1) ⟨x0, j0⟩ h0 ?_
  rintro ⟨x, hx⟩
  refine awp_mono (round x hx) ?_
  intro e s' h
  cases e with
  | normal => obtain ⟨y, h1, h2, h3⟩ := h; exact ⟨⟨y, h1⟩, h2, h3⟩
  | _ => exact h

theorem gv {x y : AV} (h : x = y) : Gives y (.ret (mkRes [x])) [] := ⟨congrArg AEnd.ret h, rfl⟩
theorem gi {x y : Int} (h : x = y) : Gives (.v (.int .i64 y)) (.ret (mkRes [.v (.int .i64 x)])) [] := gv (by rw [h])
theorem gb {x y : Bool} (h : x = y) : Gives (.v (.bool y)) (.ret (mkRes [.v (.bool x)])) [] := gv (by rw [h])
theorem gs {x y : ByteArray} (h : x = y) : Gives (.v (.string y)) (.ret (mkRes [.v (.string x)])) [] := gv (by rw [h])

def GivesH (x : AV) (Hn : AHeap) : AEnd → AHeap → Prop := fun e H => e = .ret x ∧ H = Hn
theorem gvr {xs : List AV} {y : AV} (h : mkRes xs = y) : Gives y (.ret (mkRes xs)) [] := ⟨congrArg AEnd.ret h, rfl⟩
theorem gvH {xs : List AV} {y : AV} {H : AHeap} (h : mkRes xs = y) : GivesH y H (.ret (mkRes xs)) H := ⟨congrArg AEnd.ret h, rfl⟩
theorem retq_keep {fn : Func} {R : AEnd → AHeap → Prop} {xs : List AV} {H'' : AHeap} (hD : s.D = []) (hres : Res P s.T s.H fn.results.toList xs) (hs : H''.Sublist s.H) (hR : R (.ret (mkRes xs)) H'') : RetQ P fn R .ret s :=
  ⟨s, .refl s, s.H, xs, by rw [hD]; exact .refl _, hres, H'', hs, hR⟩
/-- A call that reads one thing that is owned, and leaves it. -/
theorem aops_callH {fo : Operand} {args : Array Operand} {ats : Array TypeId} {f id : Nat} {ob : AObj} {caps xs : List AV} {x : AV} (j : Nat) (hw : Wanted ops s.T o true) (hd : dok o.dst s.n = true)
    (ho : o.op = .call { callee := .value fo, args := args, argTypes := ats }) (hfo : ev s.T fo = some (.fn (.func f) caps)) (hxs : evs s.T args.toList = some xs) (hH : s.H[j]? = some (id, ob))
    (hc : ACalls P f (xs ++ caps) [(id, ob)] (GivesH x [(id, ob)])) (h : AOps P ro ops rest Q { s with T := put s.T o.dst x }) : AOps P ro ops (o :: rest) Q s :=
  aops_eff [(id, ob)] x hw hd (eff_call [(id, ob)] ho hfo hxs hc (by simp)) (fun p hp => by rw [List.mem_singleton.1 hp]; exact List.mem_of_getElem? hH) h
/-! ### More on what is owned -/

theorem aops_callR {fo : Operand} {args : Array Operand} {ats : Array TypeId} {f : Nat} {caps xs : List AV} {R : AEnd → AHeap → Prop} (hw : Wanted ops s.T o true) (hd : dok o.dst s.n = true)
    (ho : o.op = .call { callee := .value fo, args := args, argTypes := ats }) (hfo : ev s.T fo = some (.fn (.func f) caps)) (hxs : evs s.T args.toList = some xs) (hc : ACalls P f (xs ++ caps) [] R) (hno : ∀ ch H', ¬ R (.panic ch) H')
    (h : ∀ x H', R (.ret x) H' → AOps P ro ops rest Q { s with T := put s.T o.dst x, H := H' ++ s.H }) : AOps P ro ops (o :: rest) Q s :=
  aops_step hw (step_call [] s.H ho hfo hxs (.refl _) hd hc h (fun ch H' hR => (hno ch H' hR).elim))

/-- A call that hands back the whole heap in another shape: all that is owned is handed in. -/
theorem aops_callA {fo : Operand} {args : Array Operand} {ats : Array TypeId} {f : Nat} {caps xs : List AV} {R : AEnd → AHeap → Prop} (Hf Fr : AHeap) (hw : Wanted ops s.T o true) (hd : dok o.dst s.n = true)
    (ho : o.op = .call { callee := .value fo, args := args, argTypes := ats }) (hfo : ev s.T fo = some (.fn (.func f) caps)) (hxs : evs s.T args.toList = some xs) (hp : s.H.Perm (Hf ++ Fr)) (hc : ACalls P f (xs ++ caps) Hf R) (hno : ∀ ch H', ¬ R (.panic ch) H')
    (h : ∀ x H', R (.ret x) H' → AOps P ro ops rest Q { s with T := put s.T o.dst x, H := H' ++ Fr }) : AOps P ro ops (o :: rest) Q s :=
  aops_step hw (step_call Hf Fr ho hfo hxs hp hd hc h (fun ch H' hR => (hno ch H' hR).elim))

/-- Less is known, less is owned, but for what lies behind. -/
theorem weak_tail {s' : St} {F F' Hj : AHeap} (ks : List Nat) (hT : SubT s.T s'.T) (hH : s.H = F ++ Hj) (hF : pick F ks = some F') (hH' : s'.H = F' ++ Hj) (hk : ks.Nodup) (hD : s'.D = s.D) (hn : s'.n = s.n) : Weak s s' := by
  intro Z C a w hs
  have hsub1 : ∀ p, p ∈ F' → p ∈ F := fun p hp => by obtain ⟨k, _, h⟩ := pick_spec hF p hp; exact List.mem_of_getElem? h
  have hsub : ∀ p, p ∈ s'.H → p ∈ s.H := fun p hp => by
    rw [hH'] at hp; rw [hH]
    rcases List.mem_append.1 hp with h | h
    · exact List.mem_append_left _ (hsub1 p h)
    · exact List.mem_append_right _ h
  have hnd := hs.wr.nd
  rw [hH, List.map_append, List.nodup_append] at hnd
  have hnd' : (s'.H.map Prod.fst).Nodup := by
    rw [hH', List.map_append, List.nodup_append]
    refine ⟨pick_nodup hnd.1 hF hk, hnd.2.1, ?_⟩
    intro x hx y hy
    obtain ⟨p, hp, rfl⟩ := List.mem_map.1 hx
    exact hnd.2.2 p.1 (List.mem_map.2 ⟨p, hsub1 p hp, rfl⟩) y hy
  exact ⟨C, ⟨hs.wr.sub hsub hnd', fun t x hx => hs.sl t x (hT.lk t x hx), by rw [hs.df, hD], by rw [hD]; exact hs.du, by rw [hs.sz, hn]⟩, Ext.sub hsub⟩

def YR {α : Type} (J Jx : List α → AHeap → Prop) (l : List α) : AEnd → AHeap → Prop := fun e H' => (e = .ret (.v (.bool true)) ∧ J l H') ∨ (e = .ret (.v (.bool false)) ∧ Jx l H')

theorem take_snoc {α : Type} {l : List α} {i : Nat} (h : i < l.length) : l.take (i + 1) = l.take i ++ [l[i]] := by simp
/-! ### Parts of slices and of texts -/

theorem run_bound {P : Program} {x : Value} {k : IntKind} {i : Int} {y : Nat} {code : BoundsCode} (hx : x = .int k i) (h0 : 0 ≤ i) (h1 : i ≤ y) (w : World) : (Instr.sliceBound x y code).run P w = .ok i.toNat w := by
  subst hx
  simp [Instr.sliceBound, asIntOf, h0, h1, Sem.run_bind, Result.andThen, Sem.run_pure]

theorem eff_sliceTo_own {t e n : Nat} {b : Bool} {p q : Operand} {id len : Nat} {kd : IntKind} {k : Int} [h : UD P t (.slice e)] [k1 : TK P e b n] (ho : o.op = .slice t p none (some q) none)
    (hp : ev T p = some (.own id n 0 len)) (hq : ev T q = some (.v (.int kd k))) (h0 : 0 ≤ k) (h1 : k ≤ len) : Eff P o T [] (.own id n 0 k.toNat) [] :=
  eff_val (by intro c; rw [ho]; nofun) fun C H a w hw hn hv => by
    have h2 := hv p (by rw [ho]; simp [Op.operands]) _ hp
    have h3 := VR.val (hv q (by rw [ho]; simp [Op.operands]) _ hq)
    generalize hpv : a.eval p = u at h2
    cases h2 with
    | own _ _ _ _ bb N cap hid hu hcap hlen hml =>
      refine ⟨.slice (some ⟨bb, 0 * n, none⟩) k.toNat cap, ?_, .own id n 0 k.toNat bb N cap hid hu hcap (by omega) hml⟩
      have hkc : k ≤ (cap : Int) := by omega
      simp [execOp, ho, hpv, h3, Instr.sliceAt, Instr.slice, Instr.sliceBounds, run_underlying (d := .slice e), run_sizeOf k1.tk, run_bound rfl h0 hkc, Sem.run_bind, Result.andThen, Sem.run_pure, Addr.add]
    | ownNil _ _ hid hu =>
      have hk : k = 0 := by omega
      subst hk
      refine ⟨.slice none 0 0, ?_, .ownNil id n hid hu⟩
      have hb : ∀ code, (Instr.sliceBound (.int kd 0) 0 code).run P w = .ok 0 w := fun code => run_bound rfl (by omega) (by omega) w
      simp [execOp, ho, hpv, h3, Instr.sliceAt, Instr.slice, Instr.sliceBounds, run_underlying (d := .slice e), run_sizeOf k1.tk, hb, Sem.run_bind, Result.andThen, Sem.run_pure]

/-- An owned row seen as a shorter one. -/
theorem weak_shrink {id sz el m : Nat} {es : List (List AV)} (k : Nat) (hH : s.H[k]? = some (id, .rows el sz es)) : Weak s { s with H := s.H.set k (id, .rows el sz (es.take m)) } := by
  intro Z C a w hs
  obtain ⟨H1, H2, e1, e2⟩ := split_get hH
  have hw := hs.wr
  have hmap : (s.H.set k (id, AObj.rows el sz (es.take m))).map Prod.fst = s.H.map Prod.fst := by rw [e2, e1]; simp
  have hset : ∀ i o, (i, o) ∈ s.H.set k (id, AObj.rows el sz (es.take m)) → (i = id ∧ o = AObj.rows el sz (es.take m)) ∨ (i, o) ∈ s.H := fun i o hp => by
    rw [e2] at hp; rw [e1]
    rcases List.mem_append.1 hp with h | h
    · exact .inr (List.mem_append_left _ h)
    · rcases List.mem_cons.1 h with h | h
      · cases h; exact .inl ⟨rfl, rfl⟩
      · exact .inr (List.mem_append_right _ (List.mem_cons_of_mem _ h))
  have hidm : ∀ i o, (i, o) ∈ s.H.set k (id, AObj.rows el sz (es.take m)) → ∃ o', (i, o') ∈ s.H := fun i o hi => by
    rcases hset i o hi with ⟨rfl, rfl⟩ | h
    · exact ⟨_, List.mem_of_getElem? hH⟩
    · exact ⟨o, h⟩
  have hblk : ∀ b, blk C (s.H.set k (id, AObj.rows el sz (es.take m))) b → blk C s.H b := fun b ⟨i, o, N, hi, hm⟩ => by
    obtain ⟨o', ho'⟩ := hidm i o hi; exact ⟨i, o', N, ho', hm⟩
  refine ⟨C, ⟨⟨hw.hp, by rw [hmap]; exact hw.nd, ?_, ?_, fun b hb => hw.dis b (hblk b hb)⟩, hs.sl, hs.df, hs.du, hs.sz⟩, ⟨.refl C, fun _ _ h => h, rfl, rfl, rfl, Nat.le_refl _, fun _ _ _ => rfl, fun _ o h => .inl ⟨o, h⟩, fun b hb => .inl (hblk b hb), fun i o hi => .inl (hidm i o hi)⟩⟩
  · intro i o hi
    rcases hset i o hi with ⟨rfl, rfl⟩ | h
    · obtain ⟨h4, h5, h6⟩ := hw.ids _ _ (List.mem_of_getElem? hH)
      refine ⟨h4, fun e he => h5 e (List.mem_of_mem_take he), ?_⟩
      rcases h6 with ⟨h7, rfl⟩ | ⟨b, N, cells, h7, h8, h9, h10, h11⟩
      · exact .inl ⟨h7, by simp⟩
      · refine .inr ⟨b, N, cells, h7, h8, h9, ?_, ?_⟩
        · have : (es.take m).length * sz ≤ es.length * sz := Nat.mul_le_mul_right _ (by simp; omega)
          omega
        · intro i' e j c he hc
          have : es[i']? = some e := by
            rw [List.getElem?_take] at he
            split at he
            · exact he
            · cases he
          exact h11 i' e j c this hc
    · exact hw.ids i o h
  · intro i j o o' b N N' hi hj
    obtain ⟨p1, hp1⟩ := hidm i o hi
    obtain ⟨p2, hp2⟩ := hidm j o' hj
    exact hw.inj i j p1 p2 b N N' hp1 hp2
end
theorem eff_indexAddr_ownN {P : Program} {o : Oper} {T : List (Nat × AV)} {t e n : Nat} {b : Bool} {p q : Operand} {id off len : Nat} {kd : IntKind} {k : Int} (i : Nat) [h : UD P t (.slice e)] [k1 : TK P e b n] (ho : o.op = .indexAddr t p q)
    (hp : ev T p = some (.own id n off len)) (hq : ev T q = some (.v (.int kd k))) (h0 : 0 ≤ k) (h1 : k < len) (hi : off + k.toNat = i) : Eff P o T [] (.ptr id n i 0) [] := hi ▸ eff_indexAddr_own ho hp hq h0 h1
theorem opt_cases {α : Type} {G : Prop} (o : Option α) (h0 : o = none → G) (h1 : ∀ c, o = some c → G) : G := by cases o with | none => exact h0 rfl | some c => exact h1 c rfl
end Go.Sx
