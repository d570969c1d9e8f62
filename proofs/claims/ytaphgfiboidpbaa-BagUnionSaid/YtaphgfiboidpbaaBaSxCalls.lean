/- Contracts over abstract states: a function's out of its body; a call by its callee's. -/
import Derived.Test.YtaphgfiboidpbaaBaSxCode
set_option linter.unusedSimpArgs false
set_option linter.unusedVariables false
namespace Go.Sx
open Go

inductive AEnd where
  | ret (x : AV)
  | panic (ch : List PanicEntry)

def ER (C : Ctx) : AEnd → Ending → Prop
  | .ret x, .returned v => VR C x v
  | .panic ch, .panicked ch' => ch' = ch
  | _, _ => False

def VRs (C : Ctx) (xs : List AV) (vs : Array Value) : Prop :=
  xs.length = vs.size ∧ ∀ (i : Nat) (x : AV) (v : Value), xs[i]? = some x → vs[i]? = some v → VR C x v

/-- A function of the program's own with a body. -/
def Callable (P : Program) (f : Nat) : Prop := ∃ fn, P.funcs[f]? = some fn ∧ fn.body.isNone = false ∧ (fn.name == "runtime.NumGoroutine") = false

structure ACalls (P : Program) (f : Nat) (xs : List AV) (H : AHeap) (R : AEnd → AHeap → Prop) : Prop where
  ok : Callable P f
  run : ∀ Z C w vs, WR C H w → VRs C xs vs → CallsIn (Wd none) 0 P f vs w (fun e w' => ∃ C' H' x, R x H' ∧ WR C' H' w' ∧ Ext Z C H w C' H' w' ∧ ER C' x e)

theorem ACalls.mono {P : Program} {f : Nat} {xs : List AV} {H : AHeap} {R R' : AEnd → AHeap → Prop} (h : ACalls P f xs H R) (hr : ∀ e H', R e H' → R' e H') : ACalls P f xs H R' :=
  ⟨h.ok, fun Z C w vs hw hv => (h.run Z C w vs hw hv).mono fun _ _ ⟨C', H', x, r, rest⟩ => ⟨C', H', x, hr _ _ r, rest⟩⟩

/-- Given more, it leaves the more alone. -/
theorem ACalls.frame {P : Program} {f : Nat} {xs : List AV} {H : AHeap} {R : AEnd → AHeap → Prop} (h : ACalls P f xs H R) (K Fr : AHeap) (hp : K.Perm (H ++ Fr)) :
    ACalls P f xs K (fun e K' => ∃ H', R e H' ∧ K' = H' ++ Fr) :=
  ⟨h.ok, fun Z C w vs hw hv => by
    have hw1 : WR C (H ++ Fr) w := hw.perm hp
    refine (h.run Z C w vs hw1.left hv).mono ?_
    rintro e w' ⟨C', H', x, r, hw', he, hx⟩
    obtain ⟨h1, h2⟩ := he.frame hw1 hw'
    exact ⟨C', H' ++ Fr, x, ⟨H', r, rfl⟩, h1, h2.permL hp.symm, hx⟩⟩

/-! ### What a function hands back -/

theorem cell_of {w : World} {b o : Nat} {cells : Array Value} {elem : TypeId} {fz : Nat × Nat} (h : w.heap[b]? = some (.cells cells elem fz)) : w.cell? ⟨b, o, none⟩ = cells[o]? := by
  simp [World.cell?, h]

/-- The cells of a row from a place on. -/
def At (H : AHeap) : AV → List AV → Prop
  | .ptr id sz i c, l => ∃ el es e, (id, AObj.rows el sz es) ∈ H ∧ es[i]? = some e ∧ l = e.drop c
  | .elt es i c, l => ∃ e, es[i]? = some e ∧ l = e.drop c
  | _, _ => False

theorem At.cells {H : AHeap} {p : AV} {l : List AV} {C : Ctx} {w : World} {v : Value} (h : At H p l) (hw : WR C H w) (hv : VR C p v) :
    ∃ a : Addr, v = .pointer (some a) ∧ a.spot = none ∧ ∀ (j : Nat) (x : AV), l[j]? = some x → ∃ u, w.cell? (a.add j) = some u ∧ VR C x u := by
  cases p with
  | ptr id sz i c =>
    obtain ⟨el, es, e, h1, h2, rfl⟩ := h
    cases hv with
    | ptr _ _ _ _ b N hid hu =>
      refine ⟨_, rfl, rfl, fun j x hj => ?_⟩
      obtain ⟨_, hor⟩ := (hw.ids _ _ h1).2
      rcases hor with ⟨hn, _⟩ | ⟨b', N', cells, hm, hh, _, _, hc⟩
      · rw [hid] at hn; cases hn
      · rw [hid] at hm; cases hm
        rw [List.getElem?_drop] at hj
        obtain ⟨u, hu1, hu2, _⟩ := hc i e (c + j) x h2 hj
        refine ⟨u, ?_, hu2⟩
        rw [show (Addr.add ⟨b, i * sz + c, none⟩ j) = ⟨b, i * sz + c + j, none⟩ from by simp [Addr.add], cell_of hh, ← hu1, Nat.add_assoc]
  | elt es i c =>
    obtain ⟨e, h2, rfl⟩ := h
    cases hv with
    | elt _ _ _ a sz cap n hl hz hi =>
      refine ⟨_, rfl, rfl, fun j x hj => ?_⟩
      cases hl with
      | lst _ _ sz' cap' cells elem fz xs hs hb hz' hc hv' ho hcap =>
        have hne : es ≠ [] := by rintro rfl; simp at hi
        have hmem := List.mem_of_getElem? h2
        have hsz : sz' = sz := by rw [← hz' e hmem, hz e hmem]
        subst hsz
        rw [List.getElem?_drop] at hj
        refine ⟨xs i (c + j), ?_, hv' i e (c + j) x h2 hj⟩
        rw [show (Addr.add ⟨a.block, a.off + i * sz' + c, none⟩ j) = ⟨a.block, a.off + i * sz' + c + j, none⟩ from by simp [Addr.add], cell_of (hw.hp _ _ (hb hne)), ← hc i e (c + j) x h2 hj, Nat.add_assoc]
  | _ => exact h.elim

/-- Is a type's value told by several cells, and by how many? -/
def _root_.Go.Program.tk (P : Program) (t : TypeId) : Option (Bool × Nat) :=
  match P.underlying t, P.info? t with
  | some d, some i => some ((match d with | .struct _ => true | .array _ _ => true | _ => false), i.size)
  | _, _ => none

theorem run_isAgg {P : Program} {t : TypeId} {b : Bool} {n : Nat} (h : P.tk t = some (b, n)) (w : World) : (isAgg t).run P w = .ok b w := by
  unfold Program.tk at h
  split at h
  · rename_i d i h1 h2
    simp only [Option.some.injEq, Prod.mk.injEq] at h
    obtain ⟨rfl, _⟩ := h
    simp only [isAgg, underlying, program, Sem.run_bind, Sem.run, Result.andThen, h1, Sem.run_pure]
    cases d <;> rfl
  · cases h

theorem run_sizeOf {P : Program} {t : TypeId} {b : Bool} {n : Nat} (h : P.tk t = some (b, n)) (w : World) : (sizeOf t).run P w = .ok n w := by
  unfold Program.tk at h
  split at h
  · rename_i d i h1 h2
    simp only [Option.some.injEq, Prod.mk.injEq] at h
    obtain ⟨_, rfl⟩ := h
    simp only [sizeOf, typeInfo, program, Sem.run_bind, Sem.run, Result.andThen, h2, Sem.run_pure]
  · cases h

theorem run_loadCellsFrom {P : Program} {C : Ctx} {w : World} {a : Addr} : ∀ (n i : Nat) (l : List AV) (acc : Array Value), n ≤ l.length →
    (∀ (j : Nat) (x : AV), l[j]? = some x → ∃ u, w.cell? (a.add (i + j)) = some u ∧ VR C x u) →
    ∃ us : List Value, us.length = n ∧ (loadCellsFrom a i n acc).run P w = .ok (acc ++ us.toArray) w ∧ ∀ (j : Nat) (x : AV) (u : Value), (l.take n)[j]? = some x → us[j]? = some u → VR C x u
  | 0, i, l, acc, _, _ => ⟨[], rfl, by simp [loadCellsFrom, Sem.run], by intro j x u h; simp at h⟩
  | n + 1, i, [], acc, hn, _ => by simp at hn
  | n + 1, i, x :: l, acc, hn, h => by
    obtain ⟨u, h1, h2⟩ := h 0 x rfl
    obtain ⟨us, e1, e2, e3⟩ := run_loadCellsFrom (P := P) (C := C) (w := w) (a := a) n (i + 1) l (acc.push u) (by simpa using hn)
      (fun j y hy => by
        have := h (j + 1) y hy
        rwa [show i + (j + 1) = i + 1 + j from by omega] at this)
    refine ⟨u :: us, by simp [e1], ?_, ?_⟩
    · rw [Nat.add_zero] at h1
      simp only [loadCellsFrom, load, Sem.run_bind, Sem.run, h1, Result.andThen]
      rw [e2]; simp
    · intro j y v hy hv
      cases j with
      | zero => simp at hy hv; subst hy; subst hv; exact h2
      | succ j => exact e3 j y v (by simpa using hy) (by simpa using hv)

/-- What a load of type t finds where cells lie so. -/
def Ld (P : Program) (t : TypeId) (l : List AV) (x : AV) : Prop :=
  (∃ n r, P.tk t = some (false, n) ∧ l = x :: r) ∨ ∃ n, P.tk t = some (true, n) ∧ n ≤ l.length ∧ x = .agg (l.take n)

theorem run_loadVar {P : Program} {C : Ctx} {H : AHeap} {w : World} {t : TypeId} {p x : AV} {l : List AV} {v : Value} (hat : At H p l) (hl : Ld P t l x) (hw : WR C H w) (hv : VR C p v) :
    ∃ a u, v = .pointer (some a) ∧ (loadVar t a).run P w = .ok u w ∧ VR C x u := by
  obtain ⟨a, rfl, hs, hc⟩ := hat.cells hw hv
  rcases hl with ⟨n, r, ht, rfl⟩ | ⟨n, ht, hn, rfl⟩
  · obtain ⟨u, h1, h2⟩ := hc 0 x rfl
    refine ⟨a, u, rfl, ?_, h2⟩
    have e0 : a.add 0 = a := by simp [Addr.add]
    rw [e0] at h1
    simp [loadVar, Sem.run_bind, run_isAgg ht, Result.andThen, load, Sem.run, h1]
  · obtain ⟨us, e1, e2, e3⟩ := run_loadCellsFrom (P := P) (C := C) (w := w) (a := a) n 0 l #[] hn (fun j x hj => by rw [Nat.zero_add]; exact hc j x hj)
    refine ⟨a, .agg us.toArray, rfl, ?_, ?_⟩
    · simp [loadVar, Sem.run_bind, run_isAgg ht, run_sizeOf ht, Result.andThen, loadCells, e2]
    · exact .agg _ _ (by simp [e1]; omega) (fun i c x h1 h2 => e3 i c x h1 (by simpa using h2))

/-- A function's results, read where they stand. -/
def Res (P : Program) (T : List (Nat × AV)) (H : AHeap) : List ResultVar → List AV → Prop
  | [], [] => True
  | .tmp t :: r, x :: xs => lk T t = some x ∧ Res P T H r xs
  | .cell a t :: r, x :: xs => (∃ p l, lk T a = some p ∧ At H p l ∧ Ld P t l x) ∧ Res P T H r xs
  | _, _ => False

/-- One result, or several. -/
def mkRes : List AV → AV
  | [x] => x
  | xs => .tup xs

def resVar (tmps : Array Value) : ResultVar → Sem Value
  | .tmp t => pure (tmps.getD t undef)
  | .cell a t => do loadVar t (← asAddr (tmps.getD a undef))

theorem run_resVars {P : Program} {C : Ctx} {s : St} {a : Act} {w : World} {H : AHeap} (hw : WR C H w) (hsl : ∀ t x, lk s.T t = some x → ∃ v, a.tmps[t]? = some v ∧ VR C x v) : ∀ (rs : List ResultVar) (xs : List AV), Res P s.T H rs xs →
    ∃ us : List Value, us.length = xs.length ∧ (rs.mapM (resVar a.tmps)).run P w = .ok us w ∧ ∀ (j : Nat) (x : AV) (u : Value), xs[j]? = some x → us[j]? = some u → VR C x u
  | [], [], _ => ⟨[], rfl, by simp [Sem.run_pure], by intro j x u h; simp at h⟩
  | .tmp t :: r, x :: xs, h => by
    obtain ⟨h1, h2⟩ := h
    obtain ⟨us, e1, e2, e3⟩ := run_resVars hw hsl r xs h2
    obtain ⟨v, h3, h4⟩ := hsl t x h1
    refine ⟨v :: us, by simp [e1], ?_, ?_⟩
    · simp [List.mapM_cons, Sem.run_bind, resVar, Sem.run_pure, Result.andThen, e2, h3]
    · intro j y u hy hu
      cases j with
      | zero => simp at hy hu; subst hy; subst hu; exact h4
      | succ j => exact e3 j y u (by simpa using hy) (by simpa using hu)
  | .cell b t :: r, x :: xs, h => by
    obtain ⟨⟨p, l, h1, hat, hl⟩, h2⟩ := h
    obtain ⟨us, e1, e2, e3⟩ := run_resVars hw hsl r xs h2
    obtain ⟨v, h3, h4⟩ := hsl b p h1
    obtain ⟨ad, u, rfl, h5, h6⟩ := run_loadVar hat hl hw h4
    refine ⟨u :: us, by simp [e1], ?_, ?_⟩
    · simp [List.mapM_cons, Sem.run_bind, resVar, Sem.run_pure, Result.andThen, e2, h3, asAddr, h5]
    · intro j y v hy hv
      cases j with
      | zero => simp at hy hv; subst hy; subst hv; exact h6
      | succ j => exact e3 j y v (by simpa using hy) (by simpa using hv)

theorem run_results {P : Program} {C : Ctx} {s : St} {a : Act} {w : World} {H : AHeap} {fn : Func} {xs : List AV} (hw : WR C H w) (hsl : ∀ t x, lk s.T t = some x → ∃ v, a.tmps[t]? = some v ∧ VR C x v) (h : Res P s.T H fn.results.toList xs) :
    ∃ v, (results fn a.tmps).run P w = .ok v w ∧ VR C (mkRes xs) v := by
  obtain ⟨us, e1, e2, e3⟩ := run_resVars hw hsl _ _ h
  have e : (results fn a.tmps).run P w = .ok (if h : us.toArray.size = 1 then us.toArray[0] else .tuple us.toArray) w := by
    have e4 : results fn a.tmps = (do
        let vs ← fn.results.mapM (resVar a.tmps)
        pure (if h : vs.size = 1 then vs[0] else .tuple vs)) := by
      unfold results
      congr 1
    rw [e4, Array.mapM_eq_mapM_toList]
    have e5 : (List.toArray <$> List.mapM (resVar a.tmps) fn.results.toList : Sem (Array Value)) = (do let vs ← List.mapM (resVar a.tmps) fn.results.toList; pure vs.toArray) := by
      rw [map_eq_pure_bind]
    rw [e5]
    simp only [Sem.run_bind, e2, Result.andThen, Sem.run_pure]
  refine ⟨_, e, ?_⟩
  clear e e2 h
  match xs, us, e1, e3 with
  | [], [], _, _ => exact .tup _ _ rfl (by intro i c x h; simp at h)
  | [x], [u], _, e3 => exact e3 0 x u rfl rfl
  | x :: y :: xs, u :: v :: us, hl, e3 =>
    have : (u :: v :: us).toArray.size ≠ 1 := by simp
    rw [dif_neg this]
    exact .tup _ _ (by simpa using hl.symm) (fun i c z h1 h2 => e3 i c z h1 (by simpa using h2))


/-! ### A function's contract out of its body -/

/-- What is asked where a function's body ends. D: the names of the blocks that ranges over functions have laid. -/
def RetQ (P : Program) (fn : Func) (R : AEnd → AHeap → Prop) : Exit → St → Prop
  | .normal, s | .ret, s => ∃ s', Weak s s' ∧ ∃ H' xs, s'.H.Perm (s'.D.map (fun i => (i, AObj.raw (.deferred (some [])))) ++ H') ∧ Res P s'.T H' fn.results.toList xs ∧ ∃ H'', H''.Sublist H' ∧ R (.ret (mkRes xs)) H''
  | .panic ch, s => s.D = [] ∧ R (.panic ch) s.H
  | _, _ => False

def enum (xs : List AV) : Nat → List (Nat × AV)
  | k => match xs with
    | [] => []
    | x :: r => (k, x) :: enum r (k + 1)

theorem lk_enum : ∀ (xs : List AV) (k t : Nat) (x : AV), lk (enum xs k) t = some x → ∃ i, t = k + i ∧ xs[i]? = some x
  | [], k, t, x, h => by simp [enum, lk] at h
  | y :: r, k, t, x, h => by
    simp only [enum, lk] at h
    cases hb : Nat.beq k t with
    | true =>
      have e := Nat.eq_of_beq_eq_true hb
      subst e
      simp only [hb, cond_true, Option.some.injEq] at h
      exact ⟨0, rfl, by simpa using h⟩
    | false =>
      simp only [hb, cond_false] at h
      obtain ⟨i, rfl, h2⟩ := lk_enum r (k + 1) t x h
      exact ⟨i + 1, by omega, by simpa using h2⟩

/-- The blocks for the rounds' deferred calls are shut, one by one. -/
theorem leave_marks {P : Program} {fn : Func} {Z : List Nat} {C0 : Ctx} {H0 : AHeap} {w0 : World} {T : List (Nat × AV)} {tmps : Array Value} {xs : List AV} {H' : AHeap} {R : Ending → World → Prop} {C : Ctx}
    (hsl : ∀ t x, lk T t = some x → ∃ v, tmps[t]? = some v ∧ VR C x v) (hres : Res P T H' fn.results.toList xs)
    (hR : ∀ v w, VR C (mkRes xs) v → WR C H' w → Ext Z C0 H0 w0 C H' w → R (.returned v) w) :
    ∀ (D : List Nat) (w : World), WR C (D.map (fun i => (i, AObj.raw (.deferred (some [])))) ++ H') w → Ext Z C0 H0 w0 C (D.map (fun i => (i, AObj.raw (.deferred (some [])))) ++ H') w →
      LeavesInM (Wd none) 0 P fn tmps R (D.map (mark C)) .returning w
  | [], w, hw, he => by
    simp only [List.map_nil, LeavesInM, LeavesIn]
    obtain ⟨v, h1, h2⟩ := run_results (s := ⟨T, H', [], 0⟩) (a := ⟨tmps, []⟩) hw hsl hres
    exact ⟨v, h1, hR v w h2 hw he⟩
  | i :: D, w, hw, he => by
    simp only [List.map_cons, LeavesInM]
    refine ⟨nofun, .inl ?_⟩
    obtain ⟨hu, b, N, hm, hh⟩ := hw.ids i _ (List.mem_cons_self)
    have hb : blk C (((i, AObj.raw (.deferred (some []))) :: (D.map (fun i => (i, AObj.raw (.deferred (some [])))) ++ H'))) b := ⟨i, _, N, List.mem_cons_self, hm⟩
    have hnd := hw.nd
    simp only [List.map_cons, List.cons_append, List.nodup_cons] at hnd
    have hother : ∀ j o b' N', (j, o) ∈ D.map (fun i => (i, AObj.raw (.deferred (some [])))) ++ H' → C.m j = some (b', N') → b' ≠ b := by
      rintro j o b' N' hj hm' rfl
      have := hw.inj i j _ o b' N N' List.mem_cons_self (List.mem_cons_of_mem _ hj) hm hm'
      subst this
      exact hnd.1 (List.mem_map.2 ⟨(i, o), hj, rfl⟩)
    have hw' : WR C (D.map (fun i => (i, AObj.raw (.deferred (some [])))) ++ H') (w.putObj b (.deferred none)) := by
      refine ⟨?_, hnd.2, ?_, ?_, ?_⟩
      · intro b' o hb'
        have hne : b' ≠ b := by rintro rfl; rw [hw.dis _ hb] at hb'; cases hb'
        rw [World.putObj_heap_other hne]
        exact hw.hp b' o hb'
      · intro j o hj
        obtain ⟨h1, h2⟩ := hw.ids j o (List.mem_cons_of_mem _ hj)
        exact ⟨h1, h2.keep (.refl C) h1 (fun b' N' hm' => World.putObj_heap_other (hother j o b' N' hj hm'))⟩
      · intro j k o o' b' N' N'' h1 h2
        exact hw.inj j k o o' b' N' N'' (List.mem_cons_of_mem _ h1) (List.mem_cons_of_mem _ h2)
      · rintro b' ⟨j, o, N', h1, h2⟩
        exact hw.dis b' ⟨j, o, N', List.mem_cons_of_mem _ h1, h2⟩
    have he' : Ext Z C0 H0 w0 C (D.map (fun i => (i, AObj.raw (.deferred (some [])))) ++ H') (w.putObj b (.deferred none)) := by
      refine ⟨he.le, he.av, he.os, he.tape, he.output, by simpa using he.size, ?_, he.nhp, ?_, ?_⟩
      · intro b' hb' hn
        rw [← he.fr b' hb' hn]
        refine World.putObj_heap_other ?_
        rintro rfl
        rcases he.nbl b' hb with h1 | h1
        · exact hn h1
        · omega
      · rintro b' ⟨j, o, N', h1, h2⟩
        exact he.nbl b' ⟨j, o, N', List.mem_cons_of_mem _ h1, h2⟩
      · intro j o h1
        exact he.nid j o (List.mem_cons_of_mem _ h1)
    refine ⟨b, w.putObj b (.deferred none), by simp [mark, hm], run_takeDeferred hh, ?_⟩
    exact leave_marks hsl hres hR D _ hw' he'

theorem acalls_of {P : Program} {f : Nat} {fn : Func} {c : Code} {n : Nat} {xs : List AV} {H : AHeap} {R : AEnd → AHeap → Prop}
    (hf : P.funcs[f]? = some fn) (hb : fn.body = some c) (hnm : (fn.name == "runtime.NumGoroutine") = false) (hnt : fn.ntmps = n) (hn0 : Nat.ble xs.length n = true)
    (h : AWp P none c (RetQ P fn R) ⟨enum xs 0, H, [], n⟩) : ACalls P f xs H R := by
  subst hnt
  have hn : xs.length ≤ fn.ntmps := Nat.le_of_ble_eq_true hn0
  refine ⟨⟨fn, hf, by rw [hb]; rfl, hnm⟩, fun Z C w vs hw hv => ?_⟩
  refine callsIn_of_wp_marks hf hb trivial ?_ rfl
  have hs : SR C ⟨enum xs 0, H, [], fn.ntmps⟩ { tmps := vs ++ Array.replicate (fn.ntmps - vs.size) undef, defers := [] } w := by
    refine ⟨hw, ?_, rfl, nofun, ?_⟩
    · intro t x hx
      obtain ⟨i, rfl, hi⟩ := lk_enum xs 0 t x hx
      rw [Nat.zero_add]
      have hlt : i < vs.size := by rw [← hv.1]; exact (List.getElem?_eq_some_iff.1 hi).1
      have hvi : vs[i]? = some vs[i] := Array.getElem?_eq_getElem hlt
      exact ⟨vs[i], by rw [Array.getElem?_append_left hlt]; exact hvi, hv.2 i x _ hi hvi⟩
    · have := hv.1
      simp only [Array.size_append, Array.size_replicate]
      omega
  refine wpIn_mono (h Z C H w C _ w (.refl ..) hs) ?_
  rintro e a' w' ⟨h1, C', s', hq, hs', he'⟩
  have key : ∀ s', SR C' s' a' w' → Ext Z C H w C' s'.H w' → (∃ s'', Weak s' s'' ∧ ∃ H' xs, s''.H.Perm (s''.D.map (fun i => (i, AObj.raw (.deferred (some [])))) ++ H') ∧ Res P s''.T H' fn.results.toList xs ∧ ∃ H'', H''.Sublist H' ∧ R (.ret (mkRes xs)) H'') →
      LeavesInM (Wd none) 0 P fn a'.tmps (fun e w' => ∃ C' H' x, R x H' ∧ WR C' H' w' ∧ Ext Z C H w C' H' w' ∧ ER C' x e) a'.defers .returning w' := by
    rintro s' hs' he' ⟨s'', hwk, H', ys, hp, hres, H'', hsub, hR⟩
    obtain ⟨C'', hs'', he''⟩ := hwk Z C' a' w' hs'
    have hx := he'.trans he''
    rw [hs''.df]
    exact leave_marks (T := s''.T) (C := C'') (Z := Z) (C0 := C) (H0 := H) (w0 := w) hs''.sl hres (fun v w1 h1 h2 h3 => ⟨C'', H'', _, hR, h2.sub (fun p hp => hsub.subset hp) ((hsub.map Prod.fst).nodup h2.nd), h3.trans (Ext.sub (fun p hp => hsub.subset hp)), h1⟩) s''.D w' (hs''.wr.perm hp) (hx.permR hp)
  cases e with
  | normal => exact key s' hs' he' hq
  | ret => exact key s' hs' he' hq
  | panic ch =>
    obtain ⟨hD, hR⟩ := hq
    have hd : a'.defers = [] := by rw [hs'.df, hD]; rfl
    show LeavesInM (Wd none) 0 P fn a'.tmps _ a'.defers (.panicking ch) w'
    rw [hd]
    simp only [LeavesInM, LeavesIn]
    exact ⟨C', s'.H, .panic ch, hR, hs'.wr, he', rfl⟩
  | exit i => exact hq
  | goto i => exact hq
  | outgrown => exact absurd rfl h1

/-! ### A call -/

theorem run_call {P : Program} {f : Nat} (h : Callable P f) (vs : Array Value) (w : World) : (callFunc f vs).run P w = .ok (.enter f vs) w := by
  obtain ⟨fn, h1, h2, h3⟩ := h
  simp only [callFunc, Sem.run_bind, program, Sem.run, Result.andThen, h1, h3, h2, Bool.false_eq_true, if_false, Sem.run_pure]

/-- The arguments' abstract values. -/
def evs (T : List (Nat × AV)) : List Operand → Option (List AV)
  | [] => some []
  | p :: r => match ev T p, evs T r with
    | some x, some xs => some (x :: xs)
    | _, _ => none

theorem evs_spec {C : Ctx} {T : List (Nat × AV)} {ρ : Operand → Value} : ∀ (ps : List Operand) (xs : List AV), evs T ps = some xs → (∀ p, p ∈ ps → ∀ y, ev T p = some y → VR C y (ρ p)) →
    VRs C xs (ps.map ρ).toArray
  | [], xs, h, _ => by simp only [evs, Option.some.injEq] at h; subst h; exact ⟨rfl, by intro i x v h; simp at h⟩
  | p :: r, xs, h, hv => by
    simp only [evs] at h
    split at h
    · rename_i x ys h1 h2
      simp only [Option.some.injEq] at h
      subst h
      obtain ⟨h3, h4⟩ := evs_spec r ys h2 (fun q hq => hv q (List.mem_cons_of_mem _ hq))
      refine ⟨by simpa using h3, fun i y v hy hvv => ?_⟩
      cases i with
      | zero => simp at hy hvv; subst hy; subst hvv; exact hv p List.mem_cons_self x h1
      | succ i => exact h4 i y v (by simpa using hy) (by simpa using hvv)
    · cases h

theorem VRs.append {C : Ctx} {xs ys : List AV} {vs us : Array Value} (h : VRs C xs vs) (k : VRs C ys us) : VRs C (xs ++ ys) (vs ++ us) := by
  refine ⟨by simp [h.1, k.1], fun i x v hx hv => ?_⟩
  rw [List.getElem?_append] at hx
  rw [Array.getElem?_append] at hv
  rw [h.1] at hx
  split at hx
  · rename_i hlt; rw [if_pos hlt] at hv; exact h.2 i x v hx hv
  · rename_i hlt; rw [if_neg hlt] at hv; exact k.2 _ x v hx hv

theorem run_callOp {P : Program} {C : Ctx} {o : Oper} {fo : Operand} {args : Array Operand} {ats : Array TypeId} {f : Nat} {caps xs : List AV} {T : List (Nat × AV)} {a : Act} (ho : o.op = .call { callee := .value fo, args := args, argTypes := ats })
    (hfo : ev T fo = some (.fn (.func f) caps)) (hxs : evs T args.toList = some xs) (hc : Callable P f) (hv : ∀ p, p ∈ o.op.operands → ∀ y, ev T p = some y → VR C y (a.eval p)) (ro : Option Nat) (w : World) :
    ∃ vs, VRs C (xs ++ caps) vs ∧ (o.semAt ro a.eval).run P w = .ok (.enter f vs) w := by
  have hmem : ∀ p, p ∈ args.toList → p ∈ o.op.operands := fun p hp => by
    rw [ho]; simp only [Op.operands, Call.operands]; exact Array.mem_append.2 (.inr (by simpa using hp))
  have hmf : fo ∈ o.op.operands := by rw [ho]; simp [Op.operands, Call.operands]
  have h1 := evs_spec (ρ := a.eval) args.toList xs hxs (fun p hp => hv p (hmem p hp))
  have h2 := hv fo hmf _ hfo
  cases he : a.eval fo with
  | func fn first vs2 =>
    rw [he] at h2
    cases h2 with
    | fn _ _ _ hl hh =>
      refine ⟨(args.toList.map a.eval).toArray ++ vs2, h1.append ⟨hl, hh⟩, ?_⟩
      rw [Oper.semAt_eq _ _ _ (by intro c; rw [ho]; nofun)]
      simp only [execOp, ho, Sem.run_bind, resolve, Deferred.ofValue, he, Sem.run_pure, Result.andThen, invoke]
      rw [run_call hc]
      congr 2
      apply Array.ext'
      simp
  | _ => rw [he] at h2; cases h2

/-- A call, by the callee's contract on a part of what is owned. -/
theorem step_call {P : Program} {ro : Option Nat} {s : St} {o : Oper} {fo : Operand} {args : Array Operand} {ats : Array TypeId} {f : Nat} {caps xs : List AV} {K : St → Prop} {KP : List PanicEntry → St → Prop} {R : AEnd → AHeap → Prop} (Hf Fr : AHeap)
    (ho : o.op = .call { callee := .value fo, args := args, argTypes := ats }) (hfo : ev s.T fo = some (.fn (.func f) caps)) (hxs : evs s.T args.toList = some xs) (hp : s.H.Perm (Hf ++ Fr))
    (hd : dok o.dst s.n = true) (hc : ACalls P f (xs ++ caps) Hf R)
    (hk : ∀ x H', R (.ret x) H' → K { s with T := put s.T o.dst x, H := H' ++ Fr }) (hkp : ∀ ch H', R (.panic ch) H' → KP ch { s with H := H' ++ Fr }) : Step P ro o K KP s := by
  intro Z C0 H0 w0 C a w he hs
  obtain ⟨vs, h1, h2⟩ := run_callOp ho hfo hxs hc.ok (fun p _ y hy => hs.ev hy) ro w
  rw [h2]
  refine ⟨nofun, ?_⟩
  refine ((hc.frame s.H Fr hp).run Z C w vs hs.wr h1).mono ?_
  rintro e w' ⟨C', K', x, ⟨H', hR, rfl⟩, hw', he', hx⟩
  cases e with
  | returned v =>
    cases x with
    | ret x => exact ⟨C', _, hk x H' hR, hs.put he'.le hw' (dok_spec hd) hx, he.trans he'⟩
    | panic ch => exact hx.elim
  | panicked ch =>
    cases x with
    | ret x => exact hx.elim
    | panic ch' =>
      have e : ch = ch' := hx
      subst e
      refine ⟨C', _, hkp ch H' hR, ⟨hw', fun t y hy => let ⟨u, h1, h2⟩ := hs.sl t y hy; ⟨u, h1, h2.mono he'.le⟩, ?_, fun i hi => he'.le.U i (hs.du i hi), hs.sz⟩, he.trans he'⟩
      rw [hs.df]; exact List.map_congr_left fun i hi => by simp [mark, he'.le.m i (hs.du i hi)]
  | outgrown => cases x <;> exact hx.elim

theorem split_of_mem : ∀ (Hn H : AHeap), (∀ p, p ∈ Hn → p ∈ H) → (Hn.map Prod.fst).Nodup → ∃ Fr, H.Perm (Hn ++ Fr)
  | [], H, _, _ => ⟨H, .refl _⟩
  | p :: r, H, h, hn => by
    obtain ⟨s, t, rfl⟩ := List.append_of_mem (h p List.mem_cons_self)
    simp only [List.map_cons, List.nodup_cons] at hn
    have h1 : ∀ q, q ∈ r → q ∈ s ++ t := fun q hq => by
      have h2 := h q (List.mem_cons_of_mem _ hq)
      rcases List.mem_append.1 h2 with h3 | h3
      · exact List.mem_append_left _ h3
      · rcases List.mem_cons.1 h3 with rfl | h4
        · exact (hn.1 (List.mem_map.2 ⟨q, hq, rfl⟩)).elim
        · exact List.mem_append_right _ h4
    obtain ⟨Fr, hp⟩ := split_of_mem r (s ++ t) h1 hn.2
    exact ⟨Fr, List.perm_middle.trans (hp.cons p)⟩

/-- A call that gives one value and leaves what it is handed. -/
theorem eff_call {P : Program} {T : List (Nat × AV)} {o : Oper} {fo : Operand} {args : Array Operand} {ats : Array TypeId} {f : Nat} {caps xs : List AV} {x : AV} (Hn : AHeap)
    (ho : o.op = .call { callee := .value fo, args := args, argTypes := ats }) (hfo : ev T fo = some (.fn (.func f) caps)) (hxs : evs T args.toList = some xs)
    (hc : ACalls P f (xs ++ caps) Hn (fun e H' => e = .ret x ∧ H' = Hn)) (hnd : (Hn.map Prod.fst).Nodup) : Eff P o T Hn x [] := by
  intro Z C H a w hw hn hv _ _ _ ro next R hk
  obtain ⟨vs, h1, h2⟩ := run_callOp ho hfo hxs hc.ok hv ro w
  rw [h2]
  refine ⟨nofun, ?_⟩
  obtain ⟨Fr, hp⟩ := split_of_mem Hn H hn hnd
  refine ((hc.frame H Fr hp).run Z C w vs hw h1).mono ?_
  rintro e w' ⟨C', K', y, ⟨H', ⟨hR, rfl⟩, rfl⟩, hw', he', hx⟩
  subst hR
  cases e with
  | returned v => exact hk v w' C' hx (hw'.perm hp.symm) (he'.permR hp.symm)
  | panicked ch => exact hx.elim
  | outgrown => exact hx.elim

end Go.Sx
