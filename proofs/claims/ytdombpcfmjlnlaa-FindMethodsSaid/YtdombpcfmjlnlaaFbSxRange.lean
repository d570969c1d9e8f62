/- A range over a function: what an iterator and the rounds of a loop promise each other. -/
import Derived.Test.YtdombpcfmjlnlaaFbSxMap
import Derived.RangeFuncIn
set_option linter.unusedSimpArgs false
set_option linter.unusedVariables false
set_option linter.unnecessarySimpa false
namespace Go.Sx
open Go

/-- A call of the loop's own function: one round. -/
def YCalls (P : Program) (id : Nat) (xs : List AV) (H : AHeap) (R : AEnd → AHeap → Prop) : Prop :=
  ∀ Z C w vs l N, C.m id = some (l, N) → WR C H w → VRs C xs vs →
    ∃ fn tmps assign body, (Instr.yield l vs).run P w = .ok (.round l fn tmps assign body) w ∧
      RoundIn (Wd none) 0 P l fn tmps assign body w (fun e w' => ∃ C' H' x, R x H' ∧ WR C' H' w' ∧ Ext Z C H w C' H' w' ∧ ER C' x e)

theorem step_yield {P : Program} {ro : Option Nat} {s : St} {o : Oper} {fo : Operand} {args : Array Operand} {ats : Array TypeId} {id : Nat} {xs : List AV} {K : St → Prop} {KP : List PanicEntry → St → Prop} {R : AEnd → AHeap → Prop} (Hf Fr : AHeap)
    (ho : o.op = .call { callee := .value fo, args := args, argTypes := ats }) (hfo : ev s.T fo = some (.yld id)) (hxs : evs s.T args.toList = some xs) (hp : s.H.Perm (Hf ++ Fr))
    (hd : dok o.dst s.n = true) (hc : YCalls P id xs Hf R)
    (hk : ∀ x H', R (.ret x) H' → K { s with T := put s.T o.dst x, H := H' ++ Fr }) (hkp : ∀ ch H', ¬ R (.panic ch) H') : Step P ro o K KP s := by
  intro Z C0 H0 w0 C a w he hs
  have hmem : ∀ p, p ∈ args.toList → p ∈ o.op.operands := fun p hp => by
    rw [ho]; simp only [Op.operands, Call.operands]; exact Array.mem_append.2 (.inr (by simpa using hp))
  have h1 := evs_spec (C := C) (ρ := a.eval) args.toList xs hxs (fun p _ y hy => hs.ev hy)
  have h2 := hs.ev hfo
  have hw1 : WR C (Hf ++ Fr) w := hs.wr.perm hp
  generalize hf : a.eval fo = u at h2
  cases h2 with
  | yld _ l N hid hu =>
    obtain ⟨fn, tmps, assign, body, hy, hR⟩ := hc Z C w _ l N hid hw1.left h1
    have hrun : (o.semAt ro a.eval).run P w = .ok (.round l fn tmps assign body) w := by
      rw [Oper.semAt_eq _ _ _ (by intro c; rw [ho]; nofun)]
      have e : Array.map a.eval args = (args.toList.map a.eval).toArray := by apply Array.ext'; simp
      simp only [execOp, ho, Sem.run_bind, resolve, Deferred.ofValue, hf, Sem.run_pure, Result.andThen, invoke, e]
      simpa using hy
    rw [hrun]
    refine ⟨nofun, ?_⟩
    refine RoundIn.mono (F := Wd ro) hR ?_
    rintro e w' ⟨C', H', x, r, hw', he', hx⟩
    obtain ⟨h3, h4⟩ := he'.frame hw1 hw'
    cases e with
    | returned v =>
      cases x with
      | ret x => exact ⟨C', _, hk x H' r, hs.put he'.le h3 (dok_spec hd) hx, he.trans (h4.permL hp.symm)⟩
      | panic ch => exact hx.elim
    | panicked ch =>
      cases x with
      | ret x => exact hx.elim
      | panic ch' => exact (hkp ch' H' r).elim
    | outgrown => cases x <;> exact hx.elim

/-- How an iterator ends: behind all, or told to stop. -/
def SeqR {α : Type} (J Jx : List α → AHeap → Prop) (xs : List α) : AEnd → AHeap → Prop :=
  fun e H' => (∃ v, e = .ret v) ∧ ((∃ H'', H'.Perm H'' ∧ J xs H'') ∨ (∃ pre H'', H'.Perm H'' ∧ Jx pre H''))

/-- An iterator: a function that calls yield for one element behind the other, till it is told to stop. -/
structure SeqA {α : Type} (P : Program) (gf : Nat) (caps : List AV) (Hit : AHeap) (enc : α → List AV) (xs : List α) : Prop where
  ok : Callable P gf
  run : ∀ (id : Nat) (J Jx : List α → AHeap → Prop),
    (∀ pre x suf H, xs = pre ++ x :: suf → J pre H → YCalls P id (enc x) H (fun e H' => (e = .ret (.v (.bool true)) ∧ J (pre ++ [x]) H') ∨ (e = .ret (.v (.bool false)) ∧ Jx (pre ++ [x]) H'))) →
    ∀ H, J [] H → ACalls P gf (.yld id :: caps) (Hit ++ H) (SeqR J Jx xs)

/-- The parameters of a round. -/
def prm (T : List (Nat × AV)) : List Tmp → List AV → List (Nat × AV)
  | t :: ps, x :: xs => prm ((t, x) :: T) ps xs
  | _, _ => T

theorem prm_spec {C : Ctx} {n : Nat} : ∀ (ps : List Tmp) (xs : List AV) (T : List (Nat × AV)) (tmps : Array Value) (vs : List Value), ps.length = xs.length → xs.length = vs.length → (∀ t, t ∈ ps → t < n) → tmps.size = n →
    (∀ t x, lk T t = some x → ∃ v, tmps[t]? = some v ∧ VR C x v) → (∀ (i : Nat) (x : AV) (v : Value), xs[i]? = some x → vs[i]? = some v → VR C x v) →
    ((ps.zip vs).foldl (fun tmps (x : Tmp × Value) => tmps.setIfInBounds x.1 x.2) tmps).size = n ∧
      ∀ t x, lk (prm T ps xs) t = some x → ∃ v, ((ps.zip vs).foldl (fun tmps (x : Tmp × Value) => tmps.setIfInBounds x.1 x.2) tmps)[t]? = some v ∧ VR C x v
  | [], [], T, tmps, vs, _, _, _, hs, hT, _ => by simpa using ⟨hs, hT⟩
  | [], _ :: _, _, _, _, h, _, _, _, _, _ => by simp at h
  | _ :: _, [], _, _, _, h, _, _, _, _, _ => by simp at h
  | t :: ps, x :: xs, T, tmps, [], _, h, _, _, _, _ => by simp at h
  | t :: ps, x :: xs, T, tmps, v :: vs, h1, h2, h3, hs, hT, hv => by
    simp only [List.zip_cons_cons, List.foldl_cons, prm]
    refine prm_spec ps xs ((t, x) :: T) (tmps.setIfInBounds t v) vs (by simpa using h1) (by simpa using h2) (fun u hu => h3 u (List.mem_cons_of_mem _ hu)) (by simpa using hs) ?_ (fun i y u a b => hv (i + 1) y u (by simpa using a) (by simpa using b))
    intro u y hy
    simp only [lk] at hy
    cases hb : Nat.beq t u with
    | true =>
      have e := Nat.eq_of_beq_eq_true hb
      subst e
      simp only [hb, cond_true, Option.some.injEq] at hy
      subst hy
      have hlt : t < tmps.size := by rw [hs]; exact h3 t List.mem_cons_self
      exact ⟨v, by simp [hlt], hv 0 x v rfl rfl⟩
    | false =>
      simp only [hb, cond_false] at hy
      have hne : t ≠ u := fun e => by subst e; simp at hb
      obtain ⟨z, a, b⟩ := hT u y hy
      exact ⟨z, by rw [Array.getElem?_setIfInBounds_ne hne]; exact a, b⟩

/-- How a round is left. -/
def roundQ {α : Type} (I : List α → AHeap → Prop) (Ix : Code → List α → AHeap → Prop) (pre : List α) : Exit → St → Prop
  | .normal, s => ∃ s', Weak s s' ∧ I pre s'.H
  | .ret, s => ∃ s', Weak s s' ∧ Ix .ret pre s'.H
  | .exit i, s => ∃ s', Weak s s' ∧ Ix (.exit i) pre s'.H
  | .goto i, s => ∃ s', Weak s s' ∧ Ix (.goto i) pre s'.H
  | _, _ => False

/-- The record of a loop, as it stands. -/
theorem loop_or {C : Ctx} {id : Nat} {w : World} {T : List (Nat × AV)} {n : Nat} {ps : Array Tmp} {assign body : Code} {st : LoopState} {pend : Option Code} (h : OR C id w (.loop T n ps assign body st pend)) {l N : Nat} (hm : C.m id = some (l, N)) :
    ∃ r, w.heap[l]? = some (.loop r) ∧ r.state = st ∧ r.pending = pend ∧ r.params = ps ∧ r.assign = assign ∧ r.body = body ∧ r.tmps.size = n ∧ ∀ (t : Nat) (x : AV), lk T t = some x → ∃ v, r.tmps[t]? = some v ∧ VR C x v := by
  obtain ⟨b, N', r, hm', rest⟩ := h
  rw [hm] at hm'; cases hm'
  exact ⟨r, rest⟩

/-- The record is turned. -/
theorem loop_turn {Z : List Nat} {C : Ctx} {R : AHeap} {w : World} {id l N : Nat} {r : Loop} {T : List (Nat × AV)} {n : Nat} {ps : Array Tmp} {assign body : Code} {st st' : LoopState} {pend pend' : Option Code}
    (hw : WR C ((id, .loop T n ps assign body st pend) :: R) w) (hm : C.m id = some (l, N)) (hr : w.heap[l]? = some (.loop r)) :
    WR C ((id, .loop T n ps assign body st' pend') :: R) (w.putObj l (.loop { r with state := st', pending := pend' })) ∧
      Ext Z C ((id, .loop T n ps assign body st pend) :: R) w C ((id, .loop T n ps assign body st' pend') :: R) (w.putObj l (.loop { r with state := st', pending := pend' })) := by
  obtain ⟨hu, hor⟩ := hw.ids _ _ List.mem_cons_self
  obtain ⟨r', h1, h2, h3, h4, h5, h6, h7, h8⟩ := loop_or hor hm
  rw [hr] at h1; cases h1
  refine repl_head hw (.refl C) rfl (.inl rfl) hu (fun _ _ h => h) rfl rfl rfl (by simp) (fun b N' h => .inl ⟨N', h⟩) (fun b hb hne => World.putObj_heap_other (by rintro rfl; exact hne N hm)) ?_
  exact ⟨l, N, _, hm, World.putObj_heap_same (Array.getElem?_eq_some_iff.1 hr).1, rfl, rfl, h4, h5, h6, h7, h8⟩

/-- **for .. := range g { .. }**: the body's invariant I, what holds where it leaves Ix. -/
theorem awp_rangeFunc {P : Program} {Q : Exit → St → Prop} {s : St} {g : Operand} {ps : Array Tmp} {assign body : Code} {gf : Nat} {caps : List AV} {α : Type} (enc : α → List AV) (xs : List α) (Hit Hb0 : AHeap)
    (I : List α → AHeap → Prop) (Ix : Code → List α → AHeap → Prop) (hg : ev s.T g = some (.fn (.func gf) caps)) (hp : s.H.Perm (Hit ++ Hb0)) (hI0 : I [] Hb0) (hseq : SeqA P gf caps Hit enc xs)
    (hps : ∀ x, (enc x).length = ps.size) (hpn : ∀ t, t ∈ ps.toList → t < s.n)
    (round : ∀ l pre x suf Hb, xs = pre ++ x :: suf → I pre Hb → AWp P (some l) assign (fun e s' => e = .normal ∧ AWp P (some l) body (roundQ I Ix (pre ++ [x])) s') ⟨prm s.T ps.toList (enc x), Hb, [], s.n⟩)
    (done : ∀ i Hb, I xs Hb → Q .normal ⟨s.T, Hb ++ [(i, .raw (.deferred (some [])))], i :: s.D, s.n⟩)
    (stop : ∀ i c pre Hb, Ix c pre Hb → AWp P none c Q ⟨s.T, Hb ++ [(i, .raw (.deferred (some [])))], i :: s.D, s.n⟩) :
    AWp P none (.rangeFunc g ps assign body) Q s := by
  intro Z C0 H0 w0 C a w he hs
  refine wpIn_rangeFunc (F := Wd none) (n := 0) (fun fn _ => ?_)
  -- two new blocks
  obtain ⟨i1, hi1⟩ := fresh (C.U ++ Z)
  rw [List.mem_append, not_or] at hi1
  have hd1 : OR (C.bind i1 w.heap.size 0) i1 (w.alloc (.deferred (some []))) (.raw (.deferred (some []))) := ⟨_, 0, Ctx.bind_m .., heap_alloc_new w _⟩
  obtain ⟨hw1, he1⟩ := new_block (Z := Z) hs.wr hi1.1 hi1.2 hd1
  obtain ⟨i2, hi2⟩ := fresh ((C.bind i1 w.heap.size 0).U ++ Z)
  rw [List.mem_append, not_or] at hi2
  let rec0 : Loop := { state := .ready, pending := none, fn := fn, tmps := a.tmps, params := ps, assign := assign, body := body, defers := w.heap.size }
  let C2 := (C.bind i1 w.heap.size 0).bind i2 (w.alloc (.deferred (some []))).heap.size 0
  let w2 := (w.alloc (.deferred (some []))).alloc (.loop rec0)
  have hsz1 : (w.alloc (.deferred (some []))).heap.size = w.heap.size + 1 := by simp
  have hl2 : OR C2 i2 w2 (.loop s.T s.n ps assign body .ready none) := by
    refine ⟨_, 0, rec0, Ctx.bind_m .., heap_alloc_new _ _, rfl, rfl, rfl, rfl, rfl, hs.sz, fun t x ht => ?_⟩
    obtain ⟨v, h1, h2⟩ := hs.sl t x ht
    exact ⟨v, h1, (h2.mono he1.le).mono (Ctx.le_bind hi2.1)⟩
  obtain ⟨hw2, he2⟩ := new_block (Z := Z) hw1 hi2.1 hi2.2 hl2
  have he12 := he1.trans he2
  have hm2 : C2.m i2 = some (w.heap.size + 1, 0) := by rw [← hsz1]; exact Ctx.bind_m ..
  have hm1 : C2.m i1 = some (w.heap.size, 0) := by rw [he2.le.m i1 List.mem_cons_self]; exact Ctx.bind_m ..
  -- the function's value
  have hgv := hs.ev hg
  generalize hge : a.eval g = gv at hgv
  cases hgv with
  | fn _ _ vcaps hcl hcv =>
    refine ⟨w.heap.size + 1, [{ target := .collected w.heap.size, args := #[] }], w2, { target := .fn (.func gf) vcaps, args := #[.func (.yield (w.heap.size + 1)) #[] #[]] }, w2, gf, #[.func (.yield (w.heap.size + 1)) #[] #[]] ++ vcaps, w2, run_enterLoop_outer fn a.tmps ps assign body, ?_, fun _ _ => trivial, ?_, nofun, ?_⟩
    · simp only [resolve, rangeCall, Deferred.ofValue, hge, Sem.run_pure]
      simp [Act.eval]
    · simp only [invoke]; exact run_call hseq.ok _ w2
    -- the rounds
    let J : List α → AHeap → Prop := fun pre H => ∃ Hb, I pre Hb ∧ H = (i2, .loop s.T s.n ps assign body .ready none) :: Hb
    let Jx : List α → AHeap → Prop := fun pre H => ∃ c Hb, Ix c pre Hb ∧ H = (i2, .loop s.T s.n ps assign body .done (some c)) :: Hb
    have hY : ∀ pre x suf H, xs = pre ++ x :: suf → J pre H → YCalls P i2 (enc x) H (fun e H' => (e = .ret (.v (.bool true)) ∧ J (pre ++ [x]) H') ∨ (e = .ret (.v (.bool false)) ∧ Jx (pre ++ [x]) H')) := by
      rintro pre x suf H hxs ⟨Hb, hI, rfl⟩
      intro Z1 C1 w1 vs l N hm hwr hvs
      obtain ⟨hu, hor⟩ := hwr.ids _ _ List.mem_cons_self
      obtain ⟨r, h1, h2, h3, h4, h5, h6, h7, h8⟩ := loop_or hor hm
      refine ⟨r.fn, _, r.assign, r.body, run_yield h1 (by rw [← hvs.1, hps, h4]), ?_⟩
      refine roundIn_of_wpIn (F := Wd none) trivial ?_
      have hwb : WR C1 Hb w1 := (hwr.perm (List.perm_append_comm (l₁ := [(i2, _)]) (l₂ := Hb))).left
      have hfold : ((r.params.zip vs).foldl (fun tmps (x : Tmp × Value) => tmps.setIfInBounds x.1 x.2) r.tmps) = ((ps.toList.zip vs.toList).foldl (fun tmps (x : Tmp × Value) => tmps.setIfInBounds x.1 x.2) r.tmps) := by
        rw [h4, ← Array.foldl_toList, Array.toList_zip]
      obtain ⟨hq1, hq2⟩ := prm_spec (C := C1) (n := s.n) ps.toList (enc x) s.T r.tmps vs.toList (by rw [hps]; simp) (by rw [hvs.1]; simp) hpn h7 h8 (fun i y v hy hv => hvs.2 i y v hy (by rw [← Array.getElem?_toList]; exact hv))
      have hSR : SR C1 ⟨prm s.T ps.toList (enc x), Hb, [], s.n⟩ { tmps := (r.params.zip vs).foldl (fun tmps (x : Tmp × Value) => tmps.setIfInBounds x.1 x.2) r.tmps, defers := [] } w1 := by
        refine ⟨hwb, ?_, rfl, nofun, ?_⟩
        · rw [hfold]; exact hq2
        · rw [hfold]; exact hq1
      rw [h5, h6]
      refine wpIn_mono (round l pre x suf Hb hxs hI (Z1 ++ []) C1 Hb w1 C1 _ w1 (.refl ..) hSR) ?_
      rintro e a' w' ⟨_, C', s', ⟨rfl, hbody⟩, hs', he'⟩
      -- the record is beside
      have hperm : ((i2, AObj.loop s.T s.n ps assign body .ready none) :: Hb).Perm (Hb ++ [(i2, .loop s.T s.n ps assign body .ready none)]) := List.perm_append_comm (l₁ := [(i2, _)]) (l₂ := Hb)
      obtain ⟨hf1, hf2⟩ := he'.frame (hwr.perm hperm) hs'.wr
      have hperm' : (s'.H ++ [(i2, AObj.loop s.T s.n ps assign body .ready none)]).Perm ((i2, .loop s.T s.n ps assign body .ready none) :: s'.H) := List.perm_append_comm (l₁ := s'.H) (l₂ := [(i2, _)])
      have hwr' := hf1.perm hperm'
      have hm' : C'.m i2 = some (l, N) := by rw [he'.le.m i2 hu]; exact hm
      obtain ⟨_, hor'⟩ := hwr'.ids _ _ List.mem_cons_self
      obtain ⟨r', g1, g2, g3, g4, g5, g6, g7, g8⟩ := loop_or hor' hm'
      obtain ⟨hb1, hb2⟩ := loop_turn (Z := Z1) (st' := .busy) (pend' := r'.pending) hwr' hm' g1
      refine ⟨_, run_beginRound g1 g2, ?_⟩
      have hwbusy : WR C' s'.H (w'.putObj l (.loop { r' with state := .busy })) := (hb1.perm (List.perm_append_comm (l₁ := [(i2, _)]) (l₂ := s'.H))).left
      refine wpIn_mono (hbody (Z1 ++ []) C' s'.H _ C' a' _ (.refl ..) ⟨hwbusy, hs'.sl, hs'.df, hs'.du, hs'.sz⟩) ?_
      rintro e a'' w'' ⟨hno, C'', s'', hq, hs'', he''⟩
      have big : ∀ s3, Weak s'' s3 → ∀ (jump : Option Code) (st : LoopState), st = (if jump.isNone then .ready else .done) →
          ∃ v w4, (Instr.endRound l jump).run P w'' = .ok v w4 ∧ v = .bool jump.isNone ∧ ∃ C3, WR C3 ((i2, .loop s.T s.n ps assign body st jump) :: s3.H) w4 ∧ Ext Z1 C1 ((i2, .loop s.T s.n ps assign body .ready none) :: Hb) w1 C3 ((i2, .loop s.T s.n ps assign body st jump) :: s3.H) w4 := by
        intro s3 hwk jump st hst
        obtain ⟨C3, hs3, he3⟩ := hwk Z1 C'' a'' w'' hs''
        have he4 : Ext Z1 C' s'.H (w'.putObj l (.loop { r' with state := .busy })) C3 s3.H w'' := (he''.subZ (fun z hz => List.mem_append_left _ hz)).trans he3
        obtain ⟨hf3, hf4⟩ := he4.frame (hb1.perm (List.perm_append_comm (l₁ := [(i2, _)]) (l₂ := s'.H))) hs3.wr
        have hwr3 := hf3.perm (List.perm_append_comm (l₁ := s3.H) (l₂ := [(i2, _)]))
        have hm3 : C3.m i2 = some (l, N) := by
          rw [he4.le.m i2 (he'.le.U i2 hu)]; exact hm'
        obtain ⟨_, hor3⟩ := hwr3.ids _ _ List.mem_cons_self
        obtain ⟨r3, k1, k2, k3, k4, k5, k6, k7, k8⟩ := loop_or hor3 hm3
        obtain ⟨ht1, ht2⟩ := loop_turn (Z := Z1) (st' := st) (pend' := jump) hwr3 hm3 k1
        refine ⟨_, _, run_endRound jump k1, rfl, C3, by rw [← hst]; exact ht1, ?_⟩
        rw [← hst]
        have x1 : Ext Z1 C1 ((i2, .loop s.T s.n ps assign body .ready none) :: Hb) w1 C' ((i2, .loop s.T s.n ps assign body .ready none) :: s'.H) w' := ((hf2.subZ (fun z hz => List.mem_append_left _ hz)).permL hperm.symm).permR hperm'
        have x2 := (hf4.permL (List.perm_append_comm (l₁ := s'.H) (l₂ := [(i2, _)]))).permR (List.perm_append_comm (l₁ := s3.H) (l₂ := [(i2, _)]))
        exact ((x1.trans hb2).trans x2).trans ht2
      cases e with
      | normal =>
        obtain ⟨s3, hwk, hI3⟩ := hq
        obtain ⟨v, w4, k1, rfl, C3, k2, k3⟩ := big s3 hwk none .ready rfl
        exact ⟨_, w4, k1, C3, _, .ret (.v (.bool true)), .inl ⟨rfl, s3.H, hI3, rfl⟩, k2, k3, .v _⟩
      | ret =>
        obtain ⟨s3, hwk, hI3⟩ := hq
        obtain ⟨v, w4, k1, rfl, C3, k2, k3⟩ := big s3 hwk (some .ret) .done rfl
        exact ⟨_, w4, k1, C3, _, .ret (.v (.bool false)), .inr ⟨rfl, _, s3.H, hI3, rfl⟩, k2, k3, .v _⟩
      | exit i =>
        obtain ⟨s3, hwk, hI3⟩ := hq
        obtain ⟨v, w4, k1, rfl, C3, k2, k3⟩ := big s3 hwk (some (.exit i)) .done rfl
        exact ⟨_, w4, k1, C3, _, .ret (.v (.bool false)), .inr ⟨rfl, _, s3.H, hI3, rfl⟩, k2, k3, .v _⟩
      | goto i =>
        obtain ⟨s3, hwk, hI3⟩ := hq
        obtain ⟨v, w4, k1, rfl, C3, k2, k3⟩ := big s3 hwk (some (.goto i)) .done rfl
        exact ⟨_, w4, k1, C3, _, .ret (.v (.bool false)), .inr ⟨rfl, _, s3.H, hI3, rfl⟩, k2, k3, .v _⟩
      | panic ch => exact hq.elim
      | outgrown => exact hno rfl
    -- the one call
    have hcall := hseq.run i2 J Jx hY _ ⟨Hb0, hI0, rfl⟩
    have hpa : ((i2, AObj.loop s.T s.n ps assign body .ready none) :: (i1, .raw (.deferred (some []))) :: s.H).Perm ((Hit ++ (i2, .loop s.T s.n ps assign body .ready none) :: Hb0) ++ [(i1, .raw (.deferred (some [])))]) := by
      refine List.Perm.trans ?_ (List.perm_append_comm (l₁ := [(i1, AObj.raw (.deferred (some [])))]) (l₂ := Hit ++ (i2, .loop s.T s.n ps assign body .ready none) :: Hb0))
      refine (List.Perm.swap _ _ _).trans ?_
      refine List.Perm.cons _ ?_
      exact (List.Perm.cons _ hp).trans List.perm_middle.symm
    have hvs : VRs C2 (.yld i2 :: caps) (#[.func (.yield (w.heap.size + 1)) #[] #[]] ++ vcaps) := by
      have h1 : VRs C2 [.yld i2] #[.func (.yield (w.heap.size + 1)) #[] #[]] := ⟨rfl, by
        intro i x v hx hv
        cases i with
        | zero => simp at hx hv; subst hx; subst hv; exact .yld i2 _ 0 hm2 List.mem_cons_self
        | succ i => simp at hx⟩
      exact h1.append ⟨hcl, fun i x v hx hv => ((hcv i x v hx hv).mono he1.le).mono he2.le⟩
    refine ((hcall.frame _ _ hpa).run Z C2 w2 _ hw2 hvs).mono ?_
    rintro e w3 ⟨C3, K3, x, ⟨H', ⟨⟨v, rfl⟩, hfin⟩, rfl⟩, hw3, he3, hx⟩
    have hm3 : C3.m i2 = some (w.heap.size + 1, 0) := by rw [he3.le.m i2 List.mem_cons_self]; exact hm2
    -- behind it
    have fin : ∀ (st : LoopState) (pend : Option Code) (Hb : AHeap), H'.Perm ((i2, .loop s.T s.n ps assign body st pend) :: Hb) → st ≠ .busy →
        ∃ w4, (Instr.endLoop (w.heap.size + 1)).run P w3 = .ok pend w4 ∧ SR C3 ⟨s.T, Hb ++ [(i1, .raw (.deferred (some [])))], i1 :: s.D, s.n⟩ { a with defers := [{ target := .collected w.heap.size, args := #[] }] ++ a.defers } w4 ∧
          Ext Z C0 H0 w0 C3 (Hb ++ [(i1, .raw (.deferred (some [])))]) w4 := by
      intro st pend Hb hpm hst
      have hpm' : (H' ++ [(i1, AObj.raw (.deferred (some [])))]).Perm ((i2, .loop s.T s.n ps assign body st pend) :: (Hb ++ [(i1, .raw (.deferred (some [])))])) := by
        exact List.Perm.append_right _ hpm
      have hwl := hw3.perm hpm'
      obtain ⟨_, hor⟩ := hwl.ids _ _ List.mem_cons_self
      obtain ⟨r, g1, g2, g3, _⟩ := loop_or hor hm3
      obtain ⟨ht1, ht2⟩ := loop_turn (Z := Z) (st' := .exhausted) (pend' := r.pending) hwl hm3 g1
      refine ⟨_, by rw [← g3]; exact run_endLoop g1 (by rw [g2]; exact hst), ?_, ?_⟩
      · have hsub : ∀ p, p ∈ (Hb ++ [(i1, AObj.raw (.deferred (some [])))]) → p ∈ (i2, AObj.loop s.T s.n ps assign body .exhausted r.pending) :: (Hb ++ [(i1, AObj.raw (.deferred (some [])))]) := fun p hp => List.mem_cons_of_mem _ hp
        have hnd := ht1.nd
        simp only [List.map_cons, List.nodup_cons] at hnd
        refine ⟨ht1.sub hsub hnd.2, fun t x ht => ?_, ?_, ?_, hs.sz⟩
        · obtain ⟨v, h1, h2⟩ := hs.sl t x ht
          exact ⟨v, h1, (h2.mono he12.le).mono he3.le⟩
        · simp only [List.map_cons, List.cons_append, List.nil_append]
          have e1 : mark C3 i1 = { target := .collected w.heap.size, args := #[] } := by
            simp [mark, he3.le.m i1 (List.mem_cons_of_mem _ List.mem_cons_self), hm1]
          rw [e1, hs.df]
          congr 1
          exact List.map_congr_left fun i hi => by
            have e2 : C3.m i = C.m i := (he3.le.m i (he12.le.U i (hs.du i hi))).trans (he12.le.m i (hs.du i hi))
            simp only [mark, e2]
        · intro i hi
          rcases List.mem_cons.1 hi with rfl | hi
          · exact he3.le.U _ (List.mem_cons_of_mem _ List.mem_cons_self)
          · exact he3.le.U i (he12.le.U i (hs.du i hi))
      · refine (he.trans (he12.trans ((he3.permR hpm').trans ht2))).trans (Ext.sub (fun p hp => List.mem_cons_of_mem _ hp))
    cases e with
    | returned v' =>
      rcases hfin with ⟨H'', hpm, Hb, hI, rfl⟩ | ⟨pre, H'', hpm, c, Hb, hIx, rfl⟩
      · obtain ⟨w4, h1, h2, h3⟩ := fin .ready none Hb hpm nofun
        exact ⟨none, w4, h1, nofun, C3, _, done i1 Hb hI, h2, h3⟩
      · obtain ⟨w4, h1, h2, h3⟩ := fin .done (some c) Hb hpm nofun
        exact ⟨some c, w4, h1, stop i1 c pre Hb hIx Z C0 H0 w0 C3 _ w4 h3 h2⟩
    | panicked ch => exact hx.elim
    | outgrown => exact hx.elim

end Go.Sx
