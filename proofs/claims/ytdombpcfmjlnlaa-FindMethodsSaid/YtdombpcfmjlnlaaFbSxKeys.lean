/- A range over a map that is owned: code from one fixed point on, the operations that step through a map, what they hand out. -/
import Derived.Test.YtdombpcfmjlnlaaFbSxSeqG
import Derived.Test.YtdombpcfmjlnlaaFbSxMore
import Derived.Test.YtdombpcfmjlnlaaFbSxSpec
import Derived.Maps.RangeRun
set_option linter.unusedSimpArgs false
set_option linter.unusedVariables false
set_option linter.unnecessarySimpa false
namespace Go.Sx
open Go
open Go.ChangeMaps (setBlock)

/-- The same as AWp, from one point on. -/
def AWpO (Z : List Nat) (C0 : Ctx) (H0 : AHeap) (w0 : World) (P : Program) (ro : Option Nat) (c : Code) (Q : Exit → St → Prop) (s : St) : Prop :=
  ∀ C a w, Ext Z C0 H0 w0 C s.H w → SR C s a w → c.wpIn (Wd ro) 0 P (Post Z C0 H0 w0 Q) a w
def AOpsO (Z : List Nat) (C0 : Ctx) (H0 : AHeap) (w0 : World) (P : Program) (ro : Option Nat) (ops : Array Oper) (l : List Oper) (Q : Exit → St → Prop) (s : St) : Prop :=
  ∀ k, ops.toList.drop k = l → ∀ C a w, Ext Z C0 H0 w0 C s.H w → SR C s a w → wpOpsIn (Wd ro) 0 P ops (Post Z C0 H0 w0 Q) (List.range' k l.length) a w
section
variable {Z : List Nat} {C0 : Ctx} {H0 : AHeap} {w0 : World} {P : Program} {ro : Option Nat} {Q : Exit → St → Prop} {s : St}

theorem awpo_of {c : Code} (h : AWp P ro c Q s) : AWpO Z C0 H0 w0 P ro c Q s := h Z C0 H0 w0
theorem awpo_seq {x y : Code} (h : AWpO Z C0 H0 w0 P ro x (thenQ (AWpO Z C0 H0 w0 P ro y Q) Q) s) : AWpO Z C0 H0 w0 P ro (.seq x y) Q s :=
  fun C a w he hs => wpIn_seq (wpIn_mono (h C a w he hs) (by
    rintro e a' w' ⟨h1, C', s', hq, hs', he'⟩
    cases e with
    | normal => exact hq C' a' w' he' hs'
    | outgrown => exact absurd rfl h1
    | _ => exact ⟨h1, C', s', hq, hs', he'⟩))
theorem awpo_cond {c : Operand} {x y : Code} {t : Bool} (hc : ev s.T c = some (.v (.bool t))) (ht : t = true → AWpO Z C0 H0 w0 P ro x Q s) (hf : t = false → AWpO Z C0 H0 w0 P ro y Q s) : AWpO Z C0 H0 w0 P ro (.cond c x y) Q s :=
  fun C a w he hs => wpIn_cond_split (t := t) (VR.val (hs.ev hc)) (fun h => ht h C a w he hs) (fun h => hf h C a w he hs)
theorem awpo_block {id : Nat} {c : Code} (h : AWpO Z C0 H0 w0 P ro c (blockQ id Q) s) : AWpO Z C0 H0 w0 P ro (.block id c) Q s :=
  fun C a w he hs => wpIn_block (wpIn_mono (h C a w he hs) (by
    rintro e a' w' ⟨h1, C', s', hq, hs', he'⟩
    cases e with
    | exit i =>
      by_cases hi : i = id
      · simp only [blockQ, hi, if_true] at hq
        simp only [Exit.inBlock, hi, if_true]
        exact ⟨nofun, C', s', hq, hs', he'⟩
      · simp only [blockQ, hi, if_false] at hq
        simp only [Exit.inBlock, hi, if_false]
        exact ⟨nofun, C', s', hq, hs', he'⟩
    | _ => exact ⟨h1, C', s', hq, hs', he'⟩))
theorem awpo_weak {c : Code} {s' : St} (hw : Weak s s') (h : AWpO Z C0 H0 w0 P ro c Q s') : AWpO Z C0 H0 w0 P ro c Q s :=
  fun C a w he hs => let ⟨C', h1, h2⟩ := hw Z C a w hs; h C' a w (he.trans h2) h1
theorem awpo_loop {c : Code} {α : Type} (inv : α → St) (μ : α → Nat) (x0 : α) (h0 : Weak s (inv x0))
    (round : ∀ x, AWpO Z C0 H0 w0 P ro c (thenQ (fun s' => ∃ y, μ y < μ x ∧ Weak s' (inv y)) Q) (inv x)) : AWpO Z C0 H0 w0 P ro (.loop c) Q s := by
  refine awpo_weak h0 ?_
  intro C a w he hs
  let I : Act → World → Nat → Prop := fun a w n => ∃ x C, μ x ≤ n ∧ SR C (inv x) a w ∧ Ext Z C0 H0 w0 C (inv x).H w
  have hI : ∃ n, I a w n := ⟨μ x0, x0, C, Nat.le_refl _, hs, he⟩
  classical
  refine wpIn_loop (fun a w => ∃ n, I a w n) (fun a w => if h : ∃ n, I a w n then Classical.choose (least_of h) else 0) hI ?_
  intro a w hx
  obtain ⟨x, C, hle, hs, he⟩ := (Classical.choose_spec (least_of hx)).1
  refine wpIn_mono (round x C a w he hs) ?_
  rintro e a' w' ⟨h1, C', s', hq, hs', he'⟩
  cases e with
  | normal =>
    obtain ⟨y, hy, hwk⟩ := hq
    obtain ⟨C'', h2, h3⟩ := hwk Z C' a' w' hs'
    have hi : I a' w' (μ y) := ⟨y, C'', Nat.le_refl _, h2, he'.trans h3⟩
    refine ⟨⟨_, hi⟩, ?_⟩
    rw [dif_pos ⟨_, hi⟩, dif_pos hx]
    exact Nat.lt_of_le_of_lt ((Classical.choose_spec (least_of ⟨_, hi⟩)).2 _ hi) (Nat.lt_of_lt_of_le hy hle)
  | outgrown => exact absurd rfl h1
  | _ => exact ⟨h1, C', s', hq, hs', he'⟩
/-- The same with what holds of the family's names. -/
theorem awpo_loopJ {c : Code} {α : Type} (inv : α → St) (J : α → Prop) (μ : α → Nat) (x0 : α) (j0 : J x0) (h0 : Weak s (inv x0))
    (round : ∀ x, J x → AWpO Z C0 H0 w0 P ro c (thenQ (fun s' => ∃ y, J y ∧ μ y < μ x ∧ Weak s' (inv y)) Q) (inv x)) : AWpO Z C0 H0 w0 P ro (.loop c) Q s :=
  awpo_loop (α := { x : α // J x }) (fun x => inv x.1) (fun x => μ x.1) ⟨x0, j0⟩ h0 fun x => by
    intro C a w he hs
    refine wpIn_mono (round x.1 x.2 C a w he hs) ?_
    rintro e a' w' ⟨h1, C', s', hq, hs', he'⟩
    refine ⟨h1, C', s', ?_, hs', he'⟩
    cases e with
    | normal => obtain ⟨y, h2, h3, h4⟩ := hq; exact ⟨⟨y, h2⟩, h3, h4⟩
    | _ => exact hq
theorem awpo_region {id : Nat} {l : List Oper} (h : AOpsO Z C0 H0 w0 P ro l.toArray l Q s) : AWpO Z C0 H0 w0 P ro (.region id l.toArray false) Q s :=
  fun C a w he hs => wpIn_region (by
    have := h 0 (by simp) C a w he hs
    rw [List.range_eq_range']
    simpa using this)
theorem aopso_nil {ops : Array Oper} (h : Q .normal s) : AOpsO Z C0 H0 w0 P ro ops [] Q s := fun _ _ C _ _ he hs => by
  simp only [List.length_nil, List.range'_zero, wpOpsIn]
  exact ⟨nofun, C, s, h, hs, he⟩
def StepO (Z : List Nat) (C0 : Ctx) (H0 : AHeap) (w0 : World) (P : Program) (ro : Option Nat) (o : Oper) (K : St → Prop) (KP : List PanicEntry → St → Prop) (s : St) : Prop :=
  ∀ C a w, Ext Z C0 H0 w0 C s.H w → SR C s a w →
    o.uponIn (Wd ro) 0 P a (Sat Z C0 H0 w0 K) (fun e a' w' => match e with | .panic ch => Sat Z C0 H0 w0 (KP ch) a' w' | _ => False) ((o.semAt ro a.eval).run P w)
theorem aopso_step {ops : Array Oper} {o : Oper} {rest : List Oper} (hw : Wanted ops s.T o true)
    (h : StepO Z C0 H0 w0 P ro o (AOpsO Z C0 H0 w0 P ro ops rest Q) (fun ch => Q (.panic ch)) s) : AOpsO Z C0 H0 w0 P ro ops (o :: rest) Q s := by
  intro k hk C a w he hs
  obtain ⟨h1, h2⟩ := drop_cons_get hk
  have ho : ops[k]? = some o := by rw [← Array.getElem?_toList]; exact h1
  rw [List.length_cons, List.range'_succ, wpOpsIn_cons]
  unfold wpOpIn
  simp only [ho, hs.wanted hw, if_true]
  refine ⟨fun _ _ => trivial, ?_⟩
  refine uponIn_mono ?_ ?_ ?_ (h C a w he hs)
  · rintro a' w' ⟨C', s', hk', hs', he'⟩
    exact hk' (k + 1) h2 C' a' w' he' hs'
  · intro c w' hx
    exact ⟨nofun, hx⟩
  · rintro ⟨a', w', hx⟩
    exact hx.elim
theorem aopso_eff {ops : Array Oper} {o : Oper} {rest : List Oper} (Hn : AHeap) (x : AV) (hw : Wanted ops s.T o true) (hd : dok o.dst s.n = true)
    (he : Eff P o s.T Hn x []) (hn : ∀ p, p ∈ Hn → p ∈ s.H) (h : AOpsO Z C0 H0 w0 P ro ops rest Q { s with T := Sx.put s.T o.dst x }) : AOpsO Z C0 H0 w0 P ro ops (o :: rest) Q s := by
  refine aopso_step hw ?_
  intro C a w hx hs
  refine he Z C s.H a w hs.wr hn (fun p _ y hy => hs.ev hy) nofun List.nodup_nil (fun _ _ => by simp) ro _ _ ?_
  intro v w1 C1 hv hw1 he1
  exact ⟨C1, _, h, hs.put he1.le hw1 (dok_spec hd) hv, hx.trans he1⟩
theorem aopso_e {ops : Array Oper} {o : Oper} {rest : List Oper} {x : AV} (hw : Wanted ops s.T o true) (hd : dok o.dst s.n = true)
    (he : Eff P o s.T [] x []) (h : AOpsO Z C0 H0 w0 P ro ops rest Q { s with T := Sx.put s.T o.dst x }) : AOpsO Z C0 H0 w0 P ro ops (o :: rest) Q s := by
  refine aopso_step hw ?_
  intro C a w hx hs
  refine he Z C s.H a w hs.wr nofun (fun p _ y hy => hs.ev hy) nofun List.nodup_nil (fun _ _ => by simp) ro _ _ ?_
  intro v w1 C1 hv hw1 he1
  exact ⟨C1, _, h, hs.put he1.le hw1 (dok_spec hd) hv, hx.trans he1⟩

/-! ### Stepping through a map -/

theorem raw_at {C : Ctx} {H : AHeap} {w : World} {k id b N : Nat} {o : Obj} (hw : WR C H w) (hH : H[k]? = some (id, .raw o)) (hm : C.m id = some (b, N)) : w.heap[b]? = some o := by
  obtain ⟨_, b', N', h1, h2⟩ := hw.ids _ _ (List.mem_of_getElem? hH)
  rw [hm] at h1; cases h1
  exact h2

theorem aopso_range {ops : Array Oper} {o : Oper} {rest : List Oper} {t kt et q mb N : Nat} {p : Operand} {ents : Array MapEntry} {clock : Nat} (k : Nat) [hu : UD P t (.map kt et)] (hw : Wanted ops s.T o true) (hd : dok o.dst s.n = true)
    (ho : o.op = .range t p) (hp : ev s.T p = some (.map q)) (hH : s.H[k]? = some (q, .raw (.map ents clock))) (hq : C0.m q = some (mb, N)) (hqu : q ∈ C0.U)
    (h : ∀ id, AOpsO Z C0 H0 w0 P ro ops rest Q { s with T := Sx.put s.T o.dst (.ptr id 1 0 0), H := (id, .raw (.mapIter (some mb) clock #[] clock)) :: s.H }) : AOpsO Z C0 H0 w0 P ro ops (o :: rest) Q s := by
  refine aopso_step hw ?_
  intro C a w hx hs
  have hm : C.m q = some (mb, N) := (hx.le.m q hqu).trans hq
  have hb := raw_at hs.wr hH hm
  have hpv := hs.ev hp
  have hpe : a.eval p = .map (some mb) := by
    generalize a.eval p = u at hpv
    cases hpv with
    | map _ b' N' hid _ => rw [hm] at hid; cases hid; rfl
  obtain ⟨id, hid⟩ := fresh (C.U ++ Z)
  rw [List.mem_append, not_or] at hid
  have hor : OR (C.bind id w.heap.size 1) id (w.alloc (.mapIter (some mb) clock #[] clock)) (.raw (.mapIter (some mb) clock #[] clock)) := ⟨_, 1, Ctx.bind_m .., heap_alloc_new w _⟩
  obtain ⟨hw1, he1⟩ := new_block (Z := Z) hs.wr hid.1 hid.2 hor
  have hrun : (o.semAt ro a.eval).run P w = .ok (.value (.pointer (some ⟨w.heap.size, 0, none⟩))) (w.alloc (.mapIter (some mb) clock #[] clock)) := by
    rw [Oper.semAt_eq _ _ _ (by intro c; rw [ho]; nofun)]
    simp only [execOp, ho, hpe]
    simp [Sem.run_bind, run_range_map w t kt et mb ents clock hu.ud hb, Result.andThen]
  rw [hrun]
  refine ⟨_, _, h id, hs.put he1.le hw1 (dok_spec hd) ?_, hx.trans he1⟩
  have := VR.ptr (C := C.bind id w.heap.size 1) id 1 0 0 w.heap.size 1 (Ctx.bind_m ..) List.mem_cons_self
  simpa using this

theorem aopso_next {ops : Array Oper} {o : Oper} {rest : List Oper} {q it mb N since c0 : Nat} {p : Operand} {ents : Array MapEntry} {clock : Nat} {seen : Array Nat} (j k : Nat) (hw : Wanted ops s.T o true) (hd : dok o.dst s.n = true)
    (ho : o.op = .next p false) (hp : ev s.T p = some (.ptr it 1 0 0)) (hI : s.H[j]? = some (it, .raw (.mapIter (some mb) since seen c0))) (hH : s.H[k]? = some (q, .raw (.map ents clock))) (hq : C0.m q = some (mb, N)) (hqu : q ∈ C0.U)
    (hold : ∀ x ∈ ents.toList, x.born < since) (hsc : since ≤ c0)
    (h0 : (leftOf ents seen).size = 0 → AOpsO Z C0 H0 w0 P ro ops rest Q { s with T := Sx.put s.T o.dst (.tup [.v (.bool false)]) })
    (h1 : ∀ e ∈ (leftOf ents seen).toList, AOpsO Z C0 H0 w0 P ro ops rest Q { s with T := Sx.put s.T o.dst (.tup [.v (.bool true), .v e.key, .v e.val]), H := s.H.set j (it, .raw (.mapIter (some mb) since (seen.push e.born) clock)) }) : AOpsO Z C0 H0 w0 P ro ops (o :: rest) Q s := by
  refine aopso_step hw ?_
  intro C a w hx hs
  have hm : C.m q = some (mb, N) := (hx.le.m q hqu).trans hq
  have hb := raw_at hs.wr hH hm
  have hpv := hs.ev hp
  have tup1 : ∀ C' : Ctx, VR C' (.tup [.v (.bool false)]) (.tuple #[.bool false]) := fun C' => .tup _ _ rfl (fun i c x hc hv => by
    cases i with
    | zero => simp at hc hv; subst hc; subst hv; exact .v _
    | succ i => simp at hc)
  have tup3 : ∀ (C' : Ctx) (x y : Value), VR C' (.tup [.v (.bool true), .v x, .v y]) (.tuple #[.bool true, x, y]) := fun C' x y => .tup _ _ rfl (fun i c z hc hv => by
    rcases i with _ | _ | _ | i
    · simp at hc hv; subst hc; subst hv; exact .v _
    · simp at hc hv; subst hc; subst hv; exact .v _
    · simp at hc hv; subst hc; subst hv; exact .v _
    · simp at hc)
  obtain ⟨hu', r, N', hmi, hr⟩ := hs.wr.ids _ _ (List.mem_of_getElem? hI)
  have hpe : a.eval p = .pointer (some ⟨r, 0, none⟩) := by
    generalize a.eval p = u at hpv
    cases hpv with
    | ptr _ _ _ _ b' N'' hid _ => rw [hmi] at hid; cases hid; rfl
  have hsem : ∀ (v : Value) (w' : World), (Instr.next (.pointer (some ⟨r, 0, none⟩)) false o.type).run P w = .ok v w' → (o.semAt ro a.eval).run P w = .ok (.value v) w' := fun v w' hv => by
    rw [Oper.semAt_eq _ _ _ (by intro c; rw [ho]; nofun)]
    simp only [execOp, ho, hpe]
    simp [Sem.run_bind, hv, Result.andThen]
  rcases run_next_at (P := P) w o.type r mb since c0 seen ents clock hr hb hold hsc with ⟨hz, hrun⟩ | ⟨e, hem, w1, hw1, hrun⟩
  · rw [hsem _ _ hrun]
    exact ⟨C, _, h0 hz, hs.put (.refl C) hs.wr (dok_spec hd) (tup1 C), hx⟩
  · rw [hsem _ _ hrun]
    have hlt : r < w.heap.size := (Array.getElem?_eq_some_iff.1 hr).1
    have hh : w1.heap = w.heap ∧ w1.os = w.os ∧ w1.tape = w.tape ∧ w1.output = w.output := by rcases hw1 with rfl | rfl <;> exact ⟨rfl, rfl, rfl, rfl⟩
    have hget : ∀ b, (setBlock w1 r (.mapIter (some mb) since (seen.push e.born) clock)).heap[b]? = if b = r then some (.mapIter (some mb) since (seen.push e.born) clock) else w.heap[b]? := fun b => by
      simp only [setBlock, hh.1]
      rw [Array.getElem?_setIfInBounds]
      split
      · rename_i hbr; subst hbr; simp [hlt]
      · rename_i hbr; rw [if_neg (fun h => hbr h.symm)]
    obtain ⟨g1, g2⟩ := repl_at (Z := Z) (C' := C) (id' := it) (o' := .raw (.mapIter (some mb) since (seen.push e.born) clock)) (w' := setBlock w1 r (.mapIter (some mb) since (seen.push e.born) clock)) hs.wr hI (.refl C) rfl (.inl rfl) hu' (fun _ _ h => h)
      hh.2.1 hh.2.2.1 hh.2.2.2 (by simp [setBlock, hh.1]) (fun b N' hm' => .inl ⟨N', hm'⟩) (fun b2 hb2 hne => by rw [hget, if_neg (by rintro rfl; exact hne _ hmi)]) ⟨r, N', hmi, by rw [hget, if_pos rfl]⟩
    exact ⟨C, _, h1 e hem, hs.put g2.le g1 (dok_spec hd) (tup3 C _ _), hx.trans g2⟩

theorem aopso_entry {ops : Array Oper} {o : Oper} {rest : List Oper} {q it mb N since : Nat} {p : Operand} {ents : Array MapEntry} {clock : Nat} {seen : Array Nat} {e : MapEntry} (j k : Nat) (hw : Wanted ops s.T o true) (hd : dok o.dst s.n = true)
    (ho : o.op = .entry p) (hp : ev s.T p = some (.ptr it 1 0 0)) (hI : s.H[j]? = some (it, .raw (.mapIter (some mb) since (seen.push e.born) clock))) (hH : s.H[k]? = some (q, .raw (.map ents clock))) (hq : C0.m q = some (mb, N)) (hqu : q ∈ C0.U)
    (hem : e ∈ ents.toList) (hn : (ents.toList.map (·.born)).Nodup)
    (h : AOpsO Z C0 H0 w0 P ro ops rest Q { s with T := Sx.put s.T o.dst (.tup [.v e.key, .v e.val]) }) : AOpsO Z C0 H0 w0 P ro ops (o :: rest) Q s := by
  refine aopso_step hw ?_
  intro C a w hx hs
  have hm : C.m q = some (mb, N) := (hx.le.m q hqu).trans hq
  have hb := raw_at hs.wr hH hm
  have hpv := hs.ev hp
  obtain ⟨hu', r, N', hmi, hr⟩ := hs.wr.ids _ _ (List.mem_of_getElem? hI)
  have hpe : a.eval p = .pointer (some ⟨r, 0, none⟩) := by
    generalize a.eval p = u at hpv
    cases hpv with
    | ptr _ _ _ _ b' N'' hid _ => rw [hmi] at hid; cases hid; rfl
  have hrun : (o.semAt ro a.eval).run P w = .ok (.value (.tuple #[e.key, e.val])) w := by
    rw [Oper.semAt_eq _ _ _ (by intro c; rw [ho]; nofun)]
    simp only [execOp, ho, hpe]
    simp [Sem.run_bind, run_entry_at w r mb since seen ents clock e hr hb hem hn, Result.andThen]
  rw [hrun]
  refine ⟨C, _, h, hs.put (.refl C) hs.wr (dok_spec hd) (.tup _ _ rfl (fun i c z hc hv => ?_)), hx⟩
  rcases i with _ | _ | i
  · simp at hc hv; subst hc; subst hv; exact .v _
  · simp at hc hv; subst hc; subst hv; exact .v _
  · simp at hc
end

/-! ### What a map that is a set hands out -/
def keyS (e : MapEntry) : Str := match e.key with | .string s => s | _ => default
def bornsA (x : List MapEntry) : Array Nat := (x.map (·.born)).toArray
theorem bornsA_push (x : List MapEntry) (e : MapEntry) : (bornsA x).push e.born = bornsA (x ++ [e]) := by simp [bornsA]
theorem bornsA_has {x : List MapEntry} {b : Nat} : (bornsA x).contains b = true ↔ b ∈ x.map (·.born) := by simp [bornsA]

/-- A map's entries, as a set of texts. -/
structure SetE (out : List Str) (ents : Array MapEntry) (clock : Nat) : Prop where
  key : ents.toList.map (·.key) = out.map Value.string
  born : ∀ e ∈ ents.toList, e.born < clock
  nd : (ents.toList.map (·.born)).Nodup
theorem SetE.keyS {out : List Str} {ents : Array MapEntry} {clock : Nat} (h : SetE out ents clock) {e : MapEntry} (he : e ∈ ents.toList) : e.key = .string (Sx.keyS e) ∧ Sx.keyS e ∈ out := by
  have h1 : e.key ∈ out.map Value.string := h.key ▸ List.mem_map.2 ⟨e, he, rfl⟩
  obtain ⟨s, hs, hk⟩ := List.mem_map.1 h1
  unfold Sx.keyS
  rw [← hk]
  exact ⟨rfl, hs⟩
theorem SetE.all {out : List Str} {ents : Array MapEntry} {clock : Nat} (h : SetE out ents clock) {s : Str} (hs : s ∈ out) : ∃ e ∈ ents.toList, Sx.keyS e = s := by
  have h1 : Value.string s ∈ ents.toList.map (·.key) := h.key ▸ List.mem_map.2 ⟨s, hs, rfl⟩
  obtain ⟨e, he, hk⟩ := List.mem_map.1 h1
  refine ⟨e, he, ?_⟩
  unfold Sx.keyS
  rw [hk]
theorem SetE.keys {out : List Str} {ents : Array MapEntry} {clock : Nat} (h : SetE out ents clock) : ents.toList.map Sx.keyS = out := by
  have h1 : ents.toList.map Sx.keyS = (ents.toList.map (·.key)).map (fun v => match v with | .string s => s | _ => default) := by rw [List.map_map]; rfl
  rw [h1, h.key, List.map_map]
  exact (List.map_congr_left fun s _ => rfl).trans (List.map_id _)

/-- What has come out. -/
structure Got (out : List Str) (ents : Array MapEntry) (x : List MapEntry) : Prop where
  sub : ∀ e ∈ x, e ∈ ents.toList
  nd : (x.map (·.born)).Nodup
theorem Got.start (out : List Str) (ents : Array MapEntry) : Got out ents [] := ⟨nofun, List.nodup_nil⟩
theorem Got.step {out : List Str} {ents : Array MapEntry} {x : List MapEntry} {e : MapEntry} (h : Got out ents x) (he : e ∈ (leftOf ents (bornsA x)).toList) : Got out ents (x ++ [e]) := by
  obtain ⟨h1, h2⟩ := mem_left he
  refine ⟨fun z hz => ?_, ?_⟩
  · rcases List.mem_append.1 hz with hz | hz
    · exact h.sub z hz
    · rw [List.mem_singleton.1 hz]; exact h1
  · rw [List.map_append, List.nodup_append]
    refine ⟨h.nd, by simp, ?_⟩
    rintro a ha b hb rfl
    rw [List.map_singleton, List.mem_singleton] at hb
    subst hb
    rw [bornsA_has.2 ha] at h2; cases h2
theorem Got.keys {out : List Str} {ents : Array MapEntry} {clock : Nat} (hs : SetE out ents clock) (ho : out.Nodup) {x : List MapEntry} (h : Got out ents x) : (x.map keyS).Nodup ∧ ∀ s, s ∈ x.map keyS → s ∈ out := by
  refine ⟨?_, fun s hsx => ?_⟩
  · have hk : ∀ a b : MapEntry, a ∈ ents.toList → b ∈ ents.toList → keyS a = keyS b → a.born = b.born := by
      intro a b ha hb hab
      obtain ⟨i, hi, rfl⟩ := List.mem_iff_getElem.1 ha
      obtain ⟨j, hj, rfl⟩ := List.mem_iff_getElem.1 hb
      have e1 := hs.keys
      have hnd : (ents.toList.map keyS).Nodup := by rw [e1]; exact ho
      have hi' : i < (ents.toList.map keyS).length := by simpa using hi
      have hj' : j < (ents.toList.map keyS).length := by simpa using hj
      have : i = j := (List.getElem_inj (h₀ := hi') (h₁ := hj') hnd).1 (by simpa using hab)
      subst this; rfl
    have hx := h.nd
    unfold List.Nodup at hx ⊢
    rw [List.pairwise_map] at hx ⊢
    refine List.Pairwise.imp_of_mem ?_ hx
    intro a b ha hb hne hab
    exact hne (hk a b (h.sub a ha) (h.sub b hb) hab)
  · obtain ⟨e, he, rfl⟩ := List.mem_map.1 hsx
    exact (hs.keyS (h.sub e he)).2
theorem Got.fin {out : List Str} {ents : Array MapEntry} {clock : Nat} (hs : SetE out ents clock) (ho : out.Nodup) {x : List MapEntry} (h : Got out ents x) (hz : (leftOf ents (bornsA x)).size = 0) : (x.map keyS).Perm out := by
  obtain ⟨h1, h2⟩ := h.keys hs ho
  refine (List.perm_ext_iff_of_nodup h1 ho).2 fun s => ⟨h2 s, fun hso => ?_⟩
  obtain ⟨e, he, rfl⟩ := hs.all hso
  have h3 := bornsA_has.1 (all_seen _ _ hz e he)
  obtain ⟨e', he', hb⟩ := List.mem_map.1 h3
  rw [← born_inj hs.nd (h.sub e' he') he hb]
  exact List.mem_map.2 ⟨e', he', rfl⟩
theorem Got.dec {out : List Str} {ents : Array MapEntry} {x : List MapEntry} {e : MapEntry} (he : e ∈ (leftOf ents (bornsA x)).toList) : (leftOf ents (bornsA (x ++ [e]))).size < (leftOf ents (bornsA x)).size := by
  rw [← bornsA_push]; exact left_shrinks _ _ _ he

/-- A map that is owned as a set, told by its entries. -/
theorem setM_open {Z : List Nat} {C : Ctx} {H : AHeap} {w : World} {k q : Nat} {out : List Str} (hw : WR C H w) (hH : H[k]? = some (q, .mp (setM out))) :
    ∃ mb N ents clock, C.m q = some (mb, N) ∧ q ∈ C.U ∧ SetE out ents clock ∧ WR C (H.set k (q, .raw (.map ents clock))) w ∧ Ext Z C H w C (H.set k (q, .raw (.map ents clock))) w := by
  obtain ⟨hu, b, N, ents, clock, hm, hh, hl, hborn, hinj, hrow⟩ := hw.ids _ _ (List.mem_of_getElem? hH)
  have hlen : ents.toList.length = out.length := by rw [Array.length_toList, hl]; simp [setM]
  obtain ⟨g1, g2⟩ := repl_at (Z := Z) (C' := C) (id' := q) (o' := .raw (.map ents clock)) (w' := w) hw hH (.refl C) rfl (.inl rfl) hu (fun _ _ h => h) rfl rfl rfl (Nat.le_refl _) (fun b N' hm' => .inl ⟨N', hm'⟩) (fun _ _ _ => rfl) ⟨b, N, hm, hh⟩
  refine ⟨b, N, ents, clock, hm, hu, ⟨?_, ?_, ?_⟩, g1, g2⟩
  · refine List.ext_getElem (by simpa using hlen) fun i h1 h2 => ?_
    have hi : i < out.length := by simpa using h2
    obtain ⟨e, he, hk, _⟩ := hrow i (.string out[i]) (bA true) (by simp [setM, hi])
    rw [← Array.getElem?_toList] at he
    obtain ⟨h3, h4⟩ := List.getElem?_eq_some_iff.1 he
    simp only [List.getElem_map]
    rw [h4, hk]
  · intro e he
    obtain ⟨i, hi, rfl⟩ := List.mem_iff_getElem.1 he
    exact hborn i _ (by rw [← Array.getElem?_toList, List.getElem?_eq_getElem hi])
  · unfold List.Nodup
    rw [List.pairwise_map, List.pairwise_iff_getElem]
    intro i j hi hj hlt he
    have := hinj i j _ _ (by rw [← Array.getElem?_toList, List.getElem?_eq_getElem hi]) (by rw [← Array.getElem?_toList, List.getElem?_eq_getElem hj]) he
    omega

def AdmS (out : List Str) (l : List Str) : Prop := l.Nodup ∧ ∀ s, s ∈ l → s ∈ out
def FinS (out : List Str) (l : List Str) : Prop := l.Perm out
theorem AdmS.len {out l : List Str} (h : AdmS out l) : l.length ≤ out.length := nodup_len h.1 h.2
/-- As MapR, and each name once. -/
def MapN (p : Prog) (nm : Str) : AEnd → AHeap → Prop := fun e H => ∃ q out, e = .ret (.map q) ∧ H = [(q, .mp (setM out))] ∧ out.Nodup ∧ out.length ≤ p.classes.length ∧ ∀ s, s ∈ out ↔ Anc p nm s
end Go.Sx
