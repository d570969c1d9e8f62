/- A region whose order is drawn, with writes in it: what only gives a value and looks at no thing may come at any time. -/
import Derived.Test.YtaphgfiboidpbaaBaSxLive
set_option linter.unusedSimpArgs false
set_option linter.unusedVariables false
set_option linter.unnecessarySimpa false
namespace Go.Sx
open Go

/-- In whatever state with these operands and these things the operation makes them those. -/
def EffW (P : Program) (o : Oper) (T : List (Nat × AV)) (H H' : AHeap) : Prop :=
  ∀ Z C a w, WR C H w → (∀ p, p ∈ o.op.operands → ∀ y, ev T p = some y → VR C y (a.eval p)) →
    ∀ ro next R, (∀ v w1 C1, VR C1 (.v undef) v → WR C1 H' w1 → Ext Z C H w C1 H' w1 → next (a.put o.dst v) w1) → o.uponIn (Wd ro) 0 P a next R ((o.semAt ro a.eval).run P w)

section
variable {P : Program} {ro : Option Nat} {Q : Exit → St → Prop} {s : St} {ops : Array Oper} {o : Oper} {rest : List Oper} {T : List (Nat × AV)}

theorem effW_store {t n id sz i c el : Nat} {b : Bool} {p q : Operand} {es : List (List AV)} {e : List AV} {x : AV} {H : AHeap} (k : Nat) [kt : TK P t b n]
    (ho : o.op = .store t p q) (hp : ev T p = some (.ptr id sz i c)) (hH : H[k]? = some (id, .rows el sz es)) (he : es[i]? = some e) (hq : ev T q = some x)
    (hx : (cellsA x).length = n) (h1 : (cellsA x).all one = true) (hc : Nat.ble (c + n) sz = true) :
    EffW P o T H (H.set k (id, .rows el sz (es.set i (e.take c ++ cellsA x ++ e.drop (c + (cellsA x).length))))) := by
  intro Z C a w hswr hv ro next R hk
  have hc := Nat.le_of_ble_eq_true hc
  have hmem := List.mem_of_getElem? hH
  obtain ⟨hu, hlen, hor⟩ := hswr.ids _ _ hmem
  have hpv := hv p (by rw [ho]; simp [Op.operands]) _ hp
  have hqv := hv q (by rw [ho]; simp [Op.operands]) _ hq
  obtain ⟨hcl, hcr⟩ := cellsA_spec hqv
  have hone := ones hcl hcr h1
  have hel : e.length = sz := hlen e (List.mem_of_getElem? he)
  have hie : i < es.length := (List.getElem?_eq_some_iff.1 he).1
  rcases hor with ⟨hm, _⟩ | ⟨b', N, cells, hm, hh, hsz, hfit, hrow⟩
  · generalize a.eval p = u at hpv
    cases hpv with
    | ptr _ _ _ _ b2 N2 hid _ => rw [hm] at hid; cases hid
  · have hpe : a.eval p = .pointer (some ⟨b', i * sz + c, none⟩) := by
      generalize a.eval p = u at hpv
      cases hpv with
      | ptr _ _ _ _ b2 N2 hid _ => rw [hm] at hid; cases hid; rfl
    have hrowfit : i * sz + sz ≤ es.length * sz := by
      have : (i + 1) * sz ≤ es.length * sz := Nat.mul_le_mul_right _ hie
      rw [Nat.add_mul] at this; omega
    have hvs : (a.eval q).cells.toList.length = n := by rw [Array.length_toList, ← hcl, hx]
    have hst := run_storeCells_at P b' (i * sz + c) el (a.eval q).cells.toList 0 cells w hh (by rw [hvs]; omega) (by
      intro v hv'
      obtain ⟨j, hj⟩ := List.mem_iff_getElem?.1 hv'
      exact hone j v (by rw [← Array.getElem?_toList]; exact hj))
    simp only [Nat.add_zero] at hst
    have hrun : (o.semAt ro a.eval).run P w = .ok .skip (w.setRow b' (cells.toList.take (i * sz + c) ++ (a.eval q).cells.toList ++ cells.toList.drop (i * sz + c + (a.eval q).cells.toList.length)).toArray) := by
      rw [Oper.semAt_eq _ _ _ (by intro c; rw [ho]; nofun)]
      have hsz1 : (a.eval q).cells.size = n := by rw [← hcl, hx]
      simp [execOp, ho, Instr.storeAt, hpe, Instr.sureAddr, storeVar, run_sizeOf kt.tk, hsz1, Sem.run_bind, Result.andThen]
      rw [hst]
      simp [hsz1]
    rw [hrun]
    obtain ⟨hw1, he1⟩ := repl_at (Z := Z) (C' := C) (id' := id) (o' := .rows el sz (es.set i (e.take c ++ cellsA x ++ e.drop (c + (cellsA x).length))))
      (w' := w.setRow b' (cells.toList.take (i * sz + c) ++ (a.eval q).cells.toList ++ cells.toList.drop (i * sz + c + (a.eval q).cells.toList.length)).toArray) hswr hH (.refl C) rfl (.inl rfl) hu (fun _ _ h => h) rfl rfl rfl (by simp)
      (fun b N' hm' => .inl ⟨N', hm'⟩) (fun b hb hne => setRow_other w b' b _ (by rintro rfl; exact hne N hm)) (by
        refine ⟨?_, .inr ⟨b', N, _, hm, setRow_heap w b' cells _ el (0, 0) hh, ?_, by simpa using hfit, ?_⟩⟩
        · intro e' he'
          rcases List.mem_or_eq_of_mem_set he' with h2 | h2
          · exact hlen e' h2
          · subst h2
            simp only [List.length_append, List.length_take, List.length_drop]
            omega
        · simp only [List.size_toArray, List.length_append, List.length_take, List.length_drop, Array.length_toList]
          have := hvs
          rw [Array.length_toList] at this
          omega
        · intro i' e' j cc he' hcc
          rw [List.getElem?_toArray, splice_get _ _ _ _ (by rw [hvs, Array.length_toList]; omega), hvs]
          rw [List.getElem?_set] at he'
          by_cases hi : i = i'
          · subst hi
            rw [if_pos rfl, if_pos hie] at he'
            simp only [Option.some.injEq] at he'
            subst he'
            rw [splice_get _ _ _ _ (by omega), hx] at hcc
            have hjlt : j < sz := by
              rcases Nat.lt_or_ge j sz with h2 | h2
              · exact h2
              · rw [if_neg (by omega), if_neg (by omega), List.getElem?_eq_none (by omega)] at hcc; cases hcc
            by_cases hj1 : j < c
            · rw [if_pos hj1] at hcc
              rw [if_pos (by omega)]
              rw [Array.getElem?_toList]
              exact hrow i e j cc he hcc
            · rw [if_neg hj1] at hcc
              rw [if_neg (by omega)]
              by_cases hj2 : j < c + n
              · rw [if_pos hj2] at hcc
                rw [if_pos (by omega), show i * sz + j - (i * sz + c) = j - c from by omega]
                have hlt : j - c < (a.eval q).cells.size := by rw [← hcl]; exact (List.getElem?_eq_some_iff.1 hcc).1
                have hg : (a.eval q).cells[j - c]? = some (a.eval q).cells[j - c] := Array.getElem?_eq_getElem hlt
                exact ⟨_, by rw [Array.getElem?_toList]; exact hg, hcr _ _ _ hcc hg, hone _ _ hg⟩
              · rw [if_neg hj2] at hcc
                rw [if_neg (by omega), Array.getElem?_toList]
                exact hrow i e j cc he hcc
          · rw [if_neg hi] at he'
            have hel' : e'.length = sz := hlen e' (List.mem_of_getElem? he')
            have hj : j < sz := by rw [← hel']; exact (List.getElem?_eq_some_iff.1 hcc).1
            have hout : ¬ (i * sz + c ≤ i' * sz + j ∧ i' * sz + j < i * sz + c + n) := by
              rintro ⟨h2, h3⟩
              rcases Nat.lt_or_ge i i' with h4 | h4
              · have := mul_lt_row (k := c + n - 1) (sz := sz) h4 (by omega)
                omega
              · have h5 : i' < i := by omega
                have := mul_lt_row (k := j) (sz := sz) h5 hj
                omega
            have hg := hrow i' e' j cc he' hcc
            rw [← Array.getElem?_toList] at hg
            split
            · exact hg
            · split
              · exact (hout ⟨by omega, by omega⟩).elim
              · exact hg)
    exact hk undef _ C (.v undef) hw1 he1


end

/-- A walk in the text's order. ws: the writes; rs: what looks at things. -/
inductive WCalm (P : Program) (ops : Array Oper) (H0 : AHeap) (ws rs : List Nat) (K : St → Prop) : Nat → List Oper → St → Prop
  | done {k : Nat} {s : St} (h : K s) : WCalm P ops H0 ws rs K k [] s
  | eff {k : Nat} {o : Oper} {r : List Oper} {s : St} (Hn : AHeap) (x : AV) (hw : Wanted ops s.T o true) (hd : dok o.dst s.n = true) (he : Eff P o s.T Hn x []) (hn : ∀ p, p ∈ Hn → p ∈ H0) (hr : Hn = [] ∨ rs.contains k = true) (hk : ws.contains k = false)
      (h : WCalm P ops H0 ws rs K (k + 1) r { s with T := put s.T o.dst x }) : WCalm P ops H0 ws rs K k (o :: r) s
  | off {k : Nat} {o : Oper} {r : List Oper} {s : St} (hw : Wanted ops s.T o false) (hd : dok o.dst s.n = true) (hk : ws.contains k = false) (h : WCalm P ops H0 ws rs K (k + 1) r { s with T := put s.T o.dst (.v undef) }) : WCalm P ops H0 ws rs K k (o :: r) s
  | write {k : Nat} {o : Oper} {r : List Oper} {s : St} (H' : AHeap) (hw : Wanted ops s.T o true) (hd : dok o.dst s.n = true) (he : EffW P o s.T s.H H') (hk : ws.contains k = true)
      (h : WCalm P ops H0 ws rs K (k + 1) r { s with T := put s.T o.dst (.v undef), H := H' }) : WCalm P ops H0 ws rs K k (o :: r) s

def GoodW (P : Program) (ops : Array Oper) (n : Nat) (ws rs : List Nat) (xs : Nat → AV) (B : Nat → AHeap) (T0 : List (Nat × AV)) (i : Nat) : Prop :=
  ∃ o, ops[i]? = some o ∧ dok o.dst n = true ∧
    ((ws.contains i = false ∧ B (i + 1) = B i ∧ ((Wanted ops (TT ops xs T0 i) o false ∧ xs i = .v undef) ∨
      (Wanted ops (TT ops xs T0 i) o true ∧ ∃ Hn, Eff P o (TT ops xs T0 i) Hn (xs i) [] ∧ (∀ p, p ∈ Hn → p ∈ B 0) ∧ (Hn = [] ∨ rs.contains i = true)))) ∨
    (ws.contains i = true ∧ Wanted ops (TT ops xs T0 i) o true ∧ xs i = .v undef ∧ EffW P o (TT ops xs T0 i) (B i) (B (i + 1))))

theorem GoodW.congr {P : Program} {ops : Array Oper} {n : Nat} {ws rs : List Nat} {xs ys : Nat → AV} {B D : Nat → AHeap} {T0 : List (Nat × AV)} {i : Nat} (h1 : ∀ j, j ≤ i → xs j = ys j) (h2 : ∀ j, j ≤ i + 1 → B j = D j) (h : GoodW P ops n ws rs xs B T0 i) : GoodW P ops n ws rs ys D T0 i := by
  obtain ⟨o, ho, hd, h⟩ := h
  refine ⟨o, ho, hd, ?_⟩
  rw [← TT_congr (ops := ops) (T0 := T0) i (fun j hj => h1 j (by omega)), ← h1 i (Nat.le_refl _), ← h2 i (by omega), ← h2 (i + 1) (Nat.le_refl _), ← h2 0 (by omega)]
  exact h

theorem WCalm.tell {P : Program} {ops : Array Oper} {H0 : AHeap} {ws rs : List Nat} {K : St → Prop} {T0 : List (Nat × AV)} {D : List Nat} {n : Nat} {k : Nat} {l : List Oper} {s : St} (h : WCalm P ops H0 ws rs K k l s) :
    ∀ (xs : Nat → AV) (B : Nat → AHeap), ops.toList.drop k = l → B 0 = H0 → s = ⟨TT ops xs T0 k, B k, D, n⟩ → (∀ i, i < k → GoodW P ops n ws rs xs B T0 i) →
      ∃ (ys : Nat → AV) (E : Nat → AHeap), E 0 = H0 ∧ K ⟨TT ops ys T0 (k + l.length), E (k + l.length), D, n⟩ ∧ ∀ i, i < k + l.length → GoodW P ops n ws rs ys E T0 i := by
  have step : ∀ (k : Nat) (o : Oper) (xs : Nat → AV) (B : Nat → AHeap) (x : AV) (H' : AHeap), ops[k]? = some o → (∀ i, i < k → GoodW P ops n ws rs xs B T0 i) → dok o.dst n = true →
      ((ws.contains k = false ∧ H' = B k ∧ ((Wanted ops (TT ops xs T0 k) o false ∧ x = .v undef) ∨
        (Wanted ops (TT ops xs T0 k) o true ∧ ∃ Hn, Eff P o (TT ops xs T0 k) Hn x [] ∧ (∀ p, p ∈ Hn → p ∈ B 0) ∧ (Hn = [] ∨ rs.contains k = true)))) ∨
      (ws.contains k = true ∧ Wanted ops (TT ops xs T0 k) o true ∧ x = .v undef ∧ EffW P o (TT ops xs T0 k) (B k) H')) →
      ∃ (ys : Nat → AV) (E : Nat → AHeap), (∀ i, i < k → ys i = xs i) ∧ (∀ i, i ≤ k → E i = B i) ∧ ys k = x ∧ E (k + 1) = H' ∧ (∀ i, i < k + 1 → GoodW P ops n ws rs ys E T0 i) := by
    intro k o xs B x H' ho hg hd hx
    refine ⟨fun i => if i = k then x else xs i, fun i => if i = k + 1 then H' else B i, fun i hi => if_neg (by omega), fun i hi => if_neg (by omega), if_pos rfl, if_pos rfl, ?_⟩
    intro i hi
    rcases Nat.lt_or_ge i k with hlt | hge
    · exact (hg i hlt).congr (fun j hj => (if_neg (by omega)).symm) (fun j hj => (if_neg (by omega)).symm)
    · have e : i = k := by omega
      subst e
      refine ⟨o, ho, hd, ?_⟩
      have e1 : TT ops (fun j => if j = i then x else xs j) T0 i = TT ops xs T0 i := TT_congr i (fun j hj => if_neg (by omega))
      have e2 : (if i = i + 1 then H' else B i) = B i := if_neg (by omega)
      have e3 : (if 0 = i + 1 then H' else B 0) = B 0 := if_neg (by omega)
      simp only [e1, if_true, e2, e3]
      exact hx
  induction h with
  | done h =>
    intro xs B hl hB hs hg
    subst hs
    exact ⟨xs, B, hB, h, hg⟩
  | @eff k o r s Hn x hw hd he hn hr hk h ih =>
    intro xs B hl hB hs hg
    subst hs
    obtain ⟨h1, h2⟩ := drop_cons_get hl
    have ho : ops[k]? = some o := by rw [← Array.getElem?_toList]; exact h1
    obtain ⟨ys, E, e1, e2, e3, e4, e5⟩ := step k o xs B x (B k) ho hg hd (.inl ⟨hk, rfl, .inr ⟨hw, Hn, he, fun p hp => hB ▸ hn p hp, hr⟩⟩)
    have hlen : k + (o :: r).length = k + 1 + r.length := by simp; omega
    rw [hlen]
    refine ih ys E h2 ((e2 0 (by omega)).trans hB) ?_ e5
    simp only [TT, ho, Option.bind_some, e3, e4]
    rw [TT_congr k e1]
  | @off k o r s hw hd hk h ih =>
    intro xs B hl hB hs hg
    subst hs
    obtain ⟨h1, h2⟩ := drop_cons_get hl
    have ho : ops[k]? = some o := by rw [← Array.getElem?_toList]; exact h1
    obtain ⟨ys, E, e1, e2, e3, e4, e5⟩ := step k o xs B (.v undef) (B k) ho hg hd (.inl ⟨hk, rfl, .inl ⟨hw, rfl⟩⟩)
    have hlen : k + (o :: r).length = k + 1 + r.length := by simp; omega
    rw [hlen]
    refine ih ys E h2 ((e2 0 (by omega)).trans hB) ?_ e5
    simp only [TT, ho, Option.bind_some, e3, e4]
    rw [TT_congr k e1]
  | @write k o r s H' hw hd he hk h ih =>
    intro xs B hl hB hs hg
    subst hs
    obtain ⟨h1, h2⟩ := drop_cons_get hl
    have ho : ops[k]? = some o := by rw [← Array.getElem?_toList]; exact h1
    obtain ⟨ys, E, e1, e2, e3, e4, e5⟩ := step k o xs B (.v undef) H' ho hg hd (.inr ⟨hk, hw, rfl, he⟩)
    have hlen : k + (o :: r).length = k + 1 + r.length := by simp; omega
    rw [hlen]
    refine ih ys E h2 ((e2 0 (by omega)).trans hB) ?_ e5
    simp only [TT, ho, Option.bind_some, e3, e4]
    rw [TT_congr k e1]

/-- The writes come one behind the other, and behind all that looks at things. -/
def okWrites (ms ws rs : List Nat) : Bool := ws.all fun w => (rs.all fun r => Nat.blt r w && bitOf ms w r) && ws.all fun v => Nat.beq v w || (Nat.blt v w && bitOf ms w v) || (Nat.blt w v && bitOf ms v w)
def tidyW (ops : Array Oper) (ms ws rs : List Nat) : Bool := okEdges ops && okDst ops ops.size && okCert ops ms && okLooksM ops ms ops.size && okWrites ms ws rs && (ws ++ rs).all fun i => Nat.blt i ops.size

structure InvW (P : Program) (ops : Array Oper) (ws : List Nat) (ys : Nat → AV) (B : Nat → AHeap) (cur : Nat) (s : St) (Z : List Nat) (C0 : Ctx) (H0 : AHeap) (w0 : World) (listed : Array Bool) (a : Act) (w : World) (C : Ctx) : Prop where
  wr : WR C (B cur) w
  sl0 : ∀ t x, lk s.T t = some x → (∀ j, j < ops.size → (ops[j]?).bind (·.dst) ≠ some t) → ∃ v, a.tmps[t]? = some v ∧ VR C x v
  sl1 : ∀ j t, j < ops.size → listed.getD j false = true → (ops[j]?).bind (·.dst) = some t → ∃ v, a.tmps[t]? = some v ∧ VR C (ys j) v
  df : a.defers = s.D.map (mark C)
  du : ∀ i, i ∈ s.D → i ∈ C.U
  sz : a.tmps.size = s.n
  ext : Ext Z C0 H0 w0 C (B cur) w
  dn : ∀ i o, ops[i]? = some o → listed.getD i false = true → ∀ e, e ∈ o.after → Region.binds .any e = true → listed.getD e.on false = true
  lw : ∀ v, ws.contains v = true → v < ops.size → (listed.getD v false = true ↔ v < cur)
  lc : cur ≤ ops.size

theorem flatB {B : Nat → AHeap} {ws : List Nat} {N : Nat} (hB : ∀ i, i < N → ws.contains i = false → B (i + 1) = B i) : ∀ (d a : Nat), a + d ≤ N → (∀ i, a ≤ i → i < a + d → ws.contains i = false) → B (a + d) = B a
  | 0, a, _, _ => rfl
  | d + 1, a, h, hw => by
    rw [show a + (d + 1) = (a + d) + 1 from by omega, hB (a + d) (by omega) (hw _ (by omega) (by omega))]
    exact flatB hB d a (by omega) (fun i h1 h2 => hw i h1 (by omega))

theorem phaseW {P : Program} {ro : Option Nat} {ops : Array Oper} {Q : Exit → St → Prop} {ms ws rs : List Nat} {ys : Nat → AV} {B : Nat → AHeap} {s : St} {Z : List Nat} {C0 : Ctx} {H0 : AHeap} {w0 : World}
    (ht : tidyW ops ms ws rs = true) (hK : Q .normal ⟨TT ops ys s.T ops.size, B ops.size, s.D, s.n⟩) (hg : ∀ i, i < ops.size → GoodW P ops s.n ws rs ys B s.T i) :
    ∀ (fuel : Nat) (listed : Array Bool) (cur : Nat) (a : Act) (w : World) (C : Ctx), listed.size = ops.size → left ops listed = fuel →
      InvW P ops ws ys B cur s Z C0 H0 w0 listed a w C → wpAnyIn (Wd ro) 0 P .any ops (Post Z C0 H0 w0 Q) fuel listed a w := by
  simp only [tidyW, Bool.and_eq_true] at ht
  obtain ⟨⟨⟨⟨⟨hE, hD⟩, hCt⟩, hL⟩, hW⟩, hIn⟩ := ht
  have hcert := cert_anc hE hCt
  have hwsz : ∀ v, ws.contains v = true → v < ops.size := fun v hv => Nat.blt_eq ▸ List.all_eq_true.1 hIn v (List.mem_append_left _ (by simpa using hv))
  have hrsz : ∀ v, rs.contains v = true → v < ops.size := fun v hv => Nat.blt_eq ▸ List.all_eq_true.1 hIn v (List.mem_append_right _ (by simpa using hv))
  have hrw : ∀ v r, ws.contains v = true → rs.contains r = true → anc ops v v r = true := by
    intro v r hv hr
    have h1 := List.all_eq_true.1 hW v (by simpa using hv)
    rw [Bool.and_eq_true] at h1
    have h2 := List.all_eq_true.1 h1.1 r (by simpa using hr)
    rw [Bool.and_eq_true] at h2
    exact hcert v (hwsz v hv) r (Nat.blt_eq ▸ h2.1) h2.2
  have hww : ∀ v u, ws.contains v = true → ws.contains u = true → u < v → anc ops v v u = true := by
    intro v u hv hu hlt
    have h1 := List.all_eq_true.1 hW v (by simpa using hv)
    rw [Bool.and_eq_true] at h1
    have h2 := List.all_eq_true.1 h1.2 u (by simpa using hu)
    simp only [Bool.or_eq_true, Bool.and_eq_true] at h2
    rcases h2 with (h2 | h2) | h2
    · have := Nat.eq_of_beq_eq_true h2; omega
    · exact hcert v (hwsz v hv) u hlt h2.2
    · have : v < u := Nat.blt_eq ▸ h2.1; omega
  have hBs : ∀ i, i < ops.size → ws.contains i = false → B (i + 1) = B i := by
    intro i hi hw
    obtain ⟨o, _, _, h | h⟩ := hg i hi
    · exact h.2.1
    · rw [hw] at h; cases h.1
  intro fuel
  induction fuel with
  | zero =>
    intro listed cur a w C hls hleft hI
    have hall : ∀ i, i < ops.size → listed.getD i false = true := by
      intro i hi
      cases hb : listed.getD i false with
      | true => rfl
      | false => have := left_set hi hls hb; omega
    refine ⟨?_, ?_⟩
    · rw [List.eq_nil_iff_forall_not_mem]
      intro j hj
      obtain ⟨h3, o, h4, _⟩ := mem_ready.1 hj
      have hlt : j < ops.size := (Array.getElem?_eq_some_iff.1 h4).1
      have := hall j hlt
      simp [hls, hlt] at h3 this
      rw [h3] at this; cases this
    · have hB : B ops.size = B cur := by
        have := flatB hBs (ops.size - cur) cur (by have := hI.lc; omega) (fun i h1 h2 => by
          cases hw : ws.contains i with
          | false => rfl
          | true => have := (hI.lw i hw (hwsz i hw)).1 (hall i (hwsz i hw)); omega)
        rwa [show cur + (ops.size - cur) = ops.size from by have := hI.lc; omega] at this
      refine ⟨nofun, C, _, hK, ⟨by rw [hB]; exact hI.wr, ?_, hI.df, hI.du, hI.sz⟩, by rw [hB]; exact hI.ext⟩
      intro t x hx
      rcases TT_look ops.size hx with ⟨j, h1, h2, rfl⟩ | ⟨h1, h2⟩
      · exact hI.sl1 j t h1 (hall j h1) h2
      · exact hI.sl0 t x h1 h2
  | succ fuel ih =>
    intro listed cur a w C hls hleft hI
    refine ⟨fun hnil => ?_, fun i hi => ?_⟩
    · exfalso
      obtain ⟨i, h1, h2, h3⟩ := left_pos (ops := ops) (listed := listed) (by omega)
      have : i ∈ Region.ready .any ops listed := by
        rw [mem_ready]
        refine ⟨?_, ops[i], Array.getElem?_eq_getElem h1, ?_⟩
        · simp [hls, h1] at h2 ⊢; exact h2
        · intro e he hbd
          have := List.all_eq_true.1 hE i (List.mem_range.2 h1)
          rw [Array.getElem?_eq_getElem h1] at this
          have h5 := Array.all_eq_true_iff_forall_mem.1 this e he
          rw [hbd, Bool.not_true, Bool.false_or, Nat.blt_eq] at h5
          exact h3 e.on h5
      rw [hnil] at this; cases this
    · obtain ⟨h3, o, ho, hdeps⟩ := mem_ready.1 hi
      have hlt : i < ops.size := (Array.getElem?_eq_some_iff.1 ho).1
      have hunl : listed.getD i false = false := by simp [hls, hlt] at h3 ⊢; exact h3
      obtain ⟨o', ho', hd, hgood⟩ := hg i hlt
      rw [ho] at ho'; cases ho'
      have hanc : ∀ j, anc ops i i j = true → listed.getD j false = true := fun j hj => anc_listed hI.dn i i j o ho hdeps hj
      have hLi := List.all_eq_true.1 hL i (List.mem_range.2 hlt)
      simp only [ho] at hLi
      have hlook : ∀ t x, t ∈ o.looksAt ops → lk (TT ops ys s.T i) t = some x → ∃ v, a.tmps[t]? = some v ∧ VR C x v := by
        intro t x htl' hx
        have h5 := List.all_eq_true.1 hLi t htl'
        have h6 : ∀ j, j < ops.size → (ops[j]?).bind (·.dst) = some t → j < i ∧ listed.getD j false = true := by
          intro j hj hjt
          have h7 := List.all_eq_true.1 h5 j (List.mem_range.2 hj)
          rw [hjt] at h7
          simp only [beq_self_eq_true, Bool.not_true, Bool.false_or, Bool.and_eq_true, Nat.blt_eq] at h7
          exact ⟨h7.1, hanc j (hcert i hlt j h7.1 h7.2)⟩
        rcases TT_look i hx with ⟨j, h7, h8, rfl⟩ | ⟨h7, h8⟩
        · exact hI.sl1 j t (by omega) (h6 j (by omega) h8).2 h8
        · refine hI.sl0 t x h7 (fun j hj hjt => ?_)
          exact h8 j (h6 j hj hjt).1 hjt
      have hwant : ∀ b, Wanted ops (TT ops ys s.T i) o b → Region.wanted o (yielded ops a.tmps) = b := by
        intro b hb
        rcases hb with ⟨h, rfl⟩ | ⟨g, c, d, og, t, h1, h2, h4, ⟨h5, h6⟩ | ⟨h5, rfl⟩⟩
        · simp [Region.wanted, h]
        · obtain ⟨v, h7, h8⟩ := hlook t _ (looks_guard h1 h2 h4) h5
          have := VR.val h8
          subst this
          have hy : yielded ops a.tmps g = some d := by
            have hb : (ops[g]?.bind fun x => x.dst) = some t := by rw [h2]; exact h4
            have hb2 : ((ops[g]?.bind fun x => x.dst).bind fun x => a.tmps[x]?) = some (.bool d) := by rw [hb]; exact h7
            unfold yielded
            rw [hb2]
          rw [← h6]
          cases d <;> cases c <;> simp [Region.wanted, h1, hy]
        · obtain ⟨v, h7, h8⟩ := hlook t _ (looks_guard h1 h2 h4) h5
          have := VR.val h8
          subst this
          have hy : yielded ops a.tmps g = none := by
            have hb : (ops[g]?.bind fun x => x.dst) = some t := by rw [h2]; exact h4
            have hb2 : ((ops[g]?.bind fun x => x.dst).bind fun x => a.tmps[x]?) = some undef := by rw [hb]; exact h7
            unfold yielded
            rw [hb2]
            rfl
          simp [Region.wanted, h1, hy]
      have hdst : ∀ j t, j < ops.size → j ≠ i → o.dst = some t → (ops[j]?).bind (·.dst) ≠ some t := by
        intro j t hj hne hot hjt
        have hbi : (ops[i]?).bind (·.dst) = some t := by rw [ho]; exact hot
        rcases Nat.lt_or_ge j i with h | h
        · have h5 := List.all_eq_true.1 (List.all_eq_true.1 hD i (List.mem_range.2 hlt)) j (List.mem_range.2 h)
          rw [hbi, hjt] at h5; simp at h5
        · have h5 := List.all_eq_true.1 (List.all_eq_true.1 hD j (List.mem_range.2 hj)) i (List.mem_range.2 (by omega))
          rw [hbi, hjt] at h5; simp at h5
      have hset : ∀ j, (listed.setIfInBounds i true).getD j false = if j = i then true else listed.getD j false := by
        intro j
        by_cases e : j = i
        · subst e; have : j < listed.size := by omega
          simp [this]
        · rw [if_neg e, getD_set_ne _ (Ne.symm e)]
      have hops : ∀ p, p ∈ o.op.operands → ∀ y, ev (TT ops ys s.T i) p = some y → VR C y (a.eval p) := by
        intro p hp y hy
        cases p with
        | tmp t =>
          obtain ⟨v, h5, h6⟩ := hlook t y (looks_tmp hp) hy
          have e : a.eval (.tmp t) = v := by simp [Act.eval, h5]
          rw [e]; exact h6
        | const c => cases hy; exact .v c
        | func f => cases hy; exact .fn _ [] #[] rfl (by intro i c x h; simp at h)
        | global g => cases hy
      -- behind it
      have next : ∀ (cur' : Nat) (v : Value) (w1 : World) (C1 : Ctx), VR C1 (ys i) v → WR C1 (B cur') w1 → Ext Z C (B cur) w C1 (B cur') w1 → cur' ≤ ops.size →
          (∀ u, ws.contains u = true → u < ops.size → ((listed.setIfInBounds i true).getD u false = true ↔ u < cur')) →
          wpAnyIn (Wd ro) 0 P .any ops (Post Z C0 H0 w0 Q) fuel (listed.setIfInBounds i true) (a.put o.dst v) w1 := by
        intro cur' v w1 C1 hv hw1 he1 hcs hlw
        refine ih _ cur' _ _ C1 (by simpa using hls) (by have := left_set hlt hls hunl; omega) ?_
        refine ⟨hw1, ?_, ?_, ?_, fun j hj => he1.le.U j (hI.du j hj), ?_, hI.ext.trans he1, ?_, hlw, hcs⟩
        · intro t x hx hno
          obtain ⟨u, h5, h6⟩ := hI.sl0 t x hx hno
          refine ⟨u, ?_, h6.mono he1.le⟩
          cases hod : o.dst with
          | none => exact h5
          | some d =>
            have hne : d ≠ t := by
              rintro rfl
              exact hno i hlt (by rw [ho]; exact hod)
            simpa [Act.put, Array.getElem?_setIfInBounds_ne hne] using h5
        · intro j t hj hlj hjt
          by_cases e : j = i
          · subst e
            have hod : o.dst = some t := by rw [ho] at hjt; exact hjt
            refine ⟨v, ?_, hv⟩
            have := dok_spec hd t hod
            rw [← hI.sz] at this
            simp [Act.put, hod, this]
          · rw [hset, if_neg e] at hlj
            obtain ⟨u, h5, h6⟩ := hI.sl1 j t hj hlj hjt
            refine ⟨u, ?_, h6.mono he1.le⟩
            cases hod : o.dst with
            | none => exact h5
            | some d =>
              have hne : d ≠ t := by
                rintro rfl
                exact hdst j d hj e hod hjt
              simpa [Act.put, Array.getElem?_setIfInBounds_ne hne] using h5
        · have e1 : (a.put o.dst v).defers = a.defers := by cases o.dst <;> rfl
          rw [e1, hI.df]
          exact List.map_congr_left fun j hj => by simp [mark, he1.le.m j (hI.du j hj)]
        · have e1 : (a.put o.dst v).tmps.size = a.tmps.size := by cases o.dst <;> simp [Act.put]
          rw [e1]; exact hI.sz
        · intro j o2 ho2 hlj e he hb
          rw [hset]
          split
          · rfl
          · by_cases e2 : j = i
            · subst e2; rw [ho] at ho2; cases ho2; exact hdeps e he hb
            · rw [hset, if_neg e2] at hlj; exact hI.dn j o2 ho2 hlj e he hb
      have hlw0 : ws.contains i = false → ∀ u, ws.contains u = true → u < ops.size → ((listed.setIfInBounds i true).getD u false = true ↔ u < cur) := by
        intro hw u hu hus
        have : u ≠ i := fun e => by rw [e, hw] at hu; cases hu
        rw [hset, if_neg this]; exact hI.lw u hu hus
      unfold wpOpIn
      simp only [ho]
      rcases hgood with ⟨hwi, hBi, ⟨hw, hx⟩ | ⟨hw, Hn, heff, hHn, hrd⟩⟩ | ⟨hwi, hw, hx, heff⟩
      · rw [hwant false hw]
        simp only [Bool.false_eq_true, if_false]
        exact ⟨fun _ _ => trivial, next cur undef w C (by rw [hx]; exact .v undef) hI.wr (.refl ..) hI.lc (hlw0 hwi)⟩
      · rw [hwant true hw]
        simp only [if_true]
        refine ⟨fun _ _ => trivial, ?_⟩
        refine heff Z C (B cur) a w hI.wr ?_ hops nofun List.nodup_nil (fun _ _ => by simp) ro _ _ (fun v w1 C1 hv hw1 he1 => next cur v w1 C1 hv hw1 he1 hI.lc (hlw0 hwi))
        intro p hp
        rcases hrd with h | h
        · subst h; cases hp
        · have hno : ∀ j, j < cur → ws.contains j = false := by
            intro j hj
            cases hwj : ws.contains j with
            | false => rfl
            | true =>
              have hjs := hwsz j hwj
              have hlj := (hI.lw j hwj hjs).2 hj
              have hoj := Array.getElem?_eq_getElem hjs
              have := anc_listed hI.dn j j i _ hoj (fun e he hb => hI.dn j _ hoj hlj e he hb) (hrw j i hwj h)
              rw [hunl] at this; cases this
          have e := flatB hBs cur 0 (by have := hI.lc; omega) (fun j _ h2 => hno j (by omega))
          rw [Nat.zero_add] at e
          rw [e]; exact hHn p hp
      · rw [hwant true hw]
        simp only [if_true]
        refine ⟨fun _ _ => trivial, ?_⟩
        have hge : cur ≤ i := Nat.le_of_not_lt fun h => by
          have := (hI.lw i hwi hlt).2 h
          rw [hunl] at this; cases this
        have hBi : B i = B cur := by
          have := flatB hBs (i - cur) cur (by omega) (fun j h1 h2 => by
            cases hwj : ws.contains j with
            | false => rfl
            | true =>
              have := hanc j (hww i j hwi hwj (by omega))
              have := (hI.lw j hwj (hwsz j hwj)).1 this
              omega)
          rwa [show cur + (i - cur) = i from by omega] at this
        rw [hBi] at heff
        refine heff Z C a w hI.wr hops ro _ _ (fun v w1 C1 hv hw1 he1 => next (i + 1) v w1 C1 (by rw [hx]; exact hv) hw1 he1 (by omega) ?_)
        intro u hu hus
        rw [hset]
        by_cases e : u = i
        · subst e; simp
        · rw [if_neg e]
          constructor
          · intro h; have := (hI.lw u hu hus).1 h; omega
          · intro h; exact hanc u (hww i u hwi hu (by omega))

/-- **A region whose order is drawn**, with writes in it. -/
theorem awp_drawW {P : Program} {ro : Option Nat} {Q : Exit → St → Prop} {s : St} {id : Nat} {l : List Oper} (ms ws rs : List Nat) (hm : P.follows .mixedOrders = true) (ht : tidyW l.toArray ms ws rs = true)
    (h : WCalm P l.toArray s.H ws rs (Q .normal) 0 l s) : AWp P ro (.region id l.toArray true) Q s := by
  intro Z C0 H0 w0 C a w he hs
  refine wpIn_region_any hm ?_
  obtain ⟨ys, B, h0, h1, h2⟩ := h.tell (T0 := s.T) (D := s.D) (n := s.n) (fun _ => .v undef) (fun _ => s.H) (by simp) rfl rfl (fun i hi => absurd hi (Nat.not_lt_zero _))
  simp only [Nat.zero_add] at h1 h2
  have hw1 : WR C s.H { w with drawn := w.drawn + 1 } := ⟨hs.wr.hp, hs.wr.nd, fun i o hi => ⟨(hs.wr.ids i o hi).1, (hs.wr.ids i o hi).2.keep (.refl C) (hs.wr.ids i o hi).1 (fun _ _ _ => rfl)⟩, hs.wr.inj, hs.wr.dis⟩
  have he1 : Ext Z C0 H0 w0 C s.H { w with drawn := w.drawn + 1 } := ⟨he.le, he.av, he.os, he.tape, he.output, he.size, he.fr, he.nhp, he.nbl, he.nid⟩
  have hf : ∀ i, (Array.replicate l.toArray.size false).getD i false = false := by
    intro i
    rw [Array.getD_eq_getD_getElem?, Array.getElem?_replicate]
    split <;> rfl
  refine phaseW (ys := ys) (B := B) (s := s) (cur := 0) ht (by simpa using h1) (by simpa using h2) l.toArray.size _ _ _ C (by simp) ?_ ?_
  · unfold left
    rw [List.filter_eq_self.2 (fun i _ => by rw [hf]; rfl), List.length_range]
  · refine ⟨by rw [h0]; exact hw1, fun t x hx _ => hs.sl t x hx, fun j t _ hj => (by rw [hf] at hj; cases hj), hs.df, hs.du, hs.sz, by rw [h0]; exact he1, fun i o _ hi => (by rw [hf] at hi; cases hi), fun v _ _ => by rw [hf]; simp, Nat.zero_le _⟩

/-! ### Its steps, by the shapes in which they are met -/
section
variable {P : Program} {ops : Array Oper} {o : Oper} {rest : List Oper} {H0 : AHeap} {ws rs : List Nat} {K : St → Prop} {k : Nat} {s : St}
theorem wcalm_e {x : AV} (hw : Wanted ops s.T o true) (hd : dok o.dst s.n = true) (he : Eff P o s.T [] x []) (hk : ws.contains k = false) (h : WCalm P ops H0 ws rs K (k + 1) rest { s with T := put s.T o.dst x }) : WCalm P ops H0 ws rs K k (o :: rest) s :=
  .eff [] x hw hd he nofun (.inl rfl) hk h
theorem wcalm_load_ptr {t : TypeId} {p : Operand} {id sz i c el : Nat} {es : List (List AV)} {e : List AV} {x : AV} (j : Nat) (hw : Wanted ops s.T o true) (hd : dok o.dst s.n = true)
    (ho : o.op = .load t p) (hp : ev s.T p = some (.ptr id sz i c)) (hH : H0[j]? = some (id, .rows el sz es)) (he : es[i]? = some e) (hl : Ld P t (e.drop c) x) (hr : rs.contains k = true) (hk : ws.contains k = false)
    (h : WCalm P ops H0 ws rs K (k + 1) rest { s with T := put s.T o.dst x }) : WCalm P ops H0 ws rs K k (o :: rest) s :=
  .eff [(id, .rows el sz es)] x hw hd (eff_load ho hp ⟨el, es, e, List.mem_cons_self, he, rfl⟩ hl) (fun p hp => by rw [List.mem_singleton.1 hp]; exact List.mem_of_getElem? hH) (.inr hr) hk h
end
end Go.Sx
