/- Rows of bytes: made, cut out of an array's variable, copied, grown by a text's bytes. -/
import Derived.Test.YtdombpcfmjlnlaaSxBits
import Derived.Deep.AppendSrc
import Derived.Laws.CopyRow
set_option linter.unusedVariables false
set_option linter.unusedSimpArgs false
namespace Go.Sx
open Go
variable {P : Program} {ro : Option Nat} {Q : Exit → St → Prop} {s : St} {ops : Array Oper} {o : Oper} {rest : List Oper} {T : List (Nat × AV)}

theorem eff_andNot {t t' : TypeId} {p q : Operand} {k : IntKind} {x y : Int} (ho : o.op = .binOp .andNot t p q t') (hp : ev T p = some (.v (.int k x))) (hq : ev T q = some (.v (.int k y))) : Eff P o T [] (.v (.int k (bitsI .andNot k x y))) [] :=
  eff_val (by intro c; rw [ho]; nofun) fun C H a w hw hn hv => by
    have h2 := VR.val (hv p (by rw [ho]; simp [Op.operands]) _ hp)
    have h3 := VR.val (hv q (by rw [ho]; simp [Op.operands]) _ hq)
    refine ⟨_, ?_, .v _⟩
    simp [execOp, ho, h2, h3, eqGuard, binOp, Op.intBits, bitsI, Sem.run_bind, Result.andThen]

/-- A row of so many cells, all alike. -/
theorem eff_makeSlice1 (id n : Nat) {t e bytes : Nat} {p q : Operand} {z : Value} [hu : UD P t (.slice e)] [ha : AP P e 1 bytes] [hz : ZC P e [z]] (ho : o.op = .makeSlice t p q)
    (hp : ev T p = some (.v (.int .i64 n))) (hq : ev T q = some (.v (.int .i64 n))) (h1 : bytes * n ≤ 140737488355328) (hm : n ≤ maxLen) (h2 : one (.v z) = true) :
    Eff P o T [] (.own id 1 0 n) [(id, .rows e 1 (List.replicate n [.v z]))] :=
  eff_new (N := n) (by intro c; rw [ho]; nofun) fun C H a w hw _ hv hid => by
    have e1 := VR.val (hv p (by rw [ho]; simp [Op.operands]) _ hp)
    have e2 := VR.val (hv q (by rw [ho]; simp [Op.operands]) _ hq)
    obtain ⟨i, zv, hi, hzv, hsz, hby, hzs, hpos⟩ := AP.open ha.ap
    have hz2 : zv.cells = #[z] := by
      have := hz.zc
      unfold Program.zc at this
      rw [hi] at this
      simp only [hzv, Option.map_some, Option.some.injEq] at this
      apply Array.ext'
      rw [this]
    have hm' : n ≤ 9223372036854775807 := hm
    have hw2 : IntKind.i64.wrap (n : Int) = n := i64_wrap (by omega)
    have hb1 : ¬ (281474976710656 < (bytes : Int) * n) := by
      have : ((bytes * n : Nat) : Int) ≤ 140737488355328 := Int.ofNat_le.2 h1
      rw [Int.natCast_mul] at this; omega
    let z0 : Array Value := if n = 0 then #[] else zv.cells
    refine ⟨.slice (some ⟨w.heap.size, 0, none⟩) n n, .cells ((Array.range n).map (z0[· % z0.size]!)) e, ?_, ?_, ?_⟩
    · have e3 : (asInt (.int .i64 (n : Int))).run P w = .ok (n : Int) w := by simp [asInt, asIntOf, Sem.run_bind, Result.andThen]
      have h00 : ¬ ((n : Int) < 0) := by omega
      have hc1 : ¬ ((bytes : Int) * n > 2 ^ 48) := hb1
      have hc0 : (decide ((n : Int) < 0) || decide ((bytes : Int) * n > 2 ^ 48)) = false := by rw [decide_eq_false h00, decide_eq_false hc1]; rfl
      have hn0 : ((n : Int)).toNat = n := by omega
      have hrun : (Instr.makeSlice t (.int .i64 n) (.int .i64 n)).run P w = .ok (.slice (some ⟨w.heap.size, 0, none⟩) n n) (w.alloc (.cells ((Array.range n).map (z0[· % z0.size]!)) e)) := by
        unfold Instr.makeSlice
        simp only [Sem.run_bind, Go.run_underlying hu.ud, Result.andThen, e3, typeInfo, hi, hby, hw2, hc0, h00, Int.lt_irrefl, decide_false, Bool.or_false, Bool.false_or, Bool.false_eq_true, if_false, run_askRoom, hn0, sizeOf, hsz, Nat.mul_one, Sem.run_pure]
        by_cases h0 : n = 0
        · have hz0 : z0 = #[] := if_pos h0
          rw [hz0]
          simp [h0, hi, hby, hsz, newRow, run_newObj_alloc, Sem.run_bind, Result.andThen]
        · have hz0 : z0 = zv.cells := if_neg h0
          rw [hz0]
          simp [h0, hi, hby, hsz, hb1, hzv, zeroValue, typeInfo, newRow, run_newObj_alloc, Sem.run_bind, Result.andThen, -getElem!_pos]
      have e4 : execOp a.eval o = (do pure (.value (← Instr.makeSlice t (a.eval p) (a.eval q)))) := by simp only [execOp, ho]
      rw [e4, e1, e2, Sem.run_bind, hrun]
      rfl
    · have := VR.own (C := C.bind id w.heap.size n) id 1 0 n w.heap.size n n (Ctx.bind_m ..) List.mem_cons_self (by simp) (Nat.le_refl _) hm
      simpa using this
    · refine ⟨by intro l hl; rw [List.eq_of_mem_replicate hl]; rfl, .inr ⟨w.heap.size, n, _, Ctx.bind_m .., heap_alloc_new w _, by simp, by simp, ?_⟩⟩
      intro i' l j c hl hc
      have hlt := lt_of_get hl
      rw [List.length_replicate] at hlt
      have hl2 : l = [.v z] := List.eq_of_mem_replicate (List.mem_of_getElem? hl)
      subst hl2
      have hj := lt_of_get hc
      simp only [List.length_singleton] at hj
      have : j = 0 := by omega
      subst this
      simp at hc; subst hc
      have hz0 : z0 = #[z] := by show (if n = 0 then #[] else zv.cells) = _; rw [if_neg (by omega), hz2]
      refine ⟨z, ?_, .v z, one_spec (C := C) (.v z) h2⟩
      rw [hz0]
      simp [hlt, Nat.mod_one]

/-- The first ones of an array's variable, which nobody writes any more. -/
theorem aops_sliceArrF {t e m id el : Nat} {p q : Operand} {row : List AV} {kd : IntKind} {j : Int} (k : Nat) [hu : UD P t (.array m e)] [k1 : TK P e false 1] (hw : Wanted ops s.T o true) (hd : dok o.dst s.n = true)
    (ho : o.op = .slice t p none (some q) none) (hp : ev s.T p = some (.ptr id m 0 0)) (hH : s.H[k]? = some (id, .rows el m [row])) (hq : ev s.T q = some (.v (.int kd j))) (h0 : 0 ≤ j) (h1 : j ≤ m)
    (h : AOps P ro ops rest Q { s with T := put s.T o.dst (.lst ((row.take j.toNat).map fun c => [c])), H := s.H.eraseIdx k }) : AOps P ro ops (o :: rest) Q s := by
  refine aops_step hw ?_
  intro Z C0 H0 w0 C a w hx0 hs
  have hpv := hs.ev hp
  have hqv := VR.val (hs.ev hq)
  obtain ⟨hu', hlen, hor⟩ := hs.wr.ids _ _ (List.mem_of_getElem? hH)
  have hwp := hs.wr.perm (perm_get hH)
  obtain ⟨b, ob, g1, g2, g3, g4, g5, g6⟩ := frz hwp
  have hrl : row.length = m := hlen row List.mem_cons_self
  generalize hav : a.eval p = u at hpv
  cases hpv with
  | ptr _ _ _ _ bb N hid _ =>
    have hb := g1 N bb hid
    subst hb
    rcases hor with ⟨hm, _⟩ | ⟨b', N', cells, hm, hh, hsz, hfit, hrow⟩
    · rw [hid] at hm; cases hm
    · rw [hid] at hm; cases hm
      have hob := g3 bb rfl
      rw [hh] at hob
      subst hob
      have hrun : (o.semAt ro a.eval).run P w = .ok (.value (.slice (some ⟨bb, 0, none⟩) j.toNat m)) w := by
        rw [Oper.semAt_eq _ _ _ (by intro c; rw [ho]; nofun)]
        simp [execOp, ho, hav, hqv, Instr.sliceAt, Instr.sliceBounds, Instr.sureAddr, run_underlying (d := .array m e), run_sizeOf k1.tk, run_bound rfl h0 h1, Sem.run_bind, Result.andThen, Sem.run_pure, Addr.add]
      rw [hrun]
      have hv : VR (C.hpSet (some bb) (some (.cells cells el (0, 0)))) (.lst ((row.take j.toNat).map fun c => [c])) (.slice (some ⟨bb, 0, none⟩) j.toNat m) := by
        have hl : ((row.take j.toNat).map fun c => [c]).length = j.toNat := by simp; omega
        have hel : ∀ (i : Nat) (e : List AV) (jj : Nat) (c : AV), ((row.take j.toNat).map fun c => [c])[i]? = some e → e[jj]? = some c → jj = 0 ∧ row[i]? = some c := by
          intro i e jj c h2 h3
          rw [List.getElem?_map, List.getElem?_take] at h2
          split at h2
          · cases h4 : row[i]? with
            | none => rw [h4] at h2; cases h2
            | some r =>
              rw [h4] at h2; simp at h2; subst h2
              have hj := lt_of_get h3
              simp at hj; subst hj
              simp at h3; subst h3
              exact ⟨rfl, rfl⟩
          · cases h2
        have := VR.lst (C := C.hpSet (some bb) (some (.cells cells el (0, 0)))) ((row.take j.toNat).map fun c => [c]) ⟨bb, 0, none⟩ 1 m cells el (0, 0) (fun i _ => (cells[i]?).getD default) (fun _ => rfl) (fun _ => by simp [Ctx.hpSet])
          (by intro e he; obtain ⟨c, _, rfl⟩ := List.mem_map.1 he; rfl)
          (by
            intro i e jj c h2 h3
            obtain ⟨rfl, h4⟩ := hel i e jj c h2 h3
            obtain ⟨x, h5, _, _⟩ := hrow 0 row i c rfl h4
            simp only [Nat.zero_mul, Nat.zero_add] at h5
            simp only [Nat.zero_add, Nat.mul_one, Nat.add_zero, h5]; rfl)
          (by
            intro i e jj c h2 h3
            obtain ⟨rfl, h4⟩ := hel i e jj c h2 h3
            obtain ⟨x, h5, h6, _⟩ := hrow 0 row i c rfl h4
            simp only [Nat.zero_mul, Nat.zero_add] at h5
            simp only [h5]; exact h6.mono g5)
          (by
            intro i e jj c h2 h3
            obtain ⟨rfl, h4⟩ := hel i e jj c h2 h3
            obtain ⟨x, h5, _, h6⟩ := hrow 0 row i c rfl h4
            simp only [Nat.zero_mul, Nat.zero_add] at h5
            simp only [h5]; exact h6)
          (by rw [hl]; omega)
        rw [hl] at this; exact this
      have hext : Ext Z C s.H w (C.hpSet (some bb) (some (.cells cells el (0, 0)))) (s.H.eraseIdx k) w := by
        refine ⟨g5, fun _ _ h => h, rfl, rfl, rfl, Nat.le_refl _, fun _ _ _ => rfl, ?_, ?_, ?_⟩
        · intro x o hx
          simp only [Ctx.hpSet] at hx
          split at hx
          · rename_i e
            obtain ⟨_, N, hm⟩ := g2 x e
            exact .inr (.inr ⟨id, _, N, List.mem_of_getElem? hH, hm⟩)
          · exact .inl ⟨o, hx⟩
        · rintro x ⟨i, o, N, hi, hm⟩
          exact .inl ⟨i, o, N, List.mem_of_mem_eraseIdx hi, hm⟩
        · intro i o hi
          exact .inl ⟨o, List.mem_of_mem_eraseIdx hi⟩
      exact ⟨_, _, h, hs.put g5 g4 (dok_spec hd) hv, hx0.trans hext⟩

/-- copy, as much as the row has. -/
theorem aops_copyL {t t' e id el n : Nat} {p q : Operand} {y : AV} {es ys : List (List AV)} (k : Nat) [hu : UD P t (.slice e)] [k1 : TK P e false 1] (hw : Wanted ops s.T o true) (hd : dok o.dst s.n = true)
    (ho : o.op = .call { callee := .builtin .copy, args := #[p, q], argTypes := #[t, t'] }) (hp : ev s.T p = some (.own id 1 0 n)) (hH : s.H[k]? = some (id, .rows el 1 es)) (hn : es.length = n) (hq : ev s.T q = some y) (hy : SlA s.H 1 y ys) (hl : ys.length = n) (h0 : 0 < n)
    (h : AOps P ro ops rest Q { s with T := put s.T o.dst (.v (.int .i64 n)), H := s.H.set k (id, .rows el 1 ys) }) : AOps P ro ops (o :: rest) Q s := by
  refine aops_step hw ?_
  intro Z C0 H0 w0 C a w hx0 hs
  obtain ⟨ad, c, hqv, hnil, hlen, hcells⟩ := hy.cells hs.wr (hs.ev hq)
  obtain ⟨hu', hlenx, hor⟩ := hs.wr.ids _ _ (List.mem_of_getElem? hH)
  have hpv := hs.ev hp
  generalize hav : a.eval p = u at hpv
  cases hpv with
  | ownNil => omega
  | own _ _ _ _ b N cap hid _ hcap hlc hcm =>
    rcases hor with ⟨hm0, _⟩ | ⟨b', N', cells, hmb', hh, hsN, hfit, hrow⟩
    · rw [hid] at hm0; cases hm0
    · rw [hid] at hmb'; cases hmb'
      cases ad with
      | none => have := hnil rfl; subst this; simp at hl; omega
      | some ad =>
        obtain ⟨news, hn1, hn2, hn3, hn4⟩ := hcells ad rfl
        rw [Nat.mul_one] at hn1
        have hsz : (P.info? e).map (·.size) = some 1 := by
          have := k1.tk
          unfold Program.tk at this
          split at this
          · rename_i d i h1 h2
            simp at this
            rw [h2]; simp [this.2]
          · cases this
        have hrun := run_copy_row (P := P) w t t' o.type e b (0 * 1) n cap ad ys.length c cells el news hu.ud hsz hh (by rw [hn1, hl]; simp) hn2 (by rw [hn1, hl]; omega) hn3
        have hr : (o.semAt ro a.eval).run P w = .ok (.value (.int .i64 n)) (w.setRow b (cells.toList.take (0 * 1) ++ news ++ cells.toList.drop (0 * 1 + news.length)).toArray) := by
          rw [Oper.semAt_eq _ _ _ (by intro c; rw [ho]; nofun)]
          rw [hl] at hrun hqv
          simp only [Nat.zero_mul] at hrun hav
          simp [execOp, ho, resolve, invoke, builtin, hav, hqv, hrun, Result.andThen, Sem.run_bind, goInt, hn1, hl]
        rw [hr]
        obtain ⟨hw1, he1⟩ := repl_at (Z := Z) (C' := C) (id' := id) (o' := .rows el 1 ys) (w' := w.setRow b (cells.toList.take (0 * 1) ++ news ++ cells.toList.drop (0 * 1 + news.length)).toArray) hs.wr hH (.refl C) rfl (.inl rfl) hu' (fun _ _ h => h) rfl rfl rfl (by simp)
          (fun b N' hm' => .inl ⟨N', hm'⟩) (fun b2 hb2 hne => setRow_other w b b2 _ (by rintro rfl; exact hne _ hid)) (by
            refine ⟨hlen, .inr ⟨b, _, _, hid, setRow_heap w b cells _ el (0, 0) hh, ?_, ?_, ?_⟩⟩
            · simp only [List.size_toArray, List.length_append, List.length_take, List.length_drop, Array.length_toList, hn1]
              omega
            · omega
            · intro i e' j cc he' hcc
              obtain ⟨u, h3, h4⟩ := hn4 i e' j cc he' hcc
              have hlt := lt_of_get h3
              refine ⟨u, ?_, h4, hn3 u (List.mem_of_getElem? h3)⟩
              rw [List.getElem?_toArray, splice_get _ _ _ _ (by have := Array.length_toList (xs := cells); omega), if_neg (by omega), if_pos (by rw [hn1] at hlt ⊢; omega), ← h3]
              congr 1)
        exact ⟨C, _, h, hs.put he1.le hw1 (dok_spec hd) (.v _), hx0.trans he1⟩

/-- A text's bytes as rows. -/
def byteRows (x : ByteArray) : List (List AV) := x.data.toList.map fun b => [.v (.int .u8 b.toNat)]
theorem byteRows_len (x : ByteArray) : (byteRows x).length = x.size := by
  unfold byteRows
  rw [List.length_map, Array.length_toList]; rfl

/-- append of a text's bytes, onto a row that is owned. -/
theorem append_runS {C : Ctx} {H : AHeap} {w : World} {Z : List Nat} {t tx ty e bytes id id' k : Nat} {v : Value} {x : ByteArray} {xs : List (List AV)} [hu : UD P t (.slice e)] [hux : UD P tx .string] [ha : AP P e 1 bytes]
    (hs : WR C H w) (hH : H[k]? = some (id, .rows e 1 xs)) (hp : VR C (.own id 1 0 xs.length) v)
    (hml : (xs.length + x.size) * bytes ≤ 140737488355328) (hm : xs.length + x.size ≤ maxLen) (hid : id' ∉ C.U) (hidz : id' ∉ Z) :
    ∃ v' w' C', (Builtin.append_ #[t, tx] ty #[v, .string x]).run P w = .ok v' w' ∧ VR C' (.own id' 1 0 (xs.length + x.size)) v' ∧ WR C' (H.set k (id', .rows e 1 (xs ++ byteRows x))) w' ∧ Ext Z C H w C' (H.set k (id', .rows e 1 (xs ++ byteRows x))) w' := by
  obtain ⟨i, z, hi, hz, hsz, hby, hzs, hpos⟩ := AP.open ha.ap
  have hmem := List.mem_of_getElem? hH
  have hown : SlA H 1 (.own id 1 0 xs.length) xs := ⟨rfl, e, xs, hmem, by omega, by simp⟩
  obtain ⟨hu', hlenx, hor⟩ := hs.ids _ _ hmem
  obtain ⟨adp, cp, hv, hnilp, _, hcellsp⟩ := hown.cells hs hp
  have hsrc := Src.ofString (P := P) w hux.ud x
  have hlb := byteCells_length x
  have hlen : ∀ e : List AV, e ∈ byteRows x → e.length = 1 := by
    intro e he; obtain ⟨b, _, rfl⟩ := List.mem_map.1 he; rfl
  have hav : ∀ x, ∀ z, z ∈ Z → z ∉ C.U → z ∉ (C.bindO id' x).U := by
    intro x z hz' hn
    simp only [Ctx.bindO, List.mem_cons, not_or]
    exact ⟨fun e => hidz (e ▸ hz'), hn⟩
  have hle : ∀ x, C.Le (C.bindO id' x) := fun x => Ctx.le_bindO hid
  have hn4 : ∀ (i : Nat) (e : List AV) (j : Nat) (cc : AV), (byteRows x)[i]? = some e → e[j]? = some cc → ∃ u, (byteCells x)[i * 1 + j]? = some u ∧ ∀ C : Ctx, VR C cc u := by
    intro i e j cc h1 h2
    unfold byteRows at h1
    rw [List.getElem?_map] at h1
    cases h3 : x.data.toList[i]? with
    | none => rw [h3] at h1; cases h1
    | some b =>
      rw [h3] at h1; simp at h1; subst h1
      have hj := lt_of_get h2
      simp at hj; subst hj
      simp at h2; subst h2
      refine ⟨.int .u8 b.toNat, ?_, fun C => .v _⟩
      unfold byteCells
      rw [Nat.mul_one, Nat.add_zero, List.getElem?_map, h3]; rfl
  have grow : ∀ (olds zs : List Value) (N : Nat), olds.length = xs.length * 1 → (olds ++ byteCells x ++ zs).length = N →
      (∀ (i : Nat) (e : List AV) (j : Nat) (cc : AV), xs[i]? = some e → e[j]? = some cc → ∃ u, olds[i * 1 + j]? = some u ∧ VR C cc u) →
      (∀ u, u ∈ olds → u.oneCell' = true) →
      WR (C.bindO id' (some (w.heap.size, N))) (H.set k (id', .rows e 1 (xs ++ byteRows x))) (w.drew.alloc (.cells (olds ++ byteCells x ++ zs).toArray e)) ∧
        Ext Z C H w (C.bindO id' (some (w.heap.size, N))) (H.set k (id', .rows e 1 (xs ++ byteRows x))) (w.drew.alloc (.cells (olds ++ byteCells x ++ zs).toArray e)) := by
    intro olds zs N h1 h3 h4 h6
    have hal : ∀ b, b < w.heap.size → (w.drew.alloc (.cells (olds ++ byteCells x ++ zs).toArray e)).heap[b]? = w.heap[b]? := fun b hb => heap_alloc_old w.drew _ hb
    refine repl_at hs hH (hle _) rfl (.inr hid) List.mem_cons_self (hav _) rfl rfl rfl (by simp) (fun b N' hm => .inr ?_) (fun b hb _ => hal b hb) ?_
    · rw [Ctx.bindO_m] at hm; cases hm; exact Nat.le_refl _
    · exact or_new (w := w) (Ctx.bindO_m ..) (heap_alloc_new w.drew _) h3 hlenx hlen h1 (by rw [hlb, byteRows_len, Nat.mul_one]) (fun i e' j cc a b => let ⟨u, x, y⟩ := h4 i e' j cc a b; ⟨u, x, y.mono (hle _)⟩) (fun i e' j cc a b => let ⟨u, x, y⟩ := hn4 i e' j cc a b; ⟨u, x, y _⟩) h6 hsrc.one
  have hvgrow : ∀ cap, xs.length + x.size ≤ cap → cap ≤ maxLen → VR (C.bindO id' (some (w.heap.size, cap * 1))) (.own id' 1 0 (xs.length + x.size)) (.slice (some ⟨w.heap.size, 0, none⟩) (xs.length + x.size) cap) := by
    intro cap h1 h2
    have := VR.own (C := C.bindO id' (some (w.heap.size, cap * 1))) id' 1 0 (xs.length + x.size) w.heap.size (cap * 1) cap (Ctx.bindO_m ..) List.mem_cons_self (by simp) h1 h2
    simpa using this
  have hzc : ∀ m cap, m ≤ cap → m * 1 + (Builtin.zeroCells z.cells (cap - m)).size = cap * 1 := by
    intro m cap h
    rw [size_zeroCells, hzs, ← Nat.add_mul]; congr 1; omega
  have hm63 : ((xs.length + x.size : Nat) : Int) ≤ 9223372036854775807 := by simp only [maxLen] at hm; omega
  -- there is no room
  have nogo : ∀ (base : Option Addr) (cap : Nat) (olds : List Value), (Builtin.firstCells i.size xs.length (.slice base xs.length cap)).run P w.drew = .ok olds.toArray w.drew → cap < xs.length + x.size → olds.length = xs.length * 1 →
      (∀ (i : Nat) (e : List AV) (j : Nat) (cc : AV), xs[i]? = some e → e[j]? = some cc → ∃ u, olds[i * 1 + j]? = some u ∧ VR C cc u) → (∀ u, u ∈ olds → u.oneCell' = true) →
      ∃ v' w' C', (Builtin.append_ #[t, tx] ty #[.slice base xs.length cap, .string x]).run P w = .ok v' w' ∧ VR C' (.own id' 1 0 (xs.length + x.size)) v' ∧ WR C' (H.set k (id', .rows e 1 (xs ++ byteRows x))) w' ∧ Ext Z C H w C' (H.set k (id', .rows e 1 (xs ++ byteRows x))) w' := by
    intro base cap olds hold hg h1 h2 h3
    have hcap1 := grownCap_ge w (xs.length + x.size) cap e
    have hcapm := grownCap_le_maxLen w (xs.length + x.size) cap e hm
    have hrun := run_append_grow_src (P := P) w t tx ty e i z hu.ud hi hz base xs.length cap olds hold (.string x) x.size (byteCells x) (by rw [hsz]; exact hsrc) hg hm63 (by rw [hby]; exact growslice_fits hg hml)
    obtain ⟨h4, h5⟩ := grow olds (Builtin.zeroCells z.cells (grownCap w (xs.length + x.size) cap e - (xs.length + x.size))).toList (grownCap w (xs.length + x.size) cap e * 1) h1
      (by have := hzc (xs.length + x.size) _ hcap1; simp only [List.length_append, Array.length_toList, hlb, h1]; omega) h2 h3
    have e0 : ((olds ++ byteCells x).toArray ++ Builtin.zeroCells z.cells (grownCap w (xs.length + x.size) cap e - (xs.length + x.size))) = (olds ++ byteCells x ++ (Builtin.zeroCells z.cells (grownCap w (xs.length + x.size) cap e - (xs.length + x.size))).toList).toArray := by simp
    rw [e0] at hrun
    exact ⟨_, _, _, hrun, hvgrow _ hcap1 hcapm, h4, h5⟩
  have hp' := hp
  generalize hxn : xs.length = n at hp'
  cases hp' with
  | ownNil _ _ hmn =>
    have hx0 : xs = [] := List.length_eq_zero_iff.1 hxn
    subst hx0
    rcases Nat.eq_zero_or_pos x.size with h0 | h0
    · have hx : byteRows x = [] := List.length_eq_zero_iff.1 (by rw [byteRows_len]; exact h0)
      refine ⟨.slice none 0 0, w, C.bindO id' (C.m id), ?_, ?_, ?_⟩
      · have hb : byteCells x = [] := List.length_eq_zero_iff.1 (by rw [hlb]; exact h0)
        have hc := hsrc.cells
        rw [h0] at hc
        rw [hb] at hc
        simp [Builtin.append_, Go.run_underlying hu.ud, Go.run_underlying hux.ud, sizeOf, typeInfo, hi, hsz, Builtin.lenOf, h0, hc, Result.andThen, Sem.run_bind]
      · have := VR.ownNil (C := C.bindO id' (C.m id)) id' 1 (by rw [Ctx.bindO_m]; exact hmn) List.mem_cons_self
        simpa [h0] using this
      · rw [hx]
        refine repl_at hs hH (hle _) rfl (.inr hid) List.mem_cons_self (hav _) rfl rfl rfl (Nat.le_refl _) (fun b N hm => .inl ⟨N, by rw [Ctx.bindO_m] at hm; exact hm⟩) (fun _ _ _ => rfl) ?_
        exact ⟨nofun, .inl ⟨by rw [Ctx.bindO_m]; exact hmn, rfl⟩⟩
    · have := nogo none 0 [] (by simp [Builtin.firstCells]) (by simpa using h0) rfl (by intro i e j cc h; simp at h) nofun
      simpa using this
  | own _ _ _ _ b N cap hmb _ hcap hlc hcm =>
    subst hxn
    rcases hor with ⟨hm0, _⟩ | ⟨b', N', cells, hmb', hh, hsN, hfit, hrow⟩
    · rw [hmb] at hm0; cases hm0
    · rw [hmb] at hmb'; cases hmb'
      simp only [Nat.zero_mul, Nat.zero_add] at hcap hv ⊢
      rcases Nat.lt_or_ge cap (xs.length + x.size) with hg | hg
      · obtain ⟨olds, ho1, ho2, ho3, ho4⟩ := hcellsp ⟨b, 0, none⟩ (by simpa using (by cases hv; rfl : (some (⟨b, 0, none⟩ : Addr)) = adp).symm)
        exact nogo (some ⟨b, 0, none⟩) cap olds (by rw [hsz]; exact run_firstCells_some w.drew 1 xs.length ⟨b, 0, none⟩ xs.length cap olds ho1 (by simpa using ho2)) hg ho1 ho4 ho3
      · have hNs : xs.length + x.size ≤ cells.size := by rw [hsN, ← hcap]; omega
        have hst := run_storeCells_at P b xs.length e (byteCells x) 0 cells w hh (by rw [hlb]; omega) hsrc.one
        simp only [Nat.add_zero] at hst
        have hrun : (Builtin.append_ #[t, tx] ty #[.slice (some ⟨b, 0, none⟩) xs.length cap, .string x]).run P w = .ok (.slice (some ⟨b, 0, none⟩) (xs.length + x.size) cap) (w.setRow b (cells.toList.take xs.length ++ byteCells x ++ cells.toList.drop (xs.length + (byteCells x).length)).toArray) := by
          have hc := hsrc.cells
          simp [Builtin.append_, Go.run_underlying hu.ud, Go.run_underlying hux.ud, sizeOf, typeInfo, hi, hsz, Builtin.lenOf, hg, hc, hst, add_none, Result.andThen, Sem.run_bind]
        refine ⟨_, _, C.bindO id' (C.m id), hrun, ?_, ?_⟩
        · have := VR.own (C := C.bindO id' (C.m id)) id' 1 0 (xs.length + x.size) b N cap (by rw [Ctx.bindO_m]; exact hmb) List.mem_cons_self (by simpa using hcap) hg hcm
          simpa using this
        · refine repl_at hs hH (hle _) rfl (.inr hid) List.mem_cons_self (hav _) rfl rfl rfl (by simp) (fun b2 N2 hm2 => .inl ⟨N2, by rw [Ctx.bindO_m] at hm2; exact hm2⟩) (fun b2 hb2 hne => setRow_other w b b2 _ (by rintro rfl; exact hne N hmb)) ?_
          refine ⟨?_, .inr ⟨b, N, _, by rw [Ctx.bindO_m]; exact hmb, setRow_heap w b cells _ e (0, 0) hh, ?_, ?_, ?_⟩⟩
          · intro e' he'
            rcases List.mem_append.1 he' with h | h
            · exact hlenx e' h
            · exact hlen e' h
          · simp only [List.size_toArray, List.length_append, List.length_take, List.length_drop, Array.length_toList, hlb]
            omega
          · rw [List.length_append, byteRows_len]; omega
          · intro i' e' j cc he' hcc
            rw [List.getElem?_toArray, splice_get _ _ _ _ (by rw [hlb, Array.length_toList]; exact hNs), hlb]
            rw [List.getElem?_append] at he'
            split at he'
            · rename_i hlt
              have hj : j < 1 := by rw [← hlenx e' (List.mem_of_getElem? he')]; exact lt_of_get hcc
              rw [if_pos (by omega), Array.getElem?_toList]
              obtain ⟨u, h1, h2, h3⟩ := hrow i' e' j cc he' hcc
              exact ⟨u, h1, h2.mono (hle _), h3⟩
            · rename_i hge
              obtain ⟨u, h1, h2⟩ := hn4 (i' - xs.length) e' j cc he' hcc
              have hlt := lt_of_get h1
              rw [hlb] at hlt
              rw [if_neg (by omega), if_pos (by omega)]
              refine ⟨u, ?_, h2 _, hsrc.one u (List.mem_of_getElem? h1)⟩
              rw [← h1]; congr 1; omega

theorem aops_appendS {t tx e bytes id : Nat} {p q : Operand} {x : ByteArray} {xs : List (List AV)} {n : Nat} (k : Nat) [hu : UD P t (.slice e)] [hux : UD P tx .string] [ha : AP P e 1 bytes] (hw : Wanted ops s.T o true) (hd : dok o.dst s.n = true)
    (ho : o.op = .call { callee := .builtin .append, args := #[p, q], argTypes := #[t, tx] }) (hp : ev s.T p = some (.own id 1 0 n)) (hH : s.H[k]? = some (id, .rows e 1 xs)) (hn : n = xs.length) (hq : ev s.T q = some (.v (.string x)))
    (hml : (xs.length + x.size) * bytes ≤ 140737488355328) (hm : xs.length + x.size ≤ maxLen)
    (h : ∀ id', AOps P ro ops rest Q { s with T := put s.T o.dst (.own id' 1 0 (xs.length + x.size)), H := s.H.set k (id', .rows e 1 (xs ++ byteRows x)) }) : AOps P ro ops (o :: rest) Q s := by
  subst hn
  refine aops_step hw ?_
  intro Z C0 H0 w0 C a w hx0 hs
  obtain ⟨id', hid⟩ := fresh (C.U ++ Z)
  rw [List.mem_append, not_or] at hid
  obtain ⟨v', w', C', h1, h2, h3, h4⟩ := append_runS (P := P) (ty := o.type) (t := t) (tx := tx) hs.wr hH (hs.ev hp) hml hm hid.1 hid.2
  have hqv := VR.val (hs.ev hq)
  have hr : (o.semAt ro a.eval).run P w = .ok (.value v') w' := by
    rw [Oper.semAt_eq _ _ _ (by intro c; rw [ho]; nofun)]
    simp [execOp, ho, resolve, invoke, builtin, hqv, h1, Result.andThen, Sem.run_bind]
  rw [hr]
  exact ⟨C', _, h id', hs.put h4.le h3 (dok_spec hd) h2, hx0.trans h4⟩
end Go.Sx
