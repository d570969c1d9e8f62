/- Slices: what is read of one; those that are built and grown. -/
import Derived.Test.YtaphgfiboidpbaaBaSxMem2
set_option linter.unusedSimpArgs false
set_option linter.unusedVariables false
set_option linter.unnecessarySimpa false
namespace Go.Sx
open Go

/-- What a slice reads as, in cells. -/
def SlA (H : AHeap) (sz : Nat) : AV → List (List AV) → Prop
  | .lst es, ys => ys = es ∧ ∀ e : List AV, e ∈ es → e.length = sz
  | .own id sz' off len, ys => sz' = sz ∧ ∃ el es, (id, AObj.rows el sz es) ∈ H ∧ off + len ≤ es.length ∧ ys = (es.drop off).take len
  | .v (.slice none 0 0), ys => ys = []
  | _, _ => False

theorem lt_of_get {α : Type} {l : List α} {i : Nat} {x : α} (h : l[i]? = some x) : i < l.length := (List.getElem?_eq_some_iff.1 h).1

theorem block_cells {w : World} {b : Nat} {cells : Array Value} {el : TypeId} {fz : Nat × Nat} (h : w.heap[b]? = some (.cells cells el fz)) (o j : Nat) : w.cell? ((⟨b, o, none⟩ : Addr).add j) = cells[o + j]? := by
  rw [add_none, cell_of h]

theorem SlA.cells {H : AHeap} {sz : Nat} {y : AV} {ys : List (List AV)} {C : Ctx} {w : World} {v : Value} (h : SlA H sz y ys) (hw : WR C H w) (hv : VR C y v) :
    ∃ ad c, v = .slice ad ys.length c ∧ (ad = none → ys = []) ∧ (∀ e : List AV, e ∈ ys → e.length = sz) ∧ ∀ a, ad = some a →
      ∃ news : List Value, news.length = ys.length * sz ∧ (∀ (j : Nat) (u : Value), news[j]? = some u → w.cell? (a.add j) = some u) ∧ (∀ u, u ∈ news → u.oneCell' = true) ∧
        ∀ (i : Nat) (e : List AV) (j : Nat) (cc : AV), ys[i]? = some e → e[j]? = some cc → ∃ u, news[i * sz + j]? = some u ∧ VR C cc u := by
  -- out of a block's cells, from a place on
  have build : ∀ (b o m : Nat) (cells : Array Value) (el : TypeId) (fz : Nat × Nat) (zs : List (List AV)), w.heap[b]? = some (.cells cells el fz) → zs.length = m → (∀ e : List AV, e ∈ zs → e.length = sz) →
      (∀ (i : Nat) (e : List AV) (j : Nat) (cc : AV), zs[i]? = some e → e[j]? = some cc → ∃ u, cells[o + i * sz + j]? = some u ∧ VR C cc u ∧ u.oneCell' = true) →
      ∃ news : List Value, news.length = m * sz ∧ (∀ (j : Nat) (u : Value), news[j]? = some u → w.cell? ((⟨b, o, none⟩ : Addr).add j) = some u) ∧ (∀ u, u ∈ news → u.oneCell' = true) ∧
        ∀ (i : Nat) (e : List AV) (j : Nat) (cc : AV), zs[i]? = some e → e[j]? = some cc → ∃ u, news[i * sz + j]? = some u ∧ VR C cc u := by
    intro b o m cells el fz zs hh hm hz hc
    have hall : ∀ k, k < m * sz → ∃ u, cells[o + k]? = some u ∧ u.oneCell' = true := by
      intro k hk
      have hsz : 0 < sz := by
        rcases Nat.eq_zero_or_pos sz with h0 | h0
        · subst h0; simp at hk
        · exact h0
      have hi : k / sz < m := Nat.div_lt_of_lt_mul (by rw [Nat.mul_comm]; exact hk)
      have hj : k % sz < sz := Nat.mod_lt _ hsz
      have hzi : zs[k / sz]? = some zs[k / sz] := List.getElem?_eq_getElem (by omega)
      have hel := hz _ (List.getElem_mem (by omega : k / sz < zs.length))
      have hej : zs[k / sz][k % sz]? = some zs[k / sz][k % sz] := List.getElem?_eq_getElem (by omega)
      obtain ⟨u, h1, _, h3⟩ := hc _ _ _ _ hzi hej
      refine ⟨u, ?_, h3⟩
      have := Nat.div_add_mod k sz
      rw [Nat.mul_comm] at this
      rw [show o + k = o + k / sz * sz + k % sz from by omega]; exact h1
    have hbig : m * sz = 0 ∨ o + m * sz ≤ cells.size := by
      rcases Nat.eq_zero_or_pos (m * sz) with h0 | h0
      · exact .inl h0
      · obtain ⟨u, h1, _⟩ := hall (m * sz - 1) (by omega)
        have := (Array.getElem?_eq_some_iff.1 h1).1
        exact .inr (by omega)
    have hlen : ((cells.toList.drop o).take (m * sz)).length = m * sz := by
      rw [List.length_take, List.length_drop, Array.length_toList]; omega
    have hget : ∀ j, j < m * sz → ((cells.toList.drop o).take (m * sz))[j]? = cells[o + j]? := by
      intro j hj
      rw [List.getElem?_take, if_pos hj, List.getElem?_drop, Array.getElem?_toList]
    refine ⟨(cells.toList.drop o).take (m * sz), hlen, ?_, ?_, ?_⟩
    · intro j u hu
      have hj := lt_of_get hu
      rw [hlen] at hj
      rw [hget j hj] at hu
      rw [block_cells hh]; exact hu
    · intro u hu
      obtain ⟨j, hj⟩ := List.mem_iff_getElem?.1 hu
      have hlt := lt_of_get hj
      rw [hlen] at hlt
      rw [hget j hlt] at hj
      obtain ⟨u', h1, h2⟩ := hall j hlt
      rw [h1] at hj; cases hj; exact h2
    · intro i e j cc he hcc
      obtain ⟨u, h1, h2, _⟩ := hc i e j cc he hcc
      have hi := lt_of_get he
      have hj : j < sz := by rw [← hz e (List.mem_of_getElem? he)]; exact lt_of_get hcc
      have := mul_lt_row (k := j) (sz := sz) (i := i) (j := m) (by omega) hj
      refine ⟨u, ?_, h2⟩
      rw [hget _ this, show o + (i * sz + j) = o + i * sz + j from by omega]; exact h1
  cases y with
  | lst es =>
    obtain ⟨rfl, hz⟩ := h
    cases hv with
    | lstNil => exact ⟨none, 0, rfl, fun _ => rfl, hz, nofun⟩
    | lst _ a sz' cap cells elem fz xs hs hb hz' hc hvv ho hcap =>
      refine ⟨some a, cap, rfl, nofun, hz, ?_⟩
      rintro a' ha
      cases ha
      rcases List.eq_nil_or_concat ys with rfl | ⟨_, _, hne⟩
      · exact ⟨[], by simp, (by intro j u h; simp at h), (by intro u h; cases h), (by intro i e j cc h; simp at h)⟩
      · have hne' : ys ≠ [] := by rw [hne]; simp
        have hsz : sz' = sz := by
          obtain ⟨e, r, rfl⟩ : ∃ e r, ys = e :: r := by cases ys with | nil => exact absurd rfl hne' | cons e r => exact ⟨e, r, rfl⟩
          rw [← hz' e List.mem_cons_self, hz e List.mem_cons_self]
        subst hsz
        obtain ⟨news, h1, h2, h3, h4⟩ := build a.block a.off ys.length cells elem fz ys (hw.hp _ _ (hb hne')) rfl hz (fun i e j cc he hcc => ⟨xs i j, hc i e j cc he hcc, hvv i e j cc he hcc, ho i e j cc he hcc⟩)
        have ea : (⟨a.block, a.off, none⟩ : Addr) = a := by have hs := hs hne'; cases a; simp at hs; simp [hs]
        rw [ea] at h2
        exact ⟨news, h1, h2, h3, h4⟩
  | own id sz' off len =>
    obtain ⟨rfl, el, es, hmem, hfit, rfl⟩ := h
    obtain ⟨hu, hlen, hor⟩ := hw.ids _ _ hmem
    have hl : ((es.drop off).take len).length = len := by rw [List.length_take, List.length_drop]; omega
    have hz : ∀ e : List AV, e ∈ (es.drop off).take len → e.length = sz' := fun e he => hlen e (List.mem_of_mem_drop (List.mem_of_mem_take he))
    cases hv with
    | ownNil => exact ⟨none, 0, by simp, fun _ => by simp, hz, nofun⟩
    | own _ _ _ _ b N cap hid _ hcap hlc hml =>
      refine ⟨some ⟨b, off * sz', none⟩, cap, by rw [hl], nofun, hz, ?_⟩
      rintro a' ha
      cases ha
      rcases hor with ⟨hm, _⟩ | ⟨b', N', cells, hm, hh, hs, hf, hrow⟩
      · rw [hid] at hm; cases hm
      · rw [hid] at hm; cases hm
        rw [hl]
        refine build b (off * sz') len cells el (0, 0) _ hh hl hz ?_
        intro i e j cc he hcc
        have hi := lt_of_get he
        rw [hl] at hi
        rw [List.getElem?_take, if_pos hi, List.getElem?_drop] at he
        obtain ⟨u, h1, h2, h3⟩ := hrow _ e j cc he hcc
        refine ⟨u, ?_, h2, h3⟩
        rw [Nat.add_mul] at h1; exact h1
  | v x =>
    cases x with
    | slice ad l c =>
      unfold SlA at h
      split at h
      · rename_i heq; cases heq
      · rename_i heq; cases heq
      · rename_i heq; cases heq
        subst h
        cases hv
        exact ⟨none, 0, rfl, fun _ => rfl, nofun, nofun⟩
      · exact h.elim
    | _ => exact h.elim
  | _ => exact h.elim


/-- A type of elements: cells, bytes, its zero value of so many cells. -/
def _root_.Go.Program.ap (P : Program) (e : TypeId) : Option (Nat × Nat) :=
  match P.info? e with
  | some i => match i.zero with
    | some z => if z.cells.size = i.size ∧ 0 < i.size then some (i.size, i.bytes) else none
    | none => none
  | none => none
class AP (P : Program) (e : TypeId) (size bytes : outParam Nat) : Prop where
  ap : P.ap e = some (size, bytes)

theorem AP.open {P : Program} {e size bytes : Nat} (h : P.ap e = some (size, bytes)) : ∃ i z, P.info? e = some i ∧ i.zero = some z ∧ i.size = size ∧ i.bytes = bytes ∧ z.cells.size = size ∧ 0 < size := by
  unfold Program.ap at h
  split at h
  · rename_i i hi
    split at h
    · rename_i z hz
      split at h
      · rename_i hc
        simp only [Option.some.injEq, Prod.mk.injEq] at h
        obtain ⟨rfl, rfl⟩ := h
        exact ⟨i, z, hi, hz, rfl, rfl, hc.1, hc.2⟩
      · cases h
    · cases h
  · cases h

section
variable {P : Program} {ro : Option Nat} {Q : Exit → St → Prop} {s : St} {ops : Array Oper} {o : Oper} {rest : List Oper}

/-- Rows laid one behind the other in a new block. -/
theorem or_new {C : Ctx} {id N : Nat} {w w1 : World} {el sz : TypeId} {olds news zs : List Value} {xs ys : List (List AV)} (hm : C.m id = some (w.heap.size, N))
    (hh : w1.heap[w.heap.size]? = some (.cells (olds ++ news ++ zs).toArray el (0, 0))) (hN : (olds ++ news ++ zs).length = N)
    (hx : ∀ e : List AV, e ∈ xs → e.length = sz) (hy : ∀ e : List AV, e ∈ ys → e.length = sz) (ho : olds.length = xs.length * sz) (hn : news.length = ys.length * sz)
    (hox : ∀ (i : Nat) (e : List AV) (j : Nat) (cc : AV), xs[i]? = some e → e[j]? = some cc → ∃ u, olds[i * sz + j]? = some u ∧ VR C cc u)
    (hnx : ∀ (i : Nat) (e : List AV) (j : Nat) (cc : AV), ys[i]? = some e → e[j]? = some cc → ∃ u, news[i * sz + j]? = some u ∧ VR C cc u)
    (h1 : ∀ u, u ∈ olds → u.oneCell' = true) (h2 : ∀ u, u ∈ news → u.oneCell' = true) : OR C id w1 (.rows el sz (xs ++ ys)) := by
  refine ⟨?_, .inr ⟨w.heap.size, N, _, hm, hh, by simpa using hN, ?_, ?_⟩⟩
  · intro e he
    rcases List.mem_append.1 he with h | h
    · exact hx e h
    · exact hy e h
  · rw [← hN, List.length_append, List.length_append, List.length_append, ho, hn, Nat.add_mul]; omega
  · intro i e j cc he hcc
    rw [List.getElem?_append] at he
    rw [List.getElem?_toArray, List.append_assoc]
    split at he
    · rename_i hlt
      obtain ⟨u, h3, h4⟩ := hox i e j cc he hcc
      exact ⟨u, by rw [List.getElem?_append_left (lt_of_get h3)]; exact h3, h4, h1 u (List.mem_of_getElem? h3)⟩
    · rename_i hge
      obtain ⟨u, h3, h4⟩ := hnx (i - xs.length) e j cc he hcc
      have e1 : i * sz + j = olds.length + ((i - xs.length) * sz + j) := by
        have hx : xs.length * sz + (i - xs.length) * sz = i * sz := by rw [← Nat.add_mul]; congr 1; omega
        rw [ho]; omega
      refine ⟨u, ?_, h4, h2 u (List.mem_of_getElem? h3)⟩
      rw [e1, List.getElem?_append_right (by omega), Nat.add_sub_cancel_left, List.getElem?_append_left (lt_of_get h3)]
      exact h3

def Ctx.bindO (C : Ctx) (id : Nat) (x : Option (Nat × Nat)) : Ctx := { C with m := fun i => if i = id then x else C.m i, U := id :: C.U }
theorem Ctx.le_bindO {C : Ctx} {id : Nat} {x : Option (Nat × Nat)} (h : id ∉ C.U) : C.Le (C.bindO id x) :=
  ⟨fun _ _ h => h, fun i hi => if_neg (fun e : i = id => h (by rw [← e]; exact hi)), fun i hi => List.mem_cons_of_mem _ hi⟩
theorem Ctx.bindO_m (C : Ctx) (id : Nat) (x : Option (Nat × Nat)) : (C.bindO id x).m id = x := if_pos rfl

/-- What append comes to, onto a row that is owned. -/
theorem append_run {C : Ctx} {H : AHeap} {w : World} {Z : List Nat} {t ty e size bytes id id' k : Nat} {v vy : Value} {y : AV} {xs ys : List (List AV)} [hu : UD P t (.slice e)] [ha : AP P e size bytes]
    (hs : WR C H w) (hH : H[k]? = some (id, .rows e size xs)) (hp : VR C (.own id size 0 xs.length) v) (hq : VR C y vy) (hy : SlA H size y ys)
    (hml : (xs.length + ys.length) * bytes ≤ 140737488355328) (hm : xs.length + ys.length ≤ maxLen) (hid : id' ∉ C.U) (hidz : id' ∉ Z) :
    ∃ v' w' C', (Builtin.append_ #[t, t] ty #[v, vy]).run P w = .ok v' w' ∧ VR C' (.own id' size 0 (xs.length + ys.length)) v' ∧ WR C' (H.set k (id', .rows e size (xs ++ ys))) w' ∧ Ext Z C H w C' (H.set k (id', .rows e size (xs ++ ys))) w' := by
  obtain ⟨i, z, hi, hz, hsz, hby, hzs, hpos⟩ := AP.open ha.ap
  obtain ⟨ad, c, rfl, hnil, hlen, hcells⟩ := hy.cells hs hq
  have hmem := List.mem_of_getElem? hH
  have hown : SlA H size (.own id size 0 xs.length) xs := ⟨rfl, e, xs, hmem, by omega, by simp⟩
  obtain ⟨hu', hlenx, hor⟩ := hs.ids _ _ hmem
  obtain ⟨adp, cp, hv, hnilp, _, hcellsp⟩ := hown.cells hs hp
  have hav : ∀ x, ∀ z, z ∈ Z → z ∉ C.U → z ∉ (C.bindO id' x).U := by
    intro x z hz' hn
    simp only [Ctx.bindO, List.mem_cons, not_or]
    exact ⟨fun e => hidz (e ▸ hz'), hn⟩
  have hle : ∀ x, C.Le (C.bindO id' x) := fun x => Ctx.le_bindO hid
  -- the row under its new name, where nothing is put
  have same : ys = [] → WR (C.bindO id' (C.m id)) (H.set k (id', .rows e size (xs ++ ys))) w ∧ Ext Z C H w (C.bindO id' (C.m id)) (H.set k (id', .rows e size (xs ++ ys))) w := by
    rintro rfl
    refine repl_at hs hH (hle _) rfl (.inr hid) List.mem_cons_self (hav _) rfl rfl rfl (Nat.le_refl _) (fun b N hm => .inl ⟨N, by rw [Ctx.bindO_m] at hm; exact hm⟩) (fun _ _ _ => rfl) ?_
    rw [List.append_nil]
    refine ⟨hlenx, ?_⟩
    rcases hor with ⟨h1, h2⟩ | ⟨b, N, cells, h1, h2, h3, h4, h5⟩
    · exact .inl ⟨by rw [Ctx.bindO_m]; exact h1, h2⟩
    · exact .inr ⟨b, N, cells, by rw [Ctx.bindO_m]; exact h1, h2, h3, h4, fun i e j cc a b => let ⟨u, x, y, z⟩ := h5 i e j cc a b; ⟨u, x, y.mono (hle _), z⟩⟩
  -- a new block
  have grow : ∀ (olds news zs : List Value) (N : Nat), olds.length = xs.length * size → news.length = ys.length * size → (olds ++ news ++ zs).length = N →
      (∀ (i : Nat) (e : List AV) (j : Nat) (cc : AV), xs[i]? = some e → e[j]? = some cc → ∃ u, olds[i * size + j]? = some u ∧ VR C cc u) →
      (∀ (i : Nat) (e : List AV) (j : Nat) (cc : AV), ys[i]? = some e → e[j]? = some cc → ∃ u, news[i * size + j]? = some u ∧ VR C cc u) →
      (∀ u, u ∈ olds → u.oneCell' = true) → (∀ u, u ∈ news → u.oneCell' = true) →
      WR (C.bindO id' (some (w.heap.size, N))) (H.set k (id', .rows e size (xs ++ ys))) (w.drew.alloc (.cells (olds ++ news ++ zs).toArray e)) ∧
        Ext Z C H w (C.bindO id' (some (w.heap.size, N))) (H.set k (id', .rows e size (xs ++ ys))) (w.drew.alloc (.cells (olds ++ news ++ zs).toArray e)) := by
    intro olds news zs N h1 h2 h3 h4 h5 h6 h7
    have hal : ∀ b, b < w.heap.size → (w.drew.alloc (.cells (olds ++ news ++ zs).toArray e)).heap[b]? = w.heap[b]? := fun b hb => heap_alloc_old w.drew _ hb
    refine repl_at hs hH (hle _) rfl (.inr hid) List.mem_cons_self (hav _) rfl rfl rfl (by simp) (fun b N' hm => .inr ?_) (fun b hb _ => hal b hb) ?_
    · rw [Ctx.bindO_m] at hm; cases hm; exact Nat.le_refl _
    · exact or_new (w := w) (Ctx.bindO_m ..) (heap_alloc_new w.drew _) h3 hlenx hlen h1 h2 (fun i e' j cc a b => let ⟨u, x, y⟩ := h4 i e' j cc a b; ⟨u, x, y.mono (hle _)⟩) (fun i e' j cc a b => let ⟨u, x, y⟩ := h5 i e' j cc a b; ⟨u, x, y.mono (hle _)⟩) h6 h7
  have hvgrow : ∀ cap, xs.length + ys.length ≤ cap → cap ≤ maxLen → VR (C.bindO id' (some (w.heap.size, cap * size))) (.own id' size 0 (xs.length + ys.length)) (.slice (some ⟨w.heap.size, 0, none⟩) (xs.length + ys.length) cap) := by
    intro cap h1 h2
    have := VR.own (C := C.bindO id' (some (w.heap.size, cap * size))) id' size 0 (xs.length + ys.length) w.heap.size (cap * size) cap (Ctx.bindO_m ..) List.mem_cons_self (by simp) h1 h2
    simpa using this
  have hzc : ∀ m cap, m ≤ cap → m * size + (Builtin.zeroCells z.cells (cap - m)).size = cap * size := by
    intro m cap h
    rw [size_zeroCells, hzs, ← Nat.add_mul]; congr 1; omega
  have hp' := hp
  generalize hxn : xs.length = n at hp'
  cases hp' with
  | ownNil _ _ hmn =>
    have hx0 : xs = [] := List.length_eq_zero_iff.1 hxn
    subst hx0
    rcases Nat.eq_zero_or_pos ys.length with h0 | h0
    · have hy0 := List.length_eq_zero_iff.1 h0
      subst hy0
      obtain ⟨h1, h2⟩ := same rfl
      refine ⟨.slice none 0 0, w, _, ?_, .ownNil id' size (by rw [Ctx.bindO_m]; exact hmn) List.mem_cons_self, h1, h2⟩
      cases ad <;> simp [Builtin.append_, Go.run_underlying hu.ud, sizeOf, typeInfo, hi, Builtin.lenOf, Builtin.firstCells, loadCells, loadCellsFrom, Result.andThen, Sem.run_bind]
    · cases ad with
      | none => have := hnil rfl; subst this; simp at h0
      | some ad =>
        obtain ⟨news, hn1, hn2, hn3, hn4⟩ := hcells ad rfl
        have hml' : ys.length * bytes ≤ 140737488355328 := by simpa using hml
        have hm' : ys.length ≤ maxLen := by simpa using hm
        have hcap := grownCap_ge w ys.length 0 e
        have hcapm := grownCap_le_maxLen w ys.length 0 e hm'
        have hrun := run_append_nil (P := P) (w := w) t ty e i z hu.ud hi hz ad ys.length c news (by rw [hsz]; exact hn1) hn2 h0 (by simp only [maxLen] at hm'; omega) (by rw [hby]; omega)
        obtain ⟨h1, h2⟩ := grow [] news (Builtin.zeroCells z.cells (grownCap w ys.length 0 e - ys.length)).toList (grownCap w ys.length 0 e * size) (by simp) hn1
          (by have := hzc ys.length _ hcap; simp only [List.nil_append, List.length_append, Array.length_toList, hn1]; exact this) (by intro i e j cc h; simp at h) hn4 nofun hn3
        have e0 : (news.toArray ++ Builtin.zeroCells z.cells (grownCap w ys.length 0 e - ys.length)) = ([] ++ news ++ (Builtin.zeroCells z.cells (grownCap w ys.length 0 e - ys.length)).toList).toArray := by simp
        rw [e0] at hrun
        have hv' := hvgrow (grownCap w ys.length 0 e) (by simpa using hcap) hcapm
        simp only [List.length_nil, Nat.zero_add] at hv' ⊢
        exact ⟨_, _, _, hrun, hv', h1, h2⟩
  | own _ _ _ _ b N cap hmb _ hcap hlc hcm =>
    subst hxn
    rcases hor with ⟨hm0, _⟩ | ⟨b', N', cells, hmb', hh, hsN, hfit, hrow⟩
    · rw [hmb] at hm0; cases hm0
    · rw [hmb] at hmb'; cases hmb'
      simp only [Nat.zero_mul, Nat.zero_add] at hcap hv ⊢
      cases ad with
      | none =>
        have hy0 := hnil rfl
        subst hy0
        obtain ⟨h1, h2⟩ := same rfl
        refine ⟨.slice (some ⟨b, 0, none⟩) xs.length cap, w, _, ?_, ?_, h1, h2⟩
        · simp [Builtin.append_, Go.run_underlying hu.ud, sizeOf, typeInfo, hi, Builtin.lenOf, hlc, Builtin.firstCells, storeCells, Result.andThen, Sem.run_bind]
        · have := VR.own (C := C.bindO id' (C.m id)) id' size 0 xs.length b N cap (by rw [Ctx.bindO_m]; exact hmb) List.mem_cons_self (by simpa using hcap) hlc hcm
          simpa using this
      | some ad =>
        obtain ⟨news, hn1, hn2, hn3, hn4⟩ := hcells ad rfl
        rcases Nat.lt_or_ge cap (xs.length + ys.length) with hg | hg
        · obtain ⟨olds, ho1, ho2, ho3, ho4⟩ := hcellsp ⟨b, 0, none⟩ (by simpa using (by cases hv; rfl : (some (⟨b, 0, none⟩ : Addr)) = adp).symm)
          have hcap1 := grownCap_ge w (xs.length + ys.length) cap e
          have hcapm := grownCap_le_maxLen w (xs.length + ys.length) cap e hm
          have hrun := run_append_grow (P := P) (w := w) t ty e i z hu.ud hi hz ⟨b, 0, none⟩ xs.length cap olds (by rw [hsz]; exact ho1) ho2 ad ys.length c news (by rw [hsz]; exact hn1) hn2 hg (by simp only [maxLen] at hm; omega)
            (by rw [hby]; exact growslice_fits hg hml)
          obtain ⟨h1, h2⟩ := grow olds news (Builtin.zeroCells z.cells (grownCap w (xs.length + ys.length) cap e - (xs.length + ys.length))).toList (grownCap w (xs.length + ys.length) cap e * size) ho1 hn1
            (by have := hzc (xs.length + ys.length) _ hcap1; rw [Nat.add_mul] at this; simp only [List.length_append, Array.length_toList, hn1, ho1]; exact this) ho4 hn4 ho3 hn3
          have e0 : (olds.toArray ++ news.toArray ++ Builtin.zeroCells z.cells (grownCap w (xs.length + ys.length) cap e - (xs.length + ys.length))) = (olds ++ news ++ (Builtin.zeroCells z.cells (grownCap w (xs.length + ys.length) cap e - (xs.length + ys.length))).toList).toArray := by simp
          rw [e0] at hrun
          exact ⟨_, _, _, hrun, hvgrow _ hcap1 hcapm, h1, h2⟩
        · -- there is room
          have hNs : (xs.length + ys.length) * size ≤ cells.size := by rw [hsN, ← hcap]; exact Nat.mul_le_mul_right _ hg
          rw [Nat.add_mul] at hNs
          have hrun := run_append_room (P := P) (w := w) t ty e i hu.ud hi b xs.length cap cells hh ad ys.length c news (by rw [hsz]; exact hn1) hn2 hn3 hg (by rw [hsz, hn1]; exact hNs)
          rw [hsz] at hrun
          refine ⟨_, _, C.bindO id' (C.m id), hrun, ?_, ?_⟩
          · have := VR.own (C := C.bindO id' (C.m id)) id' size 0 (xs.length + ys.length) b N cap (by rw [Ctx.bindO_m]; exact hmb) List.mem_cons_self (by simpa using hcap) hg hcm
            simpa using this
          · refine repl_at hs hH (hle _) rfl (.inr hid) List.mem_cons_self (hav _) rfl rfl rfl (by simp) (fun b2 N2 hm2 => .inl ⟨N2, by rw [Ctx.bindO_m] at hm2; exact hm2⟩) (fun b2 hb2 hne => setRow_other w b b2 _ (by rintro rfl; exact hne N hmb)) ?_
            refine ⟨?_, .inr ⟨b, N, _, by rw [Ctx.bindO_m]; exact hmb, setRow_heap w b cells _ e (0, 0) hh, ?_, ?_, ?_⟩⟩
            · intro e' he'
              rcases List.mem_append.1 he' with h | h
              · exact hlenx e' h
              · exact hlen e' h
            · simp only [List.size_toArray, List.length_append, List.length_take, List.length_drop, Array.length_toList, hn1]
              omega
            · rw [List.length_append, Nat.add_mul]; omega
            · intro i' e' j cc he' hcc
              rw [List.getElem?_toArray, splice_get _ _ _ _ (by rw [hn1, Array.length_toList]; exact hNs), hn1]
              rw [List.getElem?_append] at he'
              split at he'
              · rename_i hlt
                have hj : j < size := by rw [← hlenx e' (List.mem_of_getElem? he')]; exact lt_of_get hcc
                have := mul_lt_row (k := j) (sz := size) hlt hj
                rw [if_pos this, Array.getElem?_toList]
                obtain ⟨u, h1, h2, h3⟩ := hrow i' e' j cc he' hcc
                exact ⟨u, h1, h2.mono (hle _), h3⟩
              · rename_i hge
                obtain ⟨u, h1, h2⟩ := hn4 (i' - xs.length) e' j cc he' hcc
                have hlt := lt_of_get h1
                rw [hn1] at hlt
                have hx : xs.length * size + (i' - xs.length) * size = i' * size := by rw [← Nat.add_mul]; congr 1; omega
                rw [if_neg (by omega), if_pos (by omega)]
                refine ⟨u, ?_, h2.mono (hle _), hn3 u (List.mem_of_getElem? h1)⟩
                rw [← h1]; congr 1; omega

/-- append, onto a row that is owned. k: its place. -/
theorem aops_append {t e size bytes id : Nat} {p q : Operand} {y : AV} {xs ys : List (List AV)} {n : Nat} (k : Nat) [hu : UD P t (.slice e)] [ha : AP P e size bytes] (hw : Wanted ops s.T o true) (hd : dok o.dst s.n = true)
    (ho : o.op = .call { callee := .builtin .append, args := #[p, q], argTypes := #[t, t] }) (hp : ev s.T p = some (.own id size 0 n)) (hH : s.H[k]? = some (id, .rows e size xs)) (hn : n = xs.length) (hq : ev s.T q = some y) (hy : SlA s.H size y ys)
    (hml : (xs.length + ys.length) * bytes ≤ 140737488355328) (hm : xs.length + ys.length ≤ maxLen)
    (h : ∀ id', AOps P ro ops rest Q { s with T := put s.T o.dst (.own id' size 0 (xs.length + ys.length)), H := s.H.set k (id', .rows e size (xs ++ ys)) }) : AOps P ro ops (o :: rest) Q s := by
  subst hn
  refine aops_step hw ?_
  intro Z C0 H0 w0 C a w hx0 hs
  obtain ⟨id', hid⟩ := fresh (C.U ++ Z)
  rw [List.mem_append, not_or] at hid
  obtain ⟨v', w', C', h1, h2, h3, h4⟩ := append_run (P := P) (ty := o.type) (t := t) hs.wr hH (hs.ev hp) (hs.ev hq) hy hml hm hid.1 hid.2
  have hr : (o.semAt ro a.eval).run P w = .ok (.value v') w' := by
    rw [Oper.semAt_eq _ _ _ (by intro c; rw [ho]; nofun)]
    simp [execOp, ho, resolve, invoke, builtin, h1, Result.andThen, Sem.run_bind]
  rw [hr]
  exact ⟨C', _, h id', hs.put h4.le h3 (dok_spec hd) h2, hx0.trans h4⟩

end
end Go.Sx
