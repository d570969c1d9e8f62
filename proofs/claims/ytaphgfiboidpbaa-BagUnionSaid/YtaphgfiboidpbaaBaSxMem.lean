/- Operations that make memory, or write what is owned. -/
import Derived.Test.YtaphgfiboidpbaaBaSxOps
import Derived.WalkKit
set_option linter.unusedSimpArgs false
set_option linter.unusedVariables false
set_option linter.unnecessarySimpa false
namespace Go.Sx
open Go

def Ctx.bind (C : Ctx) (id b N : Nat) : Ctx := { C with m := fun i => if i = id then some (b, N) else C.m i, U := id :: C.U }

theorem Ctx.le_bind {C : Ctx} {id b N : Nat} (h : id ∉ C.U) : C.Le (C.bind id b N) :=
  ⟨fun _ _ h => h, fun i hi => if_neg (fun e : i = id => h (by rw [← e]; exact hi)), fun i hi => List.mem_cons_of_mem _ hi⟩
theorem Ctx.bind_m (C : Ctx) (id b N : Nat) : (C.bind id b N).m id = some (b, N) := if_pos rfl

/-- One owned thing becomes another one, in its block or in a new one; all else stays. -/
theorem repl_head {Z : List Nat} {C C' : Ctx} {R : AHeap} {w w' : World} {id id' : Nat} {o o' : AObj} (hw : WR C ((id, o) :: R) w) (hle : C.Le C') (hhp : C'.hp = C.hp)
    (hid : id' = id ∨ id' ∉ C.U) (hu : id' ∈ C'.U) (hav : ∀ z, z ∈ Z → z ∉ C.U → z ∉ C'.U) (h1 : w'.os = w.os) (h2 : w'.tape = w.tape) (h3 : w'.output = w.output) (hsz : w.heap.size ≤ w'.heap.size)
    (hb : ∀ b N, C'.m id' = some (b, N) → (∃ N', C.m id = some (b, N')) ∨ w.heap.size ≤ b)
    (hk : ∀ b, b < w.heap.size → (∀ N, C.m id ≠ some (b, N)) → w'.heap[b]? = w.heap[b]?) (hor : OR C' id' w' o') :
    WR C' ((id', o') :: R) w' ∧ Ext Z C ((id, o) :: R) w C' ((id', o') :: R) w' := by
  have hnd := hw.nd
  simp only [List.map_cons, List.nodup_cons] at hnd
  have hlt : ∀ b, blk C ((id, o) :: R) b → b < w.heap.size := fun b h => hw.lt h
  have hne : ∀ j o'' b N N', (j, o'') ∈ R → C.m j = some (b, N) → C.m id ≠ some (b, N') := by
    intro j o'' b N N' hj hm hm'
    have := hw.inj id j o o'' b N' N List.mem_cons_self (List.mem_cons_of_mem _ hj) hm' hm
    subst this
    exact hnd.1 (List.mem_map.2 ⟨(id, o''), hj, rfl⟩)
  have hRu : ∀ j o'', (j, o'') ∈ R → j ∈ C.U := fun j o'' hj => (hw.ids j o'' (List.mem_cons_of_mem _ hj)).1
  have hhead : ∀ b N, C'.m id' = some (b, N) → ∀ j o'' N', (j, o'') ∈ R → C.m j = some (b, N') → False := by
    intro b N hm j o'' N' hj hm'
    rcases hb b N hm with ⟨N'', hx⟩ | hx
    · exact hne j o'' b N' N'' hj hm' hx
    · exact Nat.not_lt.2 hx (hlt b ⟨j, o'', N', List.mem_cons_of_mem _ hj, hm'⟩)
  refine ⟨⟨?_, ?_, ?_, ?_, ?_⟩, ⟨hle, hav, h1, h2, h3, hsz, ?_, ?_, ?_, ?_⟩⟩
  · intro b ob hx
    rw [hhp] at hx
    have h5 := hw.hp b ob hx
    rw [← h5]
    refine hk b (Array.getElem?_eq_some_iff.1 h5).1 (fun N hm => ?_)
    rw [hw.dis b ⟨id, o, N, List.mem_cons_self, hm⟩] at hx; cases hx
  · simp only [List.map_cons, List.nodup_cons]
    refine ⟨?_, hnd.2⟩
    rcases hid with rfl | hid
    · exact hnd.1
    · intro hm
      obtain ⟨⟨j, o''⟩, h5, h6⟩ := List.mem_map.1 hm
      simp only at h6; subst h6
      exact hid (hRu _ _ h5)
  · intro i ob hi
    rcases List.mem_cons.1 hi with hi | hi
    · cases hi; exact ⟨hu, hor⟩
    · obtain ⟨h5, h6⟩ := hw.ids i ob (List.mem_cons_of_mem _ hi)
      exact ⟨hle.U i h5, h6.keep hle h5 (fun b N hm => hk b (h6.lt hm) (fun N' => hne i ob b N N' hi hm))⟩
  · intro i j o1 o2 b N N' hi hj hm hm'
    rcases List.mem_cons.1 hi with hi | hi <;> rcases List.mem_cons.1 hj with hj | hj
    · cases hi; cases hj; rfl
    · cases hi
      rw [hle.m j (hRu j o2 hj)] at hm'
      exact (hhead b N hm j o2 N' hj hm').elim
    · cases hj
      rw [hle.m i (hRu i o1 hi)] at hm
      exact (hhead b N' hm' i o1 N hi hm).elim
    · rw [hle.m i (hRu i o1 hi)] at hm
      rw [hle.m j (hRu j o2 hj)] at hm'
      exact hw.inj i j o1 o2 b N N' (List.mem_cons_of_mem _ hi) (List.mem_cons_of_mem _ hj) hm hm'
  · rintro b ⟨i, ob, N, hi, hm⟩
    rw [hhp]
    rcases List.mem_cons.1 hi with hi | hi
    · cases hi
      rcases hb b N hm with ⟨N'', hx⟩ | hx
      · exact hw.dis b ⟨id, o, N'', List.mem_cons_self, hx⟩
      · cases hx' : C.hp b with
        | none => rfl
        | some o'' => exact (Nat.not_lt.2 hx (Array.getElem?_eq_some_iff.1 (hw.hp b o'' hx')).1).elim
    · rw [hle.m i (hRu i ob hi)] at hm
      exact hw.dis b ⟨i, ob, N, List.mem_cons_of_mem _ hi, hm⟩
  · intro b hb' hn
    exact hk b hb' (fun N hm => hn ⟨id, o, N, List.mem_cons_self, hm⟩)
  · intro b ob hx
    rw [hhp] at hx
    exact .inl ⟨ob, hx⟩
  · rintro b ⟨i, ob, N, hi, hm⟩
    rcases List.mem_cons.1 hi with hi | hi
    · cases hi
      rcases hb b N hm with ⟨N'', hx⟩ | hx
      · exact .inl ⟨id, o, N'', List.mem_cons_self, hx⟩
      · exact .inr hx
    · rw [hle.m i (hRu i ob hi)] at hm
      exact .inl ⟨i, ob, N, List.mem_cons_of_mem _ hi, hm⟩
  · intro i ob hi
    rcases List.mem_cons.1 hi with hi | hi
    · cases hi
      rcases hid with rfl | hid
      · exact .inl ⟨o, List.mem_cons_self⟩
      · exact .inr hid
    · exact .inl ⟨ob, List.mem_cons_of_mem _ hi⟩

theorem split_get {H : AHeap} {k : Nat} {p : Nat × AObj} (h : H[k]? = some p) : ∃ H1 H2, H = H1 ++ p :: H2 ∧ ∀ q, H.set k q = H1 ++ q :: H2 := by
  induction H generalizing k with
  | nil => simp at h
  | cons x H ih =>
    cases k with
    | zero => simp at h; subst h; exact ⟨[], H, rfl, fun q => rfl⟩
    | succ k =>
      obtain ⟨H1, H2, h1, h2⟩ := ih (by simpa using h)
      exact ⟨x :: H1, H2, by rw [h1]; rfl, fun q => by rw [List.set_cons_succ, h2]; rfl⟩

/-- The same at a place of the list. -/
theorem repl_at {Z : List Nat} {C C' : Ctx} {H : AHeap} {k : Nat} {w w' : World} {id id' : Nat} {o o' : AObj} (hw : WR C H w) (hkk : H[k]? = some (id, o)) (hle : C.Le C') (hhp : C'.hp = C.hp)
    (hid : id' = id ∨ id' ∉ C.U) (hu : id' ∈ C'.U) (hav : ∀ z, z ∈ Z → z ∉ C.U → z ∉ C'.U) (h1 : w'.os = w.os) (h2 : w'.tape = w.tape) (h3 : w'.output = w.output) (hsz : w.heap.size ≤ w'.heap.size)
    (hb : ∀ b N, C'.m id' = some (b, N) → (∃ N', C.m id = some (b, N')) ∨ w.heap.size ≤ b)
    (hk : ∀ b, b < w.heap.size → (∀ N, C.m id ≠ some (b, N)) → w'.heap[b]? = w.heap[b]?) (hor : OR C' id' w' o') :
    WR C' (H.set k (id', o')) w' ∧ Ext Z C H w C' (H.set k (id', o')) w' := by
  obtain ⟨H1, H2, rfl, hset⟩ := split_get hkk
  rw [hset]
  have hp : ∀ q : Nat × AObj, (H1 ++ q :: H2).Perm (q :: (H1 ++ H2)) := fun q => List.perm_middle
  obtain ⟨g1, g2⟩ := repl_head (hw.perm (hp _)) hle hhp hid hu hav h1 h2 h3 hsz hb hk hor
  exact ⟨g1.perm (hp _).symm, (g2.permR (hp _).symm).permL (hp _).symm⟩

/-- A new block. -/
theorem new_block {Z : List Nat} {C : Ctx} {H : AHeap} {w : World} {id N : Nat} {o : Obj} {ob : AObj} (hw : WR C H w) (hid : id ∉ C.U) (hz : id ∉ Z)
    (hor : OR (C.bind id w.heap.size N) id (w.alloc o) ob) :
    WR (C.bind id w.heap.size N) ((id, ob) :: H) (w.alloc o) ∧ Ext Z C H w (C.bind id w.heap.size N) ((id, ob) :: H) (w.alloc o) := by
  have hle := Ctx.le_bind (C := C) (b := w.heap.size) (N := N) hid
  have hm := Ctx.bind_m C id w.heap.size N
  have hHu : ∀ j o'', (j, o'') ∈ H → j ∈ C.U := fun j o'' hj => (hw.ids j o'' hj).1
  have hold : ∀ b, b < w.heap.size → (w.alloc o).heap[b]? = w.heap[b]? := fun b hb => heap_alloc_old w o hb
  have hlt : ∀ j o'' b N', (j, o'') ∈ H → C.m j = some (b, N') → b < w.heap.size := fun j o'' b N' hj hm' => hw.lt ⟨j, o'', N', hj, hm'⟩
  refine ⟨⟨?_, ?_, ?_, ?_, ?_⟩, ⟨hle, ?_, rfl, rfl, rfl, by simp, fun b hb _ => hold b hb, fun b o' h => .inl ⟨o', h⟩, ?_, ?_⟩⟩
  · intro b o' h
    have := hw.hp b o' h
    rw [hold b (Array.getElem?_eq_some_iff.1 this).1]; exact this
  · simp only [List.map_cons, List.nodup_cons]
    refine ⟨?_, hw.nd⟩
    intro hx
    obtain ⟨⟨j, o''⟩, h5, h6⟩ := List.mem_map.1 hx
    simp only at h6; subst h6
    exact hid (hHu _ _ h5)
  · intro i o' hi
    rcases List.mem_cons.1 hi with hi | hi
    · cases hi; exact ⟨List.mem_cons_self, hor⟩
    · obtain ⟨h5, h6⟩ := hw.ids i o' hi
      exact ⟨hle.U i h5, h6.keep hle h5 (fun b N' hm' => hold b (h6.lt hm'))⟩
  · intro i j o1 o2 b N1 N2 hi hj hm1 hm2
    rcases List.mem_cons.1 hi with hi | hi <;> rcases List.mem_cons.1 hj with hj | hj
    · cases hi; cases hj; rfl
    · cases hi
      rw [hm] at hm1; cases hm1
      rw [hle.m j (hHu j o2 hj)] at hm2
      have := hlt j o2 _ _ hj hm2; omega
    · cases hj
      rw [hm] at hm2; cases hm2
      rw [hle.m i (hHu i o1 hi)] at hm1
      have := hlt i o1 _ _ hi hm1; omega
    · rw [hle.m i (hHu i o1 hi)] at hm1
      rw [hle.m j (hHu j o2 hj)] at hm2
      exact hw.inj i j o1 o2 b N1 N2 hi hj hm1 hm2
  · rintro b ⟨i, ob', N', hi, hm'⟩
    show C.hp b = none
    rcases List.mem_cons.1 hi with hi | hi
    · cases hi
      rw [hm] at hm'; cases hm'
      cases hx : C.hp w.heap.size with
      | none => rfl
      | some o'' => have := (Array.getElem?_eq_some_iff.1 (hw.hp _ o'' hx)).1; omega
    · rw [hle.m i (hHu i ob' hi)] at hm'
      exact hw.dis b ⟨i, ob', N', hi, hm'⟩
  · intro z hz' hn
    simp only [Ctx.bind, List.mem_cons, not_or]
    exact ⟨fun e => hz (e ▸ hz'), hn⟩
  · rintro b ⟨i, ob', N', hi, hm'⟩
    rcases List.mem_cons.1 hi with hi | hi
    · cases hi; rw [hm] at hm'; cases hm'; exact .inr (Nat.le_refl _)
    · rw [hle.m i (hHu i ob' hi)] at hm'
      exact .inl ⟨i, ob', N', hi, hm'⟩
  · intro i ob' hi
    rcases List.mem_cons.1 hi with hi | hi
    · cases hi; exact .inr hid
    · exact .inl ⟨ob', hi⟩

/-! ### Cells of values -/

def cellsA : AV → List AV
  | .agg cs => cs
  | .v (.agg vs) => vs.toList.map .v
  | x => [x]

/-- A value of one cell. -/
def one : AV → Bool
  | .agg _ => false
  | .tup _ => false
  | .v (.agg _) => false
  | .v (.tuple _) => false
  | _ => true

theorem one_spec {C : Ctx} {x : AV} {v : Value} (h : VR C x v) (ho : one x = true) : v.oneCell' = true := by
  cases h with
  | v => cases v <;> first | rfl | (simp [one] at ho)
  | agg => simp [one] at ho
  | tup => simp [one] at ho
  | _ => rfl

theorem cellsA_spec {C : Ctx} {x : AV} {v : Value} (h : VR C x v) : (cellsA x).length = v.cells.size ∧ ∀ (i : Nat) (c : AV) (u : Value), (cellsA x)[i]? = some c → v.cells[i]? = some u → VR C c u := by
  have h0 := h
  have single : cellsA x = [x] → v.cells = #[v] → (cellsA x).length = v.cells.size ∧ ∀ (i : Nat) (c : AV) (u : Value), (cellsA x)[i]? = some c → v.cells[i]? = some u → VR C c u := by
    intro e1 e2
    rw [e1, e2]
    refine ⟨rfl, fun i c u h1 h2 => ?_⟩
    cases i with
    | zero => simp at h1 h2; subst h1; subst h2; exact h0
    | succ i => simp at h1
  cases h with
  | v =>
    cases v with
    | agg vs =>
      refine ⟨by simp [cellsA, Value.cells], fun i c u h1 h2 => ?_⟩
      simp only [cellsA, List.getElem?_map] at h1
      simp only [Value.cells] at h2
      have : vs.toList[i]? = some u := by rw [Array.getElem?_toList]; exact h2
      rw [this] at h1
      cases h1
      exact .v u
    | _ => exact single rfl rfl
  | agg cs vs hl hh => exact ⟨hl, hh⟩
  | _ => exact single rfl rfl

/-- A row of cells of one thing. -/
theorem or_row {C : Ctx} {id b n : Nat} {w : World} {el : TypeId} {l : List AV} {vs : Array Value} (hm : C.m id = some (b, n)) (hh : w.heap[b]? = some (.cells vs el (0, 0))) (hl : l.length = n) (hs : l.length = vs.size)
    (hv : ∀ (i : Nat) (c : AV) (u : Value), l[i]? = some c → vs[i]? = some u → VR C c u) (h1 : ∀ (i : Nat) (u : Value), vs[i]? = some u → u.oneCell' = true) : OR C id w (.rows el n [l]) := by
  refine ⟨by intro e he; simp at he; subst he; exact hl, .inr ⟨b, n, vs, hm, hh, by omega, by simp, ?_⟩⟩
  intro i e j c he hc
  cases i with
  | zero =>
    simp at he; subst he
    have hlt : j < vs.size := by rw [← hs]; exact (List.getElem?_eq_some_iff.1 hc).1
    have hg : vs[j]? = some vs[j] := Array.getElem?_eq_getElem hlt
    refine ⟨vs[j], by simpa using hg, hv j c _ hc hg, h1 j _ hg⟩
  | succ i => simp at he

theorem ones {C : Ctx} {l : List AV} {vs : Array Value} (hs : l.length = vs.size) (hv : ∀ (i : Nat) (c : AV) (u : Value), l[i]? = some c → vs[i]? = some u → VR C c u) (ho : l.all one = true) : ∀ (i : Nat) (u : Value), vs[i]? = some u → u.oneCell' = true := by
  intro i u hu
  have hlt : i < l.length := by rw [hs]; exact (Array.getElem?_eq_some_iff.1 hu).1
  have hg : l[i]? = some l[i] := List.getElem?_eq_getElem hlt
  exact one_spec (hv i _ u hg hu) (List.all_eq_true.1 ho _ (List.getElem_mem hlt))

section
variable {P : Program} {T : List (Nat × AV)} {o : Oper}

/-- What is said of an operation that lays one block. -/
theorem eff_new {id N : Nat} {x : AV} {ob : AObj} {Hn : AHeap} (hd : ∀ c, o.op ≠ .defer c)
    (h : ∀ (C : Ctx) (H : AHeap) (a : Act) (w : World), WR C H w → (∀ p, p ∈ Hn → p ∈ H) → (∀ p, p ∈ o.op.operands → ∀ y, ev T p = some y → VR C y (a.eval p)) → id ∉ C.U →
      ∃ v ob', (execOp a.eval o).run P w = .ok (.value v) (w.alloc ob') ∧ VR (C.bind id w.heap.size N) x v ∧ OR (C.bind id w.heap.size N) id (w.alloc ob') ob) : Eff P o T Hn x [(id, ob)] := by
  intro Z C H a w hw hn hv hf _ hz ro next R hk
  have hid : id ∉ C.U := hf (id, ob) (by simp)
  obtain ⟨v, ob', h1, h2, h3⟩ := h C H a w hw hn hv hid
  rw [Oper.semAt_eq _ _ _ hd, h1]
  obtain ⟨h4, h5⟩ := new_block (Z := Z) hw hid (fun hz' => hz id hz' (by simp)) h3
  exact hk v _ _ h2 h4 h5

theorem eff_box (id : Nat) {t n : Nat} {b : Bool} {p : Operand} {x : AV} {l : List AV} [k : TK P t b n] (ho : o.op = .box t p) (hp : ev T p = some x) (hl : cellsA x = l) (hn : l.length = n) (h1 : l.all one = true) : Eff P o T [] (.ptr id n 0 0) [(id, .rows t n [l])] :=
  eff_new (N := n) (by intro c; rw [ho]; nofun) fun C H a w hw _ hv hid => by
    subst hl
    have h2 := (hv p (by rw [ho]; simp [Op.operands]) _ hp).mono (Ctx.le_bind (b := w.heap.size) (N := n) hid)
    obtain ⟨h3, h4⟩ := cellsA_spec h2
    refine ⟨.pointer (some ⟨w.heap.size, 0, none⟩), .cells (a.eval p).cells t, ?_, ?_, ?_⟩
    · simp [execOp, ho, Instr.box, newVar, newRow, run_newObj_alloc, Sem.run_bind, Result.andThen]
    · have := VR.ptr (C := C.bind id w.heap.size n) id n 0 0 w.heap.size n (Ctx.bind_m ..) List.mem_cons_self
      simpa using this
    · exact or_row (Ctx.bind_m ..) (heap_alloc_new w _) hn h3 h4 (ones h3 h4 h1)

theorem eff_alloc (id : Nat) {t n : Nat} {b : Bool} {zs : List Value} [k : TK P t b n] [z : ZC P t zs] (ho : o.op = .alloc t) (hn : zs.length = n) (h1 : (zs.map AV.v).all one = true) : Eff P o T [] (.ptr id n 0 0) [(id, .rows t n [zs.map .v])] :=
  eff_new (N := n) (by intro c; rw [ho]; nofun) fun C H a w hw _ hv hid => by
    have hz := z.zc
    unfold Program.zc at hz
    split at hz
    · rename_i i hi
      cases hz2 : i.zero with
      | none => rw [hz2] at hz; cases hz
      | some zv =>
        rw [hz2] at hz
        simp only [Option.map_some, Option.some.injEq] at hz
        refine ⟨.pointer (some ⟨w.heap.size, 0, none⟩), .cells zv.cells t, ?_, ?_, ?_⟩
        · simp [execOp, ho, Instr.alloc, zeroValue, typeInfo, hi, hz2, newVar, newRow, run_newObj_alloc, Sem.run_bind, Result.andThen]
        · have := VR.ptr (C := C.bind id w.heap.size n) id n 0 0 w.heap.size n (Ctx.bind_m ..) List.mem_cons_self
          simpa using this
        · have hlen : (zs.map AV.v).length = zv.cells.size := by rw [← hz]; simp
          have hrel : ∀ (i : Nat) (c : AV) (u : Value), (zs.map AV.v)[i]? = some c → zv.cells[i]? = some u → VR (C.bind id w.heap.size n) c u := by
            intro i c u h2 h3
            rw [← hz, List.getElem?_map, Array.getElem?_toList, h3] at h2
            cases h2
            exact .v u
          exact or_row (Ctx.bind_m ..) (heap_alloc_new w _) (by simpa using hn) hlen hrel (ones hlen hrel h1)
    · cases hz

end
end Go.Sx
