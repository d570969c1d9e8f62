/- The core of a small logic over the model: abstract values, an abstract heap of what a call owns, their relation to the model's values and worlds. -/
import Derived.RangeFuncRecord
import Derived.RangeFuncLeaves
import Derived.Below
import Derived.KernelRfl
namespace Go.Sx
open Go

/-- Abstract values: what a value means, without addresses of what never changes. -/
inductive AV where
  | v (x : Value)
  | agg (cs : List AV)
  | tup (cs : List AV)
  | lst (es : List (List AV))
  | own (id sz off len : Nat)
  | ptr (id sz i c : Nat)
  | elt (es : List (List AV)) (i c : Nat)
  | fn (f : Fn) (cap : List AV)
  | map (id : Nat)
  | ifc (t : TypeId) (x : AV)
  | yld (id : Nat)
  deriving Inhabited

def lk : List (Nat × AV) → Nat → Option AV
  | [], _ => none
  | (k, x) :: r, t => bif Nat.beq k t then some x else lk r t

/-- What a call owns: rows of cells, a map's entries, or whatever else lies in a block. -/
inductive AObj where
  | rows (e sz : Nat) (es : List (List AV))
  | mp (es : List (Value × AV))
  | raw (o : Obj)
  | loop (T : List (Nat × AV)) (n : Nat) (ps : Array Tmp) (assign body : Code) (st : LoopState) (pend : Option Code)

abbrev AHeap := List (Nat × AObj)

/-- hp: the blocks that nobody writes; m: which block (of how many cells) an owned thing's name stands for; U: the names in use. -/
structure Ctx where
  hp : Nat → Option Obj
  m : Nat → Option (Nat × Nat)
  U : List Nat

structure Ctx.Le (C C' : Ctx) : Prop where
  hp : ∀ b o, C.hp b = some o → C'.hp b = some o
  m : ∀ i, i ∈ C.U → C'.m i = C.m i
  U : ∀ i, i ∈ C.U → i ∈ C'.U

theorem Ctx.Le.refl (C : Ctx) : C.Le C := ⟨fun _ _ h => h, fun _ _ => rfl, fun _ h => h⟩
theorem Ctx.Le.trans {A B C : Ctx} (h : A.Le B) (k : B.Le C) : A.Le C :=
  ⟨fun b o x => k.hp b o (h.hp b o x), fun i x => (k.m i (h.U i x)).trans (h.m i x), fun i x => k.U i (h.U i x)⟩

inductive VR (C : Ctx) : AV → Value → Prop
  | v (x : Value) : VR C (.v x) x
  | agg (cs : List AV) (vs : Array Value) (hl : cs.length = vs.size)
      (h : ∀ (i : Nat) (c : AV) (x : Value), cs[i]? = some c → vs[i]? = some x → VR C c x) : VR C (.agg cs) (.agg vs)
  | tup (cs : List AV) (vs : Array Value) (hl : cs.length = vs.size)
      (h : ∀ (i : Nat) (c : AV) (x : Value), cs[i]? = some c → vs[i]? = some x → VR C c x) : VR C (.tup cs) (.tuple vs)
  | lstNil : VR C (.lst []) (.slice none 0 0)
  | lst (es : List (List AV)) (a : Addr) (sz cap : Nat) (cells : Array Value) (elem : TypeId) (fz : Nat × Nat) (xs : Nat → Nat → Value)
      (hs : es ≠ [] → a.spot = none) (hb : es ≠ [] → C.hp a.block = some (.cells cells elem fz))
      (hz : ∀ e : List AV, e ∈ es → e.length = sz)
      (hc : ∀ (i : Nat) (e : List AV) (j : Nat) (c : AV), es[i]? = some e → e[j]? = some c → cells[a.off + i * sz + j]? = some (xs i j))
      (hv : ∀ (i : Nat) (e : List AV) (j : Nat) (c : AV), es[i]? = some e → e[j]? = some c → VR C c (xs i j))
      (ho : ∀ (i : Nat) (e : List AV) (j : Nat) (c : AV), es[i]? = some e → e[j]? = some c → (xs i j).oneCell' = true)
      (hcap : es.length ≤ cap) : VR C (.lst es) (.slice (some a) es.length cap)
  | own (id sz off len b N cap : Nat) (hid : C.m id = some (b, N)) (hu : id ∈ C.U) (hcap : (off + cap) * sz = N) (hlen : len ≤ cap) (hml : cap ≤ maxLen) :
      VR C (.own id sz off len) (.slice (some ⟨b, off * sz, none⟩) len cap)
  | ownNil (id sz : Nat) (hid : C.m id = none) (hu : id ∈ C.U) : VR C (.own id sz 0 0) (.slice none 0 0)
  | ptr (id sz i c b N : Nat) (hid : C.m id = some (b, N)) (hu : id ∈ C.U) : VR C (.ptr id sz i c) (.pointer (some ⟨b, i * sz + c, none⟩))
  | elt (es : List (List AV)) (i c : Nat) (a : Addr) (sz cap n : Nat) (h : VR C (.lst es) (.slice (some a) n cap)) (hz : ∀ e : List AV, e ∈ es → e.length = sz) (hi : i < es.length) :
      VR C (.elt es i c) (.pointer (some ⟨a.block, a.off + i * sz + c, none⟩))
  | fn (f : Fn) (cap : List AV) (vs : Array Value) (hl : cap.length = vs.size)
      (h : ∀ (i : Nat) (c : AV) (x : Value), cap[i]? = some c → vs[i]? = some x → VR C c x) : VR C (.fn f cap) (.func f #[] vs)
  | map (id b N : Nat) (hid : C.m id = some (b, N)) (hu : id ∈ C.U) : VR C (.map id) (.map (some b))
  | ifc (t : TypeId) (x : AV) (v : Value) (h : VR C x v) : VR C (.ifc t x) (.iface t v)
  | yld (id l N : Nat) (hid : C.m id = some (l, N)) (hu : id ∈ C.U) : VR C (.yld id) (.func (.yield l) #[] #[])

theorem VR.mono {C C' : Ctx} (h : C.Le C') {x : AV} {v : Value} (hx : VR C x v) : VR C' x v := by
  induction hx with
  | v x => exact .v x
  | agg cs vs hl _ ih => exact .agg cs vs hl ih
  | tup cs vs hl _ ih => exact .tup cs vs hl ih
  | lstNil => exact .lstNil
  | lst es a sz cap cells elem fz xs hs hb hz hc _ ho hcap ih => exact .lst es a sz cap cells elem fz xs hs (fun e => h.hp _ _ (hb e)) hz hc ih ho hcap
  | own id sz off len b N cap hid hu hcap hlen hml => exact .own id sz off len b N cap ((h.m id hu).trans hid) (h.U id hu) hcap hlen hml
  | ownNil id sz hid hu => exact .ownNil id sz ((h.m id hu).trans hid) (h.U id hu)
  | ptr id sz i c b N hid hu => exact .ptr id sz i c b N ((h.m id hu).trans hid) (h.U id hu)
  | elt es i c a sz cap n _ hz hi ih => exact .elt es i c a sz cap n ih hz hi
  | fn f cap vs hl _ ih => exact .fn f cap vs hl ih
  | map id b N hid hu => exact .map id b N ((h.m id hu).trans hid) (h.U id hu)
  | ifc t x v _ ih => exact .ifc t x v ih
  | yld id l N hid hu => exact .yld id l N ((h.m id hu).trans hid) (h.U id hu)

/-- What an owned thing's block holds. -/
def OR (C : Ctx) (id : Nat) (w : World) : AObj → Prop
  | .rows el sz es => (∀ e : List AV, e ∈ es → e.length = sz) ∧
      ((C.m id = none ∧ es = []) ∨ ∃ b N cells, C.m id = some (b, N) ∧ w.heap[b]? = some (.cells cells el (0, 0)) ∧ cells.size = N ∧ es.length * sz ≤ N ∧
        ∀ (i : Nat) (e : List AV) (j : Nat) (c : AV), es[i]? = some e → e[j]? = some c → ∃ x, cells[i * sz + j]? = some x ∧ VR C c x ∧ x.oneCell' = true)
  | .mp es => ∃ b N ents clock, C.m id = some (b, N) ∧ w.heap[b]? = some (.map ents clock) ∧ ents.size = es.length ∧
        (∀ (i : Nat) (e : MapEntry), ents[i]? = some e → e.born < clock) ∧
        (∀ (i j : Nat) (e e' : MapEntry), ents[i]? = some e → ents[j]? = some e' → e.born = e'.born → i = j) ∧
        ∀ (i : Nat) (k : Value) (x : AV), es[i]? = some (k, x) → ∃ e : MapEntry, ents[i]? = some e ∧ e.key = k ∧ VR C x e.val
  | .raw o => ∃ b N, C.m id = some (b, N) ∧ w.heap[b]? = some o
  | .loop T n ps assign body st pend => ∃ b N r, C.m id = some (b, N) ∧ w.heap[b]? = some (.loop r) ∧ r.state = st ∧ r.pending = pend ∧ r.params = ps ∧ r.assign = assign ∧ r.body = body ∧ r.tmps.size = n ∧
        ∀ (t : Nat) (x : AV), lk T t = some x → ∃ v, r.tmps[t]? = some v ∧ VR C x v

def blk (C : Ctx) (H : AHeap) (b : Nat) : Prop := ∃ i o N, (i, o) ∈ H ∧ C.m i = some (b, N)

structure WR (C : Ctx) (H : AHeap) (w : World) : Prop where
  hp : ∀ b o, C.hp b = some o → w.heap[b]? = some o
  nd : (H.map Prod.fst).Nodup
  ids : ∀ i o, (i, o) ∈ H → i ∈ C.U ∧ OR C i w o
  inj : ∀ i j o o' b N N', (i, o) ∈ H → (j, o') ∈ H → C.m i = some (b, N) → C.m j = some (b, N') → i = j
  dis : ∀ b, blk C H b → C.hp b = none

theorem OR.lt {C : Ctx} {id : Nat} {w : World} {o : AObj} (h : OR C id w o) {b N : Nat} (hm : C.m id = some (b, N)) : b < w.heap.size := by
  cases o with
  | rows el sz es =>
    rcases h.2 with ⟨hn, _⟩ | ⟨b', N', cells, hm', hh, _⟩
    · rw [hm] at hn; cases hn
    · rw [hm] at hm'; cases hm'; exact (Array.getElem?_eq_some_iff.1 hh).1
  | mp es =>
    obtain ⟨b', N', ents, clock, hm', hh, _⟩ := h
    rw [hm] at hm'; cases hm'; exact (Array.getElem?_eq_some_iff.1 hh).1
  | raw o =>
    obtain ⟨b', N', hm', hh⟩ := h
    rw [hm] at hm'; cases hm'; exact (Array.getElem?_eq_some_iff.1 hh).1
  | loop T n ps assign body st pend =>
    obtain ⟨b', N', r, hm', hh, _⟩ := h
    rw [hm] at hm'; cases hm'; exact (Array.getElem?_eq_some_iff.1 hh).1

theorem WR.lt {C : Ctx} {H : AHeap} {w : World} (h : WR C H w) {b : Nat} (hb : blk C H b) : b < w.heap.size := by
  obtain ⟨i, o, N, hi, hm⟩ := hb
  exact (h.ids i o hi).2.lt hm

/-- An owned thing stays what it is where its block does, and the names mean more. -/
theorem OR.keep {C C' : Ctx} {id : Nat} {w w' : World} {o : AObj} (h : OR C id w o) (hle : C.Le C') (hu : id ∈ C.U)
    (hk : ∀ b N, C.m id = some (b, N) → w'.heap[b]? = w.heap[b]?) : OR C' id w' o := by
  have hm := hle.m id hu
  cases o with
  | rows el sz es =>
    refine ⟨h.1, ?_⟩
    rcases h.2 with ⟨hn, he⟩ | ⟨b, N, cells, hb, hh, hs, hl, hc⟩
    · exact .inl ⟨hm.trans hn, he⟩
    · exact .inr ⟨b, N, cells, hm.trans hb, (hk b N hb).trans hh, hs, hl, fun i e j c h1 h2 => let ⟨x, h3, h4, h5⟩ := hc i e j c h1 h2; ⟨x, h3, h4.mono hle, h5⟩⟩
  | mp es =>
    obtain ⟨b, N, ents, clock, hb, hh, hs, h1, h2, h3⟩ := h
    exact ⟨b, N, ents, clock, hm.trans hb, (hk b N hb).trans hh, hs, h1, h2, fun i k x hi => let ⟨e, a, b, c⟩ := h3 i k x hi; ⟨e, a, b, c.mono hle⟩⟩
  | raw o =>
    obtain ⟨b, N, hb, hh⟩ := h
    exact ⟨b, N, hm.trans hb, (hk b N hb).trans hh⟩
  | loop T n ps assign body st pend =>
    obtain ⟨b, N, r, hb, hh, h1, h2, h3, h4, h5, h6, h7⟩ := h
    exact ⟨b, N, r, hm.trans hb, (hk b N hb).trans hh, h1, h2, h3, h4, h5, h6, fun t x ht => let ⟨v, a, b⟩ := h7 t x ht; ⟨v, a, b.mono hle⟩⟩

structure Ext (Z : List Nat) (C : Ctx) (H : AHeap) (w : World) (C' : Ctx) (H' : AHeap) (w' : World) : Prop where
  le : C.Le C'
  av : ∀ z, z ∈ Z → z ∉ C.U → z ∉ C'.U
  os : w'.os = w.os
  tape : w'.tape = w.tape
  output : w'.output = w.output
  size : w.heap.size ≤ w'.heap.size
  fr : ∀ b, b < w.heap.size → ¬ blk C H b → w'.heap[b]? = w.heap[b]?
  nhp : ∀ b o, C'.hp b = some o → (∃ o', C.hp b = some o') ∨ w.heap.size ≤ b ∨ blk C H b
  nbl : ∀ b, blk C' H' b → blk C H b ∨ w.heap.size ≤ b
  nid : ∀ i o, (i, o) ∈ H' → (∃ o', (i, o') ∈ H) ∨ i ∉ C.U

theorem Ext.refl (Z : List Nat) (C : Ctx) (H : AHeap) (w : World) : Ext Z C H w C H w :=
  ⟨.refl C, fun _ _ h => h, rfl, rfl, rfl, Nat.le_refl _, fun _ _ _ => rfl, fun _ o h => .inl ⟨o, h⟩, fun _ h => .inl h, fun _ o h => .inl ⟨o, h⟩⟩

theorem Ext.trans {Z : List Nat} {C C' C'' : Ctx} {H H' H'' : AHeap} {w w' w'' : World} (h : Ext Z C H w C' H' w') (k : Ext Z C' H' w' C'' H'' w'') : Ext Z C H w C'' H'' w'' where
  le := h.le.trans k.le
  av := fun z hz hn => k.av z hz (h.av z hz hn)
  os := k.os.trans h.os
  tape := k.tape.trans h.tape
  output := k.output.trans h.output
  size := Nat.le_trans h.size k.size
  fr := fun b hb hn => (k.fr b (Nat.lt_of_lt_of_le hb h.size) (fun hk => (h.nbl b hk).elim hn (fun hle => Nat.not_lt.2 hle hb))).trans (h.fr b hb hn)
  nhp := fun b o hb => by
    rcases k.nhp b o hb with ⟨o', h1⟩ | h1 | h1
    · exact h.nhp b o' h1
    · exact .inr (.inl (Nat.le_trans h.size h1))
    · rcases h.nbl b h1 with h2 | h2
      · exact .inr (.inr h2)
      · exact .inr (.inl h2)
  nbl := fun b hb => by
    rcases k.nbl b hb with h1 | h1
    · exact h.nbl b h1
    · exact .inr (Nat.le_trans h.size h1)
  nid := fun i o hi => by
    rcases k.nid i o hi with ⟨o', h1⟩ | h1
    · exact h.nid i o' h1
    · exact .inr (fun hu => h1 (h.le.U i hu))

/-- What is owned beside, and no part of the step, stays. -/
theorem Ext.frame {Z : List Nat} {C C' : Ctx} {H H' Fr : AHeap} {w w' : World} (hw : WR C (H ++ Fr) w) (hw' : WR C' H' w') (h : Ext Z C H w C' H' w') :
    WR C' (H' ++ Fr) w' ∧ Ext Z C (H ++ Fr) w C' (H' ++ Fr) w' := by
  have hfu : ∀ i o, (i, o) ∈ Fr → i ∈ C.U := fun i o hi => (hw.ids i o (List.mem_append_right _ hi)).1
  have hdisj : ∀ i o o', (i, o) ∈ H → (i, o') ∈ Fr → False := by
    intro i o o' h1 h2
    have := hw.nd
    rw [List.map_append, List.nodup_append] at this
    exact this.2.2 i (List.mem_map.2 ⟨(i, o), h1, rfl⟩) i (List.mem_map.2 ⟨(i, o'), h2, rfl⟩) rfl
  have hnot : ∀ i o b N, (i, o) ∈ Fr → C.m i = some (b, N) → ¬ blk C H b := by
    rintro i o b N hi hm ⟨j, o', N', hj, hm'⟩
    have := hw.inj i j o o' b N N' (List.mem_append_right _ hi) (List.mem_append_left _ hj) hm hm'
    subst this
    exact hdisj i o' o hj hi
  have hlt : ∀ i o b N, (i, o) ∈ Fr → C.m i = some (b, N) → b < w.heap.size := fun i o b N hi hm => (hw.ids i o (List.mem_append_right _ hi)).2.lt hm
  have hblk : ∀ i o b N, (i, o) ∈ Fr → C'.m i = some (b, N) → ¬ blk C' H' b := by
    intro i o b N hi hm hb
    rw [h.le.m i (hfu i o hi)] at hm
    rcases h.nbl b hb with h1 | h1
    · exact hnot i o b N hi hm h1
    · exact Nat.not_lt.2 h1 (hlt i o b N hi hm)
  refine ⟨⟨hw'.hp, ?_, ?_, ?_, ?_⟩, ⟨h.le, h.av, h.os, h.tape, h.output, h.size, ?_, ?_, ?_, ?_⟩⟩
  · rw [List.map_append, List.nodup_append]
    have hnd := hw.nd
    rw [List.map_append, List.nodup_append] at hnd
    refine ⟨hw'.nd, hnd.2.1, ?_⟩
    rintro i hi j hj rfl
    obtain ⟨⟨i, o⟩, h1, rfl⟩ := List.mem_map.1 hi
    obtain ⟨⟨i', o'⟩, h2, he⟩ := List.mem_map.1 hj
    simp only at he
    subst he
    rcases h.nid _ o h1 with ⟨o'', h3⟩ | h3
    · exact hdisj _ o'' o' h3 h2
    · exact h3 (hfu _ o' h2)
  · intro i o hi
    rcases List.mem_append.1 hi with hi | hi
    · exact hw'.ids i o hi
    · have h0 := hw.ids i o (List.mem_append_right _ hi)
      exact ⟨h.le.U i h0.1, h0.2.keep h.le h0.1 (fun b N hm => h.fr b (hlt i o b N hi hm) (hnot i o b N hi hm))⟩
  · intro i j o o' b N N' hi hj hm hm'
    rcases List.mem_append.1 hi with hi | hi <;> rcases List.mem_append.1 hj with hj | hj
    · exact hw'.inj i j o o' b N N' hi hj hm hm'
    · exact (hblk j o' b N' hj hm' ⟨i, o, N, hi, hm⟩).elim
    · exact (hblk i o b N hi hm ⟨j, o', N', hj, hm'⟩).elim
    · rw [h.le.m i (hfu i o hi)] at hm
      rw [h.le.m j (hfu j o' hj)] at hm'
      exact hw.inj i j o o' b N N' (List.mem_append_right _ hi) (List.mem_append_right _ hj) hm hm'
  · rintro b ⟨i, o, N, hi, hm⟩
    rcases List.mem_append.1 hi with hi | hi
    · exact hw'.dis b ⟨i, o, N, hi, hm⟩
    · rw [h.le.m i (hfu i o hi)] at hm
      cases hb : C'.hp b with
      | none => rfl
      | some o' =>
        rcases h.nhp b o' hb with ⟨o'', h1⟩ | h1 | h1
        · rw [hw.dis b ⟨i, o, N, List.mem_append_right _ hi, hm⟩] at h1; cases h1
        · exact (Nat.not_lt.2 h1 (hlt i o b N hi hm)).elim
        · exact (hnot i o b N hi hm h1).elim
  · intro b hb hn
    exact h.fr b hb (fun ⟨i, o, N, hi, hm⟩ => hn ⟨i, o, N, List.mem_append_left _ hi, hm⟩)
  · intro b o hb
    rcases h.nhp b o hb with h1 | h1 | ⟨i, o', N, hi, hm⟩
    · exact .inl h1
    · exact .inr (.inl h1)
    · exact .inr (.inr ⟨i, o', N, List.mem_append_left _ hi, hm⟩)
  · rintro b ⟨i, o, N, hi, hm⟩
    rcases List.mem_append.1 hi with hi | hi
    · rcases h.nbl b ⟨i, o, N, hi, hm⟩ with ⟨j, o', N', hj, hm'⟩ | h1
      · exact .inl ⟨j, o', N', List.mem_append_left _ hj, hm'⟩
      · exact .inr h1
    · rw [h.le.m i (hfu i o hi)] at hm
      exact .inl ⟨i, o, N, List.mem_append_right _ hi, hm⟩
  · intro i o hi
    rcases List.mem_append.1 hi with hi | hi
    · rcases h.nid i o hi with ⟨o', h1⟩ | h1
      · exact .inl ⟨o', List.mem_append_left _ h1⟩
      · exact .inr h1
    · exact .inl ⟨o, List.mem_append_right _ hi⟩

theorem WR.left {C : Ctx} {H Fr : AHeap} {w : World} (hw : WR C (H ++ Fr) w) : WR C H w where
  hp := hw.hp
  nd := by have := hw.nd; rw [List.map_append, List.nodup_append] at this; exact this.1
  ids := fun i o hi => hw.ids i o (List.mem_append_left _ hi)
  inj := fun i j o o' b N N' hi hj => hw.inj i j o o' b N N' (List.mem_append_left _ hi) (List.mem_append_left _ hj)
  dis := fun b ⟨i, o, N, hi, hm⟩ => hw.dis b ⟨i, o, N, List.mem_append_left _ hi, hm⟩

theorem WR.perm {C : Ctx} {H H' : AHeap} {w : World} (hw : WR C H w) (hp : H.Perm H') : WR C H' w where
  hp := hw.hp
  nd := (hp.map Prod.fst).nodup_iff.1 hw.nd
  ids := fun i o hi => hw.ids i o (hp.mem_iff.2 hi)
  inj := fun i j o o' b N N' hi hj => hw.inj i j o o' b N N' (hp.mem_iff.2 hi) (hp.mem_iff.2 hj)
  dis := fun b ⟨i, o, N, hi, hm⟩ => hw.dis b ⟨i, o, N, hp.mem_iff.2 hi, hm⟩

theorem Ext.permR {Z : List Nat} {C C' : Ctx} {H H' K' : AHeap} {w w' : World} (h : Ext Z C H w C' H' w') (hp : H'.Perm K') : Ext Z C H w C' K' w' :=
  ⟨h.le, h.av, h.os, h.tape, h.output, h.size, h.fr, h.nhp, fun b ⟨i, o, N, hi, hm⟩ => h.nbl b ⟨i, o, N, hp.mem_iff.2 hi, hm⟩, fun i o hi => h.nid i o (hp.mem_iff.2 hi)⟩
theorem Ext.permL {Z : List Nat} {C C' : Ctx} {H H' K : AHeap} {w w' : World} (h : Ext Z C H w C' H' w') (hp : H.Perm K) : Ext Z C K w C' H' w' := by
  have e : ∀ b, blk C H b ↔ blk C K b := fun b => ⟨fun ⟨i, o, N, hi, hm⟩ => ⟨i, o, N, hp.mem_iff.1 hi, hm⟩, fun ⟨i, o, N, hi, hm⟩ => ⟨i, o, N, hp.mem_iff.2 hi, hm⟩⟩
  exact ⟨h.le, h.av, h.os, h.tape, h.output, h.size, fun b hb hn => h.fr b hb (fun x => hn ((e b).1 x)), fun b o hb => (h.nhp b o hb).imp id (fun x => x.imp id (e b).1),
    fun b hb => (h.nbl b hb).imp (e b).1 id, fun i o hi => (h.nid i o hi).imp (fun ⟨o', x⟩ => ⟨o', hp.mem_iff.1 x⟩) id⟩

theorem WR.sub {C : Ctx} {H H' : AHeap} {w : World} (hw : WR C H w) (hs : ∀ p, p ∈ H' → p ∈ H) (hn : (H'.map Prod.fst).Nodup) : WR C H' w :=
  ⟨hw.hp, hn, fun i o hi => hw.ids i o (hs _ hi), fun i j o o' b N N' hi hj => hw.inj i j o o' b N N' (hs _ hi) (hs _ hj), fun b ⟨i, o, N, hi, hm⟩ => hw.dis b ⟨i, o, N, hs _ hi, hm⟩⟩

theorem Ext.sub {Z : List Nat} {C : Ctx} {H H' : AHeap} {w : World} (hs : ∀ p, p ∈ H' → p ∈ H) : Ext Z C H w C H' w :=
  ⟨.refl C, fun _ _ h => h, rfl, rfl, rfl, Nat.le_refl _, fun _ _ _ => rfl, fun _ o h => .inl ⟨o, h⟩, fun b ⟨i, o, N, hi, hm⟩ => .inl ⟨i, o, N, hs _ hi, hm⟩, fun i o h => .inl ⟨o, hs _ h⟩⟩

end Go.Sx
