/- YtmnbbhcdjgofeaaGreatRaB0: texts of this claim, one behind the other. -/
import Derived.RangeFuncRecord
import Derived.RangeFuncLeaves
import Derived.Below
import Derived.KernelRfl
import Derived.OrdersIn
import Derived.WalkKit
import Derived.Laws.StructEq
import Derived.RangeFuncIn
import Derived.SizedLaws
import Derived.DataReads
import Derived.ProofKit
import Derived.OpenShut
import Derived.Carry
import Derived.Test.YtmnbbhcdjgofeaaGreatRows
set_option linter.unusedVariables false
set_option linter.unusedSimpArgs false
set_option linter.unusedSectionVars false
set_option linter.unnecessarySimpa false
namespace Go.Sx
open Go
inductive AV where
 | v (x : Value)
 | agg (cs : List AV)
 | tup (cs : List AV)
 | lst (es : List (List AV))
 | own (id sz off len : Nat)
 | ptr (id sz i c : Nat)
 | elt (es : List (List AV)) (i c : Nat)
 | fn (f : Fn) (cap : List AV)
 | map (id : Nat)
 | ifc (t : TypeId) (x : AV)
 | yld (id : Nat)
 deriving Inhabited
def lk : List (Nat × AV) → Nat → Option AV
 | [], _ => none
 | (k, x) :: r, t => bif Nat.beq k t then some x else lk r t
inductive AObj where
 | rows (e sz : Nat) (es : List (List AV))
 | mp (es : List (Value × AV))
 | raw (o : Obj)
 | dfr (f : Fn) (cs xs : List AV)
 | loop (T : List (Nat × AV)) (n : Nat) (ps : Array Tmp) (assign body : Code) (st : LoopState) (pend : Option Code)
abbrev AHeap := List (Nat × AObj)
structure Ctx where
 hp : Nat → Option Obj
 m : Nat → Option (Nat × Nat)
 U : List Nat
 df : Nat → Option Deferred := fun _ => none
structure Ctx.Le (C C' : Ctx) : Prop where
 hp : ∀ b o, C.hp b = some o → C'.hp b = some o
 m : ∀ i, i ∈ C.U → C'.m i = C.m i
 U : ∀ i, i ∈ C.U → i ∈ C'.U
 df : ∀ i, i ∈ C.U → C'.df i = C.df i
theorem Ctx.Le.refl (C : Ctx) : C.Le C := ⟨fun _ _ h => h, fun _ _ => rfl, fun _ h => h, fun _ _ => rfl⟩
theorem Ctx.Le.trans {A B C : Ctx} (h : A.Le B) (k : B.Le C) : A.Le C :=
 ⟨fun b o x => k.hp b o (h.hp b o x), fun i x => (k.m i (h.U i x)).trans (h.m i x), fun i x => k.U i (h.U i x), fun i x => (k.df i (h.U i x)).trans (h.df i x)⟩
inductive VR (C : Ctx) : AV → Value → Prop
 | v (x : Value) : VR C (.v x) x
 | agg (cs : List AV) (vs : Array Value) (hl : cs.length = vs.size)
   (h : ∀ (i : Nat) (c : AV) (x : Value), cs[i]? = some c → vs[i]? = some x → VR C c x) : VR C (.agg cs) (.agg vs)
 | tup (cs : List AV) (vs : Array Value) (hl : cs.length = vs.size)
   (h : ∀ (i : Nat) (c : AV) (x : Value), cs[i]? = some c → vs[i]? = some x → VR C c x) : VR C (.tup cs) (.tuple vs)
 | lstNil : VR C (.lst []) (.slice none 0 0)
 | lst (es : List (List AV)) (a : Addr) (sz cap : Nat) (cells : Array Value) (elem : TypeId) (fz : Nat × Nat) (xs : Nat → Nat → Value)
   (hs : es ≠ [] → a.spot = none) (hb : es ≠ [] → C.hp a.block = some (.cells cells elem fz))
   (hz : ∀ e : List AV, e ∈ es → e.length = sz)
   (hc : ∀ (i : Nat) (e : List AV) (j : Nat) (c : AV), es[i]? = some e → e[j]? = some c → cells[a.off + i * sz + j]? = some (xs i j))
   (hv : ∀ (i : Nat) (e : List AV) (j : Nat) (c : AV), es[i]? = some e → e[j]? = some c → VR C c (xs i j))
   (ho : ∀ (i : Nat) (e : List AV) (j : Nat) (c : AV), es[i]? = some e → e[j]? = some c → (xs i j).oneCell' = true)
   (hcap : es.length ≤ cap) : VR C (.lst es) (.slice (some a) es.length cap)
 | own (id sz off len b N cap : Nat) (hid : C.m id = some (b, N)) (hu : id ∈ C.U) (hcap : (off + cap) * sz = N) (hlen : len ≤ cap) (hml : cap ≤ maxLen) :
   VR C (.own id sz off len) (.slice (some ⟨b, off * sz, none⟩) len cap)
 | ownNil (id sz : Nat) (hid : C.m id = none) (hu : id ∈ C.U) : VR C (.own id sz 0 0) (.slice none 0 0)
 | ptr (id sz i c b N : Nat) (hid : C.m id = some (b, N)) (hu : id ∈ C.U) : VR C (.ptr id sz i c) (.pointer (some ⟨b, i * sz + c, none⟩))
 | elt (es : List (List AV)) (i c : Nat) (a : Addr) (sz cap n : Nat) (h : VR C (.lst es) (.slice (some a) n cap)) (hz : ∀ e : List AV, e ∈ es → e.length = sz) (hi : i < es.length) :
   VR C (.elt es i c) (.pointer (some ⟨a.block, a.off + i * sz + c, none⟩))
 | fn (f : Fn) (cap : List AV) (vs : Array Value) (hl : cap.length = vs.size)
   (h : ∀ (i : Nat) (c : AV) (x : Value), cap[i]? = some c → vs[i]? = some x → VR C c x) : VR C (.fn f cap) (.func f #[] vs)
 | map (id b N : Nat) (hid : C.m id = some (b, N)) (hu : id ∈ C.U) : VR C (.map id) (.map (some b))
 | ifc (t : TypeId) (x : AV) (v : Value) (h : VR C x v) : VR C (.ifc t x) (.iface t v)
 | yld (id l N : Nat) (hid : C.m id = some (l, N)) (hu : id ∈ C.U) : VR C (.yld id) (.func (.yield l) #[] #[])
theorem VR.mono {C C' : Ctx} (h : C.Le C') {x : AV} {v : Value} (hx : VR C x v) : VR C' x v := by
 induction hx with
 | v x => exact .v x
 | agg cs vs hl _ ih => exact .agg cs vs hl ih
 | tup cs vs hl _ ih => exact .tup cs vs hl ih
 | lstNil => exact .lstNil
 | lst es a sz cap cells elem fz xs hs hb hz hc _ ho hcap ih => exact .lst es a sz cap cells elem fz xs hs (fun e => h.hp _ _ (hb e)) hz hc ih ho hcap
 | own id sz off len b N cap hid hu hcap hlen hml => exact .own id sz off len b N cap ((h.m id hu).trans hid) (h.U id hu) hcap hlen hml
 | ownNil id sz hid hu => exact .ownNil id sz ((h.m id hu).trans hid) (h.U id hu)
 | ptr id sz i c b N hid hu => exact .ptr id sz i c b N ((h.m id hu).trans hid) (h.U id hu)
 | elt es i c a sz cap n _ hz hi ih => exact .elt es i c a sz cap n ih hz hi
 | fn f cap vs hl _ ih => exact .fn f cap vs hl ih
 | map id b N hid hu => exact .map id b N ((h.m id hu).trans hid) (h.U id hu)
 | ifc t x v _ ih => exact .ifc t x v ih
 | yld id l N hid hu => exact .yld id l N ((h.m id hu).trans hid) (h.U id hu)
def OR (C : Ctx) (id : Nat) (w : World) : AObj → Prop
 | .rows el sz es => (∀ e : List AV, e ∈ es → e.length = sz) ∧
   ((C.m id = none ∧ es = []) ∨ ∃ b N cells, C.m id = some (b, N) ∧ w.heap[b]? = some (.cells cells el (0, 0)) ∧ cells.size = N ∧ es.length * sz ≤ N ∧
    ∀ (i : Nat) (e : List AV) (j : Nat) (c : AV), es[i]? = some e → e[j]? = some c → ∃ x, cells[i * sz + j]? = some x ∧ VR C c x ∧ x.oneCell' = true)
 | .mp es => ∃ b N ents clock, C.m id = some (b, N) ∧ w.heap[b]? = some (.map ents clock) ∧ ents.size = es.length ∧
    (∀ (i : Nat) (e : MapEntry), ents[i]? = some e → e.born < clock) ∧
    (∀ (i j : Nat) (e e' : MapEntry), ents[i]? = some e → ents[j]? = some e' → e.born = e'.born → i = j) ∧
    ∀ (i : Nat) (k : Value) (x : AV), es[i]? = some (k, x) → ∃ e : MapEntry, ents[i]? = some e ∧ e.key = k ∧ VR C x e.val
 | .raw o => ∃ b N, C.m id = some (b, N) ∧ w.heap[b]? = some o
 | .dfr f cs xs => C.m id = none ∧ ∃ d cv, C.df id = some d ∧ d.target = .fn f cv ∧ (cs.length = cv.size ∧ ∀ (i : Nat) (x : AV) (v : Value), cs[i]? = some x → cv[i]? = some v → VR C x v) ∧
   xs.length = d.args.size ∧ ∀ (i : Nat) (x : AV) (v : Value), xs[i]? = some x → d.args[i]? = some v → VR C x v
 | .loop T n ps assign body st pend => ∃ b N r, C.m id = some (b, N) ∧ w.heap[b]? = some (.loop r) ∧ r.state = st ∧ r.pending = pend ∧ r.params = ps ∧ r.assign = assign ∧ r.body = body ∧ r.tmps.size = n ∧
    ∀ (t : Nat) (x : AV), lk T t = some x → ∃ v, r.tmps[t]? = some v ∧ VR C x v
def blk (C : Ctx) (H : AHeap) (b : Nat) : Prop := ∃ i o N, (i, o) ∈ H ∧ C.m i = some (b, N)
structure WR (C : Ctx) (H : AHeap) (w : World) : Prop where
 hp : ∀ b o, C.hp b = some o → w.heap[b]? = some o
 nd : (H.map Prod.fst).Nodup
 ids : ∀ i o, (i, o) ∈ H → i ∈ C.U ∧ OR C i w o
 inj : ∀ i j o o' b N N', (i, o) ∈ H → (j, o') ∈ H → C.m i = some (b, N) → C.m j = some (b, N') → i = j
 dis : ∀ b, blk C H b → C.hp b = none
theorem OR.lt {C : Ctx} {id : Nat} {w : World} {o : AObj} (h : OR C id w o) {b N : Nat} (hm : C.m id = some (b, N)) : b < w.heap.size := by
 cases o with
 | rows el sz es =>
  rcases h.2 with ⟨hn, _⟩ | ⟨b', N', cells, hm', hh, _⟩
  ·rw [hm] at hn; cases hn
  ·rw [hm] at hm'; cases hm'; exact (Array.getElem?_eq_some_iff.1 hh).1
 | mp es =>
  obtain ⟨b', N', ents, clock, hm', hh, _⟩ := h
  rw [hm] at hm'; cases hm'; exact (Array.getElem?_eq_some_iff.1 hh).1
 | raw o =>
  obtain ⟨b', N', hm', hh⟩ := h
  rw [hm] at hm'; cases hm'; exact (Array.getElem?_eq_some_iff.1 hh).1
 | dfr f cs xs => have := h.1; rw [hm] at this; cases this
 | loop T n ps assign body st pend =>
  obtain ⟨b', N', r, hm', hh, _⟩ := h
  rw [hm] at hm'; cases hm'; exact (Array.getElem?_eq_some_iff.1 hh).1
theorem WR.lt {C : Ctx} {H : AHeap} {w : World} (h : WR C H w) {b : Nat} (hb : blk C H b) : b < w.heap.size := by
 obtain ⟨i, o, N, hi, hm⟩ := hb
 exact (h.ids i o hi).2.lt hm
theorem OR.keep {C C' : Ctx} {id : Nat} {w w' : World} {o : AObj} (h : OR C id w o) (hle : C.Le C') (hu : id ∈ C.U)
  (hk : ∀ b N, C.m id = some (b, N) → w'.heap[b]? = w.heap[b]?) : OR C' id w' o := by
 have hm := hle.m id hu
 cases o with
 | rows el sz es =>
  refine ⟨h.1, ?_⟩
  rcases h.2 with ⟨hn, he⟩ | ⟨b, N, cells, hb, hh, hs, hl, hc⟩
  ·exact .inl ⟨hm.trans hn, he⟩
  ·exact .inr ⟨b, N, cells, hm.trans hb, (hk b N hb).trans hh, hs, hl, fun i e j c h1 h2 => let ⟨x, h3, h4, h5⟩ := hc i e j c h1 h2; ⟨x, h3, h4.mono hle, h5⟩⟩
 | mp es =>
  obtain ⟨b, N, ents, clock, hb, hh, hs, h1, h2, h3⟩ := h
  exact ⟨b, N, ents, clock, hm.trans hb, (hk b N hb).trans hh, hs, h1, h2, fun i k x hi => let ⟨e, a, b, c⟩ := h3 i k x hi; ⟨e, a, b, c.mono hle⟩⟩
 | raw o =>
  obtain ⟨b, N, hb, hh⟩ := h
  exact ⟨b, N, hm.trans hb, (hk b N hb).trans hh⟩
 | dfr f cs xs =>
  obtain ⟨h0, d, cv, h1, h2, ⟨h3, h4⟩, h5, h6⟩ := h
  exact ⟨hm.trans h0, d, cv, (hle.df id hu).trans h1, h2, ⟨h3, fun i x v a b => (h4 i x v a b).mono hle⟩, h5, fun i x v a b => (h6 i x v a b).mono hle⟩
 | loop T n ps assign body st pend =>
  obtain ⟨b, N, r, hb, hh, h1, h2, h3, h4, h5, h6, h7⟩ := h
  exact ⟨b, N, r, hm.trans hb, (hk b N hb).trans hh, h1, h2, h3, h4, h5, h6, fun t x ht => let ⟨v, a, b⟩ := h7 t x ht; ⟨v, a, b.mono hle⟩⟩
structure Ext (Z : List Nat) (C : Ctx) (H : AHeap) (w : World) (C' : Ctx) (H' : AHeap) (w' : World) : Prop where
 le : C.Le C'
 av : ∀ z, z ∈ Z → z ∉ C.U → z ∉ C'.U
 os : w'.os = w.os
 tape : w'.tape = w.tape
 output : w'.output = w.output
 size : w.heap.size ≤ w'.heap.size
 fr : ∀ b, b < w.heap.size → ¬ blk C H b → w'.heap[b]? = w.heap[b]?
 nhp : ∀ b o, C'.hp b = some o → (∃ o', C.hp b = some o') ∨ w.heap.size ≤ b ∨ blk C H b
 nbl : ∀ b, blk C' H' b → blk C H b ∨ w.heap.size ≤ b
 nid : ∀ i o, (i, o) ∈ H' → (∃ o', (i, o') ∈ H) ∨ i ∉ C.U
theorem Ext.refl (Z : List Nat) (C : Ctx) (H : AHeap) (w : World) : Ext Z C H w C H w :=
 ⟨.refl C, fun _ _ h => h, rfl, rfl, rfl, Nat.le_refl _, fun _ _ _ => rfl, fun _ o h => .inl ⟨o, h⟩, fun _ h => .inl h, fun _ o h => .inl ⟨o, h⟩⟩
theorem Ext.trans {Z : List Nat} {C C' C'' : Ctx} {H H' H'' : AHeap} {w w' w'' : World} (h : Ext Z C H w C' H' w') (k : Ext Z C' H' w' C'' H'' w'') : Ext Z C H w C'' H'' w'' where
 le := h.le.trans k.le
 av := fun z hz hn => k.av z hz (h.av z hz hn)
 os := k.os.trans h.os
 tape := k.tape.trans h.tape
 output := k.output.trans h.output
 size := Nat.le_trans h.size k.size
 fr := fun b hb hn => (k.fr b (Nat.lt_of_lt_of_le hb h.size) (fun hk => (h.nbl b hk).elim hn (fun hle => Nat.not_lt.2 hle hb))).trans (h.fr b hb hn)
 nhp := fun b o hb => by
  rcases k.nhp b o hb with ⟨o', h1⟩ | h1 | h1
  ·exact h.nhp b o' h1
  ·exact .inr (.inl (Nat.le_trans h.size h1))
  ·rcases h.nbl b h1 with h2 | h2
   ·exact .inr (.inr h2)
   ·exact .inr (.inl h2)
 nbl := fun b hb => by
  rcases k.nbl b hb with h1 | h1
  ·exact h.nbl b h1
  ·exact .inr (Nat.le_trans h.size h1)
 nid := fun i o hi => by
  rcases k.nid i o hi with ⟨o', h1⟩ | h1
  ·exact h.nid i o' h1
  ·exact .inr (fun hu => h1 (h.le.U i hu))
theorem Ext.frame {Z : List Nat} {C C' : Ctx} {H H' Fr : AHeap} {w w' : World} (hw : WR C (H ++ Fr) w) (hw' : WR C' H' w') (h : Ext Z C H w C' H' w') :
  WR C' (H' ++ Fr) w' ∧ Ext Z C (H ++ Fr) w C' (H' ++ Fr) w' := by
 have hfu : ∀ i o, (i, o) ∈ Fr → i ∈ C.U := fun i o hi => (hw.ids i o (List.mem_append_right _ hi)).1
 have hdisj : ∀ i o o', (i, o) ∈ H → (i, o') ∈ Fr → False := by
  intro i o o' h1 h2
  have := hw.nd
  rw [List.map_append, List.nodup_append] at this
  exact this.2.2 i (List.mem_map.2 ⟨(i, o), h1, rfl⟩) i (List.mem_map.2 ⟨(i, o'), h2, rfl⟩) rfl
 have hnot : ∀ i o b N, (i, o) ∈ Fr → C.m i = some (b, N) → ¬ blk C H b := by
  rintro i o b N hi hm ⟨j, o', N', hj, hm'⟩
  have := hw.inj i j o o' b N N' (List.mem_append_right _ hi) (List.mem_append_left _ hj) hm hm'
  subst this
  exact hdisj i o' o hj hi
 have hlt : ∀ i o b N, (i, o) ∈ Fr → C.m i = some (b, N) → b < w.heap.size := fun i o b N hi hm => (hw.ids i o (List.mem_append_right _ hi)).2.lt hm
 have hblk : ∀ i o b N, (i, o) ∈ Fr → C'.m i = some (b, N) → ¬ blk C' H' b := by
  intro i o b N hi hm hb
  rw [h.le.m i (hfu i o hi)] at hm
  rcases h.nbl b hb with h1 | h1
  ·exact hnot i o b N hi hm h1
  ·exact Nat.not_lt.2 h1 (hlt i o b N hi hm)
 refine ⟨⟨hw'.hp, ?_, ?_, ?_, ?_⟩, ⟨h.le, h.av, h.os, h.tape, h.output, h.size, ?_, ?_, ?_, ?_⟩⟩
 ·rw [List.map_append, List.nodup_append]
  have hnd := hw.nd
  rw [List.map_append, List.nodup_append] at hnd
  refine ⟨hw'.nd, hnd.2.1, ?_⟩
  rintro i hi j hj rfl
  obtain ⟨⟨i, o⟩, h1, rfl⟩ := List.mem_map.1 hi
  obtain ⟨⟨i', o'⟩, h2, he⟩ := List.mem_map.1 hj
  simp only at he
  subst he
  rcases h.nid _ o h1 with ⟨o'', h3⟩ | h3
  ·exact hdisj _ o'' o' h3 h2
  ·exact h3 (hfu _ o' h2)
 ·intro i o hi
  rcases List.mem_append.1 hi with hi | hi
  ·exact hw'.ids i o hi
  ·have h0 := hw.ids i o (List.mem_append_right _ hi)
   exact ⟨h.le.U i h0.1, h0.2.keep h.le h0.1 (fun b N hm => h.fr b (hlt i o b N hi hm) (hnot i o b N hi hm))⟩
 ·intro i j o o' b N N' hi hj hm hm'
  rcases List.mem_append.1 hi with hi | hi <;> rcases List.mem_append.1 hj with hj | hj
  ·exact hw'.inj i j o o' b N N' hi hj hm hm'
  ·exact (hblk j o' b N' hj hm' ⟨i, o, N, hi, hm⟩).elim
  ·exact (hblk i o b N hi hm ⟨j, o', N', hj, hm'⟩).elim
  ·rw [h.le.m i (hfu i o hi)] at hm
   rw [h.le.m j (hfu j o' hj)] at hm'
   exact hw.inj i j o o' b N N' (List.mem_append_right _ hi) (List.mem_append_right _ hj) hm hm'
 ·rintro b ⟨i, o, N, hi, hm⟩
  rcases List.mem_append.1 hi with hi | hi
  ·exact hw'.dis b ⟨i, o, N, hi, hm⟩
  ·rw [h.le.m i (hfu i o hi)] at hm
   cases hb : C'.hp b with
   | none => rfl
   | some o' =>
    rcases h.nhp b o' hb with ⟨o'', h1⟩ | h1 | h1
    ·rw [hw.dis b ⟨i, o, N, List.mem_append_right _ hi, hm⟩] at h1; cases h1
    ·exact (Nat.not_lt.2 h1 (hlt i o b N hi hm)).elim
    ·exact (hnot i o b N hi hm h1).elim
 ·intro b hb hn
  exact h.fr b hb (fun ⟨i, o, N, hi, hm⟩ => hn ⟨i, o, N, List.mem_append_left _ hi, hm⟩)
 ·intro b o hb
  rcases h.nhp b o hb with h1 | h1 | ⟨i, o', N, hi, hm⟩
  ·exact .inl h1
  ·exact .inr (.inl h1)
  ·exact .inr (.inr ⟨i, o', N, List.mem_append_left _ hi, hm⟩)
 ·rintro b ⟨i, o, N, hi, hm⟩
  rcases List.mem_append.1 hi with hi | hi
  ·rcases h.nbl b ⟨i, o, N, hi, hm⟩ with ⟨j, o', N', hj, hm'⟩ | h1
   ·exact .inl ⟨j, o', N', List.mem_append_left _ hj, hm'⟩
   ·exact .inr h1
  ·rw [h.le.m i (hfu i o hi)] at hm
   exact .inl ⟨i, o, N, List.mem_append_right _ hi, hm⟩
 ·intro i o hi
  rcases List.mem_append.1 hi with hi | hi
  ·rcases h.nid i o hi with ⟨o', h1⟩ | h1
   ·exact .inl ⟨o', List.mem_append_left _ h1⟩
   ·exact .inr h1
  ·exact .inl ⟨o, List.mem_append_right _ hi⟩
theorem WR.left {C : Ctx} {H Fr : AHeap} {w : World} (hw : WR C (H ++ Fr) w) : WR C H w where
 hp := hw.hp
 nd := by have := hw.nd; rw [List.map_append, List.nodup_append] at this; exact this.1
 ids := fun i o hi => hw.ids i o (List.mem_append_left _ hi)
 inj := fun i j o o' b N N' hi hj => hw.inj i j o o' b N N' (List.mem_append_left _ hi) (List.mem_append_left _ hj)
 dis := fun b ⟨i, o, N, hi, hm⟩ => hw.dis b ⟨i, o, N, List.mem_append_left _ hi, hm⟩
theorem WR.perm {C : Ctx} {H H' : AHeap} {w : World} (hw : WR C H w) (hp : H.Perm H') : WR C H' w where
 hp := hw.hp
 nd := (hp.map Prod.fst).nodup_iff.1 hw.nd
 ids := fun i o hi => hw.ids i o (hp.mem_iff.2 hi)
 inj := fun i j o o' b N N' hi hj => hw.inj i j o o' b N N' (hp.mem_iff.2 hi) (hp.mem_iff.2 hj)
 dis := fun b ⟨i, o, N, hi, hm⟩ => hw.dis b ⟨i, o, N, hp.mem_iff.2 hi, hm⟩
theorem Ext.permR {Z : List Nat} {C C' : Ctx} {H H' K' : AHeap} {w w' : World} (h : Ext Z C H w C' H' w') (hp : H'.Perm K') : Ext Z C H w C' K' w' :=
 ⟨h.le, h.av, h.os, h.tape, h.output, h.size, h.fr, h.nhp, fun b ⟨i, o, N, hi, hm⟩ => h.nbl b ⟨i, o, N, hp.mem_iff.2 hi, hm⟩, fun i o hi => h.nid i o (hp.mem_iff.2 hi)⟩
theorem Ext.permL {Z : List Nat} {C C' : Ctx} {H H' K : AHeap} {w w' : World} (h : Ext Z C H w C' H' w') (hp : H.Perm K) : Ext Z C K w C' H' w' := by
 have e : ∀ b, blk C H b ↔ blk C K b := fun b => ⟨fun ⟨i, o, N, hi, hm⟩ => ⟨i, o, N, hp.mem_iff.1 hi, hm⟩, fun ⟨i, o, N, hi, hm⟩ => ⟨i, o, N, hp.mem_iff.2 hi, hm⟩⟩
 exact ⟨h.le, h.av, h.os, h.tape, h.output, h.size, fun b hb hn => h.fr b hb (fun x => hn ((e b).1 x)), fun b o hb => (h.nhp b o hb).imp id (fun x => x.imp id (e b).1),
  fun b hb => (h.nbl b hb).imp (e b).1 id, fun i o hi => (h.nid i o hi).imp (fun ⟨o', x⟩ => ⟨o', hp.mem_iff.1 x⟩) id⟩
theorem WR.sub {C : Ctx} {H H' : AHeap} {w : World} (hw : WR C H w) (hs : ∀ p, p ∈ H' → p ∈ H) (hn : (H'.map Prod.fst).Nodup) : WR C H' w :=
 ⟨hw.hp, hn, fun i o hi => hw.ids i o (hs _ hi), fun i j o o' b N N' hi hj => hw.inj i j o o' b N N' (hs _ hi) (hs _ hj), fun b ⟨i, o, N, hi, hm⟩ => hw.dis b ⟨i, o, N, hs _ hi, hm⟩⟩
theorem Ext.sub {Z : List Nat} {C : Ctx} {H H' : AHeap} {w : World} (hs : ∀ p, p ∈ H' → p ∈ H) : Ext Z C H w C H' w :=
 ⟨.refl C, fun _ _ h => h, rfl, rfl, rfl, Nat.le_refl _, fun _ _ _ => rfl, fun _ o h => .inl ⟨o, h⟩, fun b ⟨i, o, N, hi, hm⟩ => .inl ⟨i, o, N, hs _ hi, hm⟩, fun i o h => .inl ⟨o, hs _ h⟩⟩
end Go.Sx
namespace Go.Sx
open Go
structure St where
 T : List (Nat × AV)
 H : AHeap
 D : List Nat
 n : Nat
def put (T : List (Nat × AV)) : Option Nat → AV → List (Nat × AV)
 | none, _ => T
 | some d, x => (d, x) :: T
def mark (C : Ctx) (i : Nat) : Deferred := match C.m i with
 | some x => { target := .collected x.1, args := #[] }
 | none => (C.df i).getD { target := .collected 0, args := #[] }
structure SR (C : Ctx) (s : St) (a : Act) (w : World) : Prop where
 wr : WR C s.H w
 sl : ∀ t x, lk s.T t = some x → ∃ v, a.tmps[t]? = some v ∧ VR C x v
 df : a.defers = s.D.map (mark C)
 du : ∀ i, i ∈ s.D → i ∈ C.U
 sz : a.tmps.size = s.n
abbrev Wd (ro : Option Nat) : Fence := { Fence.wide with round := ro }
def Sat (Z : List Nat) (C0 : Ctx) (H0 : AHeap) (w0 : World) (K : St → Prop) (a : Act) (w : World) : Prop :=
 ∃ C s, K s ∧ SR C s a w ∧ Ext Z C0 H0 w0 C s.H w
def Post (Z : List Nat) (C0 : Ctx) (H0 : AHeap) (w0 : World) (Q : Exit → St → Prop) (e : Exit) (a : Act) (w : World) : Prop :=
 e ≠ .outgrown ∧ Sat Z C0 H0 w0 (Q e) a w
def AWp (P : Program) (ro : Option Nat) (c : Code) (Q : Exit → St → Prop) (s : St) : Prop :=
 ∀ Z C0 H0 w0 C a w, Ext Z C0 H0 w0 C s.H w → SR C s a w → c.wpIn (Wd ro) 0 P (Post Z C0 H0 w0 Q) a w
section
variable {P : Program} {ro : Option Nat} {Q : Exit → St → Prop} {s : St}
theorem Sat.mono {Z : List Nat} {C0 : Ctx} {H0 : AHeap} {w0 : World} {K K' : St → Prop} {a : Act} {w : World} (h : ∀ s, K s → K' s) : Sat Z C0 H0 w0 K a w → Sat Z C0 H0 w0 K' a w :=
 fun ⟨C, s, hk, r⟩ => ⟨C, s, h s hk, r⟩
theorem Z9c {c : Code} {Q' : Exit → St → Prop} (h : AWp P ro c Q s) (hq : ∀ e s, Q e s → Q' e s) : AWp P ro c Q' s :=
 fun Z C0 H0 w0 C a w he hs => wpIn_mono (h Z C0 H0 w0 C a w he hs) (fun _ _ _ ⟨h1, h2⟩ => ⟨h1, h2.mono (hq _)⟩)
theorem Zi (h : Q .normal s) : AWp P ro .skip Q s := fun _ _ _ _ C _ _ he hs => wpIn_skip ⟨nofun, C, s, h, hs, he⟩
theorem Zb7 {l : Nat} (h : Q .normal s) : AWp P ro (.label l) Q s := fun _ _ _ _ C _ _ he hs => wpIn_label ⟨nofun, C, s, h, hs, he⟩
theorem Z05 {i : Nat} (h : Q (.exit i) s) : AWp P ro (.exit i) Q s := fun _ _ _ _ C _ _ he hs => wpIn_exit ⟨nofun, C, s, h, hs, he⟩
theorem Z02 (h : Q .ret s) : AWp P ro .ret Q s := fun _ _ _ _ C _ _ he hs => wpIn_ret ⟨nofun, C, s, h, hs, he⟩
def thenQ (K : St → Prop) (Q : Exit → St → Prop) : Exit → St → Prop
 | .normal, s => K s
 | .exit i, s => Q (.exit i) s
 | .goto i, s => Q (.goto i) s
 | .ret, s => Q .ret s
 | .panic c, s => Q (.panic c) s
 | .outgrown, s => Q .outgrown s
theorem Z4 {x y : Code} (h : AWp P ro x (thenQ (AWp P ro y Q) Q) s) : AWp P ro (.seq x y) Q s :=
 fun Z C0 H0 w0 C a w he hs => wpIn_seq (wpIn_mono (h Z C0 H0 w0 C a w he hs) (by
  rintro e a' w' ⟨h1, C', s', hq, hs', he'⟩
  cases e with
  | normal => exact hq Z C0 H0 w0 C' a' w' he' hs'
  | outgrown => exact absurd rfl h1
  | _ => exact ⟨h1, C', s', hq, hs', he'⟩))
def ev (T : List (Nat × AV)) : Operand → Option AV
 | .tmp t => lk T t
 | .const c => some (.v c)
 | .func f => some (.fn (.func f) [])
 | .global _ => none
theorem SR.ev {C : Ctx} {a : Act} {w : World} (hs : SR C s a w) {p : Operand} {x : AV} (h : Sx.ev s.T p = some x) : VR C x (a.eval p) := by
 cases p with
 | tmp t =>
  obtain ⟨v, h1, h2⟩ := hs.sl t x h
  have e : a.eval (.tmp t) = v := by simp [Act.eval, h1]
  rw [e]; exact h2
 | const c => cases h; exact .v c
 | func f => cases h; exact .fn _ [] #[] rfl (by intro i c x h; simp at h)
 | global g => cases h
theorem VR.val {C : Ctx} {x v : Value} (h : VR C (.v x) v) : v = x := by cases h; rfl
theorem Ze {c : Operand} {x y : Code} {t : Bool} (hc : ev s.T c = some (.v (.bool t))) (ht : t = true → AWp P ro x Q s) (hf : t = false → AWp P ro y Q s) :
  AWp P ro (.cond c x y) Q s :=
 fun Z C0 H0 w0 C a w he hs => wpIn_cond_split (t := t) (VR.val (hs.ev hc)) (fun h => ht h Z C0 H0 w0 C a w he hs) (fun h => hf h Z C0 H0 w0 C a w he hs)
def blockQ (id : Nat) (Q : Exit → St → Prop) : Exit → St → Prop
 | .normal, s => Q .normal s
 | .exit i, s => if i = id then Q .normal s else Q (.exit i) s
 | .goto i, s => Q (.goto i) s
 | .ret, s => Q .ret s
 | .panic c, s => Q (.panic c) s
 | .outgrown, s => Q .outgrown s
theorem Zn {id : Nat} {c : Code} (h : AWp P ro c (blockQ id Q) s) : AWp P ro (.block id c) Q s :=
 fun Z C0 H0 w0 C a w he hs => wpIn_block (wpIn_mono (h Z C0 H0 w0 C a w he hs) (by
  rintro e a' w' ⟨h1, C', s', hq, hs', he'⟩
  cases e with
  | exit i =>
   by_cases hi : i = id
   ·simp only [blockQ, hi, if_true] at hq
    simp only [Exit.inBlock, hi, if_true]
    exact ⟨nofun, C', s', hq, hs', he'⟩
   ·simp only [blockQ, hi, if_false] at hq
    simp only [Exit.inBlock, hi, if_false]
    exact ⟨nofun, C', s', hq, hs', he'⟩
  | _ => exact ⟨h1, C', s', hq, hs', he'⟩))
def Weak (s s' : St) : Prop := ∀ Z C a w, SR C s a w → ∃ C', SR C' s' a w ∧ Ext Z C s.H w C' s'.H w
theorem Weak.refl (s : St) : Weak s s := fun _ C _ _ h => ⟨C, h, .refl ..⟩
theorem Weak.trans {s s' s'' : St} (h : Weak s s') (k : Weak s' s'') : Weak s s'' := fun Z C a w hs => by
 obtain ⟨C', h1, h2⟩ := h Z C a w hs
 obtain ⟨C'', h3, h4⟩ := k Z C' a w h1
 exact ⟨C'', h3, h2.trans h4⟩
theorem Z1d {c : Code} {s' : St} (hw : Weak s s') (h : AWp P ro c Q s') : AWp P ro c Q s :=
 fun Z C0 H0 w0 C a w he hs => let ⟨C', h1, h2⟩ := hw Z C a w hs; h Z C0 H0 w0 C' a w (he.trans h2) h1
theorem Z2b {p : Nat → Prop} (h : ∃ n, p n) : ∃ n, p n ∧ ∀ m, p m → n ≤ m := by
 obtain ⟨n, hn⟩ := h
 induction n using Nat.strongRecOn with
 | _ n ih =>
  by_cases hx : ∃ m, m < n ∧ p m
  ·obtain ⟨m, h1, h2⟩ := hx
   exact ih m h1 h2
  ·refine ⟨n, hn, fun m hm => ?_⟩
   rcases Nat.lt_or_ge m n with h1 | h1
   ·exact (hx ⟨m, h1, hm⟩).elim
   ·exact h1
theorem Zd9 {c : Code} {α : Type} (inv : α → St) (μ : α → Nat) (x0 : α) (h0 : Weak s (inv x0))
  (round : ∀ x, AWp P ro c (thenQ (fun s' => ∃ y, μ y < μ x ∧ Weak s' (inv y)) Q) (inv x)) : AWp P ro (.loop c) Q s := by
 refine Z1d h0 ?_
 intro Z C0 H0 w0 C a w he hs
 refine wpIn_mono (Q := Post Z C0 H0 w0 Q) ?_ (fun _ _ _ h => h)
 -- the machine's own law asks a measure on states: the least one that a name of the state has
 let I : Act → World → Nat → Prop := fun a w n => ∃ x C, μ x ≤ n ∧ SR C (inv x) a w ∧ Ext Z C0 H0 w0 C (inv x).H w
 have hI : ∃ n, I a w n := ⟨μ x0, x0, C, Nat.le_refl _, hs, he⟩
 classical
 refine wpIn_loop (fun a w => ∃ n, I a w n) (fun a w => if h : ∃ n, I a w n then Classical.choose (Z2b h) else 0) hI ?_
 intro a w hx
 obtain ⟨x, C, hle, hs, he⟩ := (Classical.choose_spec (Z2b hx)).1
 refine wpIn_mono (round x Z C0 H0 w0 C a w he hs) ?_
 rintro e a' w' ⟨h1, C', s', hq, hs', he'⟩
 cases e with
 | normal =>
  obtain ⟨y, hy, hwk⟩ := hq
  obtain ⟨C'', h2, h3⟩ := hwk Z C' a' w' hs'
  have hi : I a' w' (μ y) := ⟨y, C'', Nat.le_refl _, h2, he'.trans h3⟩
  refine ⟨⟨_, hi⟩, ?_⟩
  rw [dif_pos ⟨_, hi⟩, dif_pos hx]
  exact Nat.lt_of_le_of_lt ((Classical.choose_spec (Z2b ⟨_, hi⟩)).2 _ hi) (Nat.lt_of_lt_of_le hy hle)
 | outgrown => exact absurd rfl h1
 | _ => exact ⟨h1, C', s', hq, hs', he'⟩
def AOps (P : Program) (ro : Option Nat) (ops : Array Oper) (l : List Oper) (Q : Exit → St → Prop) (s : St) : Prop :=
 ∀ k, ops.toList.drop k = l → ∀ Z C0 H0 w0 C a w, Ext Z C0 H0 w0 C s.H w → SR C s a w → wpOpsIn (Wd ro) 0 P ops (Post Z C0 H0 w0 Q) (List.range' k l.length) a w
theorem Z0 {id : Nat} {l : List Oper} (h : AOps P ro l.toArray l Q s) : AWp P ro (.region id l.toArray false) Q s :=
 fun Z C0 H0 w0 C a w he hs => wpIn_region (by
  have := h 0 (by simp) Z C0 H0 w0 C a w he hs
  rw [List.range_eq_range']
  simpa using this)
theorem Z3 {ops : Array Oper} (h : Q .normal s) : AOps P ro ops [] Q s := fun _ _ _ _ _ _ C _ _ he hs => by
 simp only [List.length_nil, List.range'_zero, wpOpsIn]
 exact ⟨nofun, C, s, h, hs, he⟩
def Step (P : Program) (ro : Option Nat) (o : Oper) (K : St → Prop) (KP : List PanicEntry → St → Prop) (s : St) : Prop :=
 ∀ Z C0 H0 w0 C a w, Ext Z C0 H0 w0 C s.H w → SR C s a w →
  o.uponIn (Wd ro) 0 P a (Sat Z C0 H0 w0 K) (fun e a' w' => match e with | .panic ch => Sat Z C0 H0 w0 (KP ch) a' w' | _ => False) ((o.semAt ro a.eval).run P w)
def Wanted (ops : Array Oper) (T : List (Nat × AV)) (o : Oper) (b : Bool) : Prop :=
 (o.guard = none ∧ b = true) ∨ ∃ g c d og t, o.guard = some (g, c) ∧ ops[g]? = some og ∧ og.dst = some t ∧ ((lk T t = some (.v (.bool d)) ∧ (d == c) = b) ∨ (lk T t = some (.v undef) ∧ b = false))
theorem SR.wanted {C : Ctx} {a : Act} {w : World} (hs : SR C s a w) {ops : Array Oper} {o : Oper} {b : Bool} (h : Wanted ops s.T o b) : Region.wanted o (yielded ops a.tmps) = b := by
 rcases h with ⟨h, rfl⟩ | ⟨g, c, d, og, t, h1, h2, h3, ⟨h4, h5⟩ | ⟨h4, rfl⟩⟩
 ·simp [Region.wanted, h]
 ·obtain ⟨v, h6, h7⟩ := hs.sl t _ h4
  have := VR.val h7
  subst this
  have hy : yielded ops a.tmps g = some d := by
   have hb : (ops[g]?.bind fun x => x.dst) = some t := by rw [h2]; exact h3
   have hb2 : ((ops[g]?.bind fun x => x.dst).bind fun x => a.tmps[x]?) = some (.bool d) := by rw [hb]; exact h6
   unfold yielded
   rw [hb2]
  rw [← h5]
  cases d <;> cases c <;> simp [Region.wanted, h1, hy]
 ·obtain ⟨v, h6, h7⟩ := hs.sl t _ h4
  have := VR.val h7
  subst this
  have hy : yielded ops a.tmps g = none := by
   have hb : (ops[g]?.bind fun x => x.dst) = some t := by rw [h2]; exact h3
   have hb2 : ((ops[g]?.bind fun x => x.dst).bind fun x => a.tmps[x]?) = some undef := by rw [hb]; exact h6
   unfold yielded
   rw [hb2]
   rfl
  simp [Region.wanted, h1, hy]
theorem Z3f {F : Fence} {n : Nat} {o : Oper} {a : Act} {K K' : Act → World → Prop} {R R' : Exit → Act → World → Prop} {r : Result Next}
  (h : ∀ a w, K a w → K' a w) (hr : ∀ c w, R (.panic c) a w → R' (.panic c) a w) (ho : LetsOut R → LetsOut R') (hh : o.uponIn F n P a K R r) : o.uponIn F n P a K' R' r := by
 cases r with
 | ok x w' =>
  cases x <;> simp only [Oper.uponIn] at hh ⊢ <;>
   first
    | exact h _ _ hh
    | exact ⟨hh.1, CallsIn.mono hh.2 (fun e w'' he => by cases e <;> first | exact h _ _ he | exact hr _ _ he | exact ho he)⟩
    | exact ⟨hh.1, RowsIn.mono hh.2 (fun _ _ he => h _ _ he)⟩
    | exact ⟨hh.1, RoundIn.mono hh.2 (fun e w'' he => by cases e <;> first | exact h _ _ he | exact hr _ _ he | exact ho he)⟩
 | halt x w' => cases x <;> simp only [Oper.uponIn] at hh ⊢ <;> first | exact hr _ _ hh | exact hh
theorem Z07 {l : List Oper} {k : Nat} {o : Oper} {r : List Oper} (h : l.drop k = o :: r) : l[k]? = some o ∧ l.drop (k + 1) = r := by
 have h1 : (l.drop k)[0]? = some o := by rw [h]; rfl
 refine ⟨by simpa using h1, ?_⟩
 have : (l.drop k).drop 1 = r := by rw [h]; rfl
 rwa [List.drop_drop] at this
theorem Z10 {ops : Array Oper} {o : Oper} {rest : List Oper} (hw : Wanted ops s.T o true)
  (h : Step P ro o (AOps P ro ops rest Q) (fun ch => Q (.panic ch)) s) : AOps P ro ops (o :: rest) Q s := by
 intro k hk Z C0 H0 w0 C a w he hs
 obtain ⟨h1, h2⟩ := Z07 hk
 have ho : ops[k]? = some o := by rw [← Array.getElem?_toList]; exact h1
 rw [List.length_cons, List.range'_succ, wpOpsIn_cons]
 unfold wpOpIn
 simp only [ho, hs.wanted hw, if_true]
 refine ⟨fun _ _ => trivial, ?_⟩
 refine Z3f ?_ ?_ ?_ (h Z C0 H0 w0 C a w he hs)
 ·rintro a' w' ⟨C', s', hk', hs', he'⟩
  exact hk' (k + 1) h2 Z C0 H0 w0 C' a' w' he' hs'
 ·intro c w' hx
  exact ⟨nofun, hx⟩
 ·rintro ⟨a', w', hx⟩
  exact hx.elim
theorem SR.put {C C' : Ctx} {a : Act} {w w' : World} {H' : AHeap} (hs : SR C s a w) (hle : C.Le C') (hw : WR C' H' w') {d : Option Nat} (hd : ∀ t, d = some t → t < s.n) {x : AV} {v : Value} (hx : VR C' x v) :
  SR C' { s with T := Sx.put s.T d x, H := H' } (a.put d v) w' := by
 refine ⟨hw, ?_, ?_, fun i hi => hle.U i (hs.du i hi), ?_⟩
 ·intro t y hy
  cases d with
  | none =>
   obtain ⟨u, h1, h2⟩ := hs.sl t y hy
   exact ⟨u, h1, h2.mono hle⟩
  | some d =>
   simp only [Sx.put, lk] at hy
   cases hb : Nat.beq d t with
   | true =>
    have e := Nat.eq_of_beq_eq_true hb
    subst e
    simp only [hb, cond_true, Option.some.injEq] at hy
    subst hy
    refine ⟨v, ?_, hx⟩
    have := hd d rfl
    rw [← hs.sz] at this
    simp [Act.put, this]
   | false =>
    simp only [hb, cond_false] at hy
    have hne : d ≠ t := fun e => by subst e; simp at hb
    obtain ⟨u, h1, h2⟩ := hs.sl t y hy
    exact ⟨u, by simpa [Act.put, Array.getElem?_setIfInBounds_ne hne] using h1, h2.mono hle⟩
 ·have e1 : (a.put d v).defers = a.defers := by cases d <;> rfl
  rw [e1, hs.df]
  exact List.map_congr_left fun i hi => by simp [mark, hle.m i (hs.du i hi), hle.df i (hs.du i hi)]
 ·have e1 : (a.put d v).tmps.size = a.tmps.size := by cases d <;> simp [Act.put]
  rw [e1]; exact hs.sz
def dok : Option Nat → Nat → Bool
 | none, _ => true
 | some t, n => Nat.blt t n
theorem Z0k {d : Option Nat} {n : Nat} (h : dok d n = true) : ∀ t, d = some t → t < n := by
 rintro t rfl
 exact Nat.blt_eq ▸ h
theorem Zd4 {ops : Array Oper} {o : Oper} {rest : List Oper} (hw : Wanted ops s.T o false) (hd : dok o.dst s.n = true)
  (h : AOps P ro ops rest Q { s with T := Sx.put s.T o.dst (.v undef) }) : AOps P ro ops (o :: rest) Q s := by
 intro k hk Z C0 H0 w0 C a w he hs
 obtain ⟨h1, h2⟩ := Z07 hk
 have ho : ops[k]? = some o := by rw [← Array.getElem?_toList]; exact h1
 rw [List.length_cons, List.range'_succ, wpOpsIn_cons]
 unfold wpOpIn
 simp only [ho, hs.wanted hw, Bool.false_eq_true, if_false]
 exact ⟨fun _ _ => trivial, h (k + 1) h2 Z C0 H0 w0 C _ w he (hs.put (.refl C) hs.wr (Z0k hd) (.v undef))⟩
def Eff (P : Program) (o : Oper) (T : List (Nat × AV)) (Hn : AHeap) (x : AV) (objs : AHeap) : Prop :=
 ∀ Z C H a w, WR C H w → (∀ p, p ∈ Hn → p ∈ H) → (∀ p, p ∈ o.op.operands → ∀ y, ev T p = some y → VR C y (a.eval p)) →
  (∀ p, p ∈ objs → p.1 ∉ C.U) → (objs.map Prod.fst).Nodup → (∀ z, z ∈ Z → z ∉ objs.map Prod.fst) →
  ∀ ro next R, (∀ v w1 C1, VR C1 x v → WR C1 (objs ++ H) w1 → Ext Z C H w C1 (objs ++ H) w1 → next (a.put o.dst v) w1) →
   o.uponIn (Wd ro) 0 P a next R ((o.semAt ro a.eval).run P w)
theorem Z3j {ops : Array Oper} {o : Oper} {rest : List Oper} (Hn : AHeap) (x : AV) (hw : Wanted ops s.T o true) (hd : dok o.dst s.n = true)
  (he : Eff P o s.T Hn x []) (hn : ∀ p, p ∈ Hn → p ∈ s.H) (h : AOps P ro ops rest Q { s with T := Sx.put s.T o.dst x }) : AOps P ro ops (o :: rest) Q s := by
 refine Z10 hw ?_
 intro Z C0 H0 w0 C a w hx hs
 refine he Z C s.H a w hs.wr hn (fun p _ y hy => hs.ev hy) nofun List.nodup_nil (fun _ _ => by simp) ro _ _ ?_
 intro v w1 C1 hv hw1 he1
 exact ⟨C1, _, h, hs.put he1.le hw1 (Z0k hd) hv, hx.trans he1⟩
theorem Z5w (L : List Nat) : ∃ i, i ∉ L := by
 refine ⟨L.foldr max 0 + 1, fun h => ?_⟩
 have : ∀ l : List Nat, ∀ i, i ∈ l → i ≤ l.foldr max 0 := by
  intro l
  induction l with
  | nil => intro i h; cases h
  | cons x l ih =>
   intro i h
   rcases List.mem_cons.1 h with rfl | h
   ·exact Nat.le_max_left ..
   ·exact Nat.le_trans (ih i h) (Nat.le_max_right ..)
 have := this L _ h
 omega
theorem Zb5 {ops : Array Oper} {o : Oper} {rest : List Oper} (Hn : AHeap) (x : Nat → AV) (ob : Nat → AObj) (hw : Wanted ops s.T o true) (hd : dok o.dst s.n = true)
  (he : ∀ id, Eff P o s.T Hn (x id) [(id, ob id)]) (hn : ∀ p, p ∈ Hn → p ∈ s.H)
  (h : ∀ id, AOps P ro ops rest Q { s with T := Sx.put s.T o.dst (x id), H := (id, ob id) :: s.H }) : AOps P ro ops (o :: rest) Q s := by
 refine Z10 hw ?_
 intro Z C0 H0 w0 C a w hx hs
 obtain ⟨id, hid⟩ := Z5w (C.U ++ Z)
 rw [List.mem_append, not_or] at hid
 refine he id Z C s.H a w hs.wr hn (fun p _ y hy => hs.ev hy) (by intro p hp; simp at hp; subst hp; exact hid.1) (by simp) (fun z hz => by simp; rintro rfl; exact hid.2 hz) ro _ _ ?_
 intro v w1 C1 hv hw1 he1
 exact ⟨C1, _, h id, hs.put he1.le hw1 (Z0k hd) hv, hx.trans he1⟩
end
end Go.Sx
namespace Go.Sx
open Go
inductive AEnd where
 | ret (x : AV)
 | panic (ch : List PanicEntry)
def ER (C : Ctx) : AEnd → Ending → Prop
 | .ret x, .returned v => VR C x v
 | .panic ch, .panicked ch' => ch' = ch
 | _, _ => False
def VRs (C : Ctx) (xs : List AV) (vs : Array Value) : Prop :=
 xs.length = vs.size ∧ ∀ (i : Nat) (x : AV) (v : Value), xs[i]? = some x → vs[i]? = some v → VR C x v
def Callable (P : Program) (f : Nat) : Prop := ∃ fn, P.funcs[f]? = some fn ∧ fn.body.isNone = false ∧ (fn.name == "runtime.NumGoroutine") = false
structure ACalls (P : Program) (f : Nat) (xs : List AV) (H : AHeap) (R : AEnd → AHeap → Prop) : Prop where
 ok : Callable P f
 run : ∀ Z C w vs, WR C H w → VRs C xs vs → CallsIn (Wd none) 0 P f vs w (fun e w' => ∃ C' H' x, R x H' ∧ WR C' H' w' ∧ Ext Z C H w C' H' w' ∧ ER C' x e)
theorem ACalls.mono {P : Program} {f : Nat} {xs : List AV} {H : AHeap} {R R' : AEnd → AHeap → Prop} (h : ACalls P f xs H R) (hr : ∀ e H', R e H' → R' e H') : ACalls P f xs H R' :=
 ⟨h.ok, fun Z C w vs hw hv => (h.run Z C w vs hw hv).mono fun _ _ ⟨C', H', x, r, rest⟩ => ⟨C', H', x, hr _ _ r, rest⟩⟩
theorem ACalls.frame {P : Program} {f : Nat} {xs : List AV} {H : AHeap} {R : AEnd → AHeap → Prop} (h : ACalls P f xs H R) (K Fr : AHeap) (hp : K.Perm (H ++ Fr)) :
  ACalls P f xs K (fun e K' => ∃ H', R e H' ∧ K' = H' ++ Fr) :=
 ⟨h.ok, fun Z C w vs hw hv => by
  have hw1 : WR C (H ++ Fr) w := hw.perm hp
  refine (h.run Z C w vs hw1.left hv).mono ?_
  rintro e w' ⟨C', H', x, r, hw', he, hx⟩
  obtain ⟨h1, h2⟩ := he.frame hw1 hw'
  exact ⟨C', H' ++ Fr, x, ⟨H', r, rfl⟩, h1, h2.permL hp.symm, hx⟩⟩
theorem Z8o {w : World} {b o : Nat} {cells : Array Value} {elem : TypeId} {fz : Nat × Nat} (h : w.heap[b]? = some (.cells cells elem fz)) : w.cell? ⟨b, o, none⟩ = cells[o]? := by
 simp [World.cell?, h]
def At (H : AHeap) : AV → List AV → Prop
 | .ptr id sz i c, l => ∃ el es e, (id, AObj.rows el sz es) ∈ H ∧ es[i]? = some e ∧ l = e.drop c
 | .elt es i c, l => ∃ e, es[i]? = some e ∧ l = e.drop c
 | _, _ => False
theorem At.cells {H : AHeap} {p : AV} {l : List AV} {C : Ctx} {w : World} {v : Value} (h : At H p l) (hw : WR C H w) (hv : VR C p v) :
  ∃ a : Addr, v = .pointer (some a) ∧ a.spot = none ∧ ∀ (j : Nat) (x : AV), l[j]? = some x → ∃ u, w.cell? (a.add j) = some u ∧ VR C x u := by
 cases p with
 | ptr id sz i c =>
  obtain ⟨el, es, e, h1, h2, rfl⟩ := h
  cases hv with
  | ptr _ _ _ _ b N hid hu =>
   refine ⟨_, rfl, rfl, fun j x hj => ?_⟩
   obtain ⟨_, hor⟩ := (hw.ids _ _ h1).2
   rcases hor with ⟨hn, _⟩ | ⟨b', N', cells, hm, hh, _, _, hc⟩
   ·rw [hid] at hn; cases hn
   ·rw [hid] at hm; cases hm
    rw [List.getElem?_drop] at hj
    obtain ⟨u, hu1, hu2, _⟩ := hc i e (c + j) x h2 hj
    refine ⟨u, ?_, hu2⟩
    rw [show (Addr.add ⟨b, i * sz + c, none⟩ j) = ⟨b, i * sz + c + j, none⟩ from by simp [Addr.add], Z8o hh, ← hu1, Nat.add_assoc]
 | elt es i c =>
  obtain ⟨e, h2, rfl⟩ := h
  cases hv with
  | elt _ _ _ a sz cap n hl hz hi =>
   refine ⟨_, rfl, rfl, fun j x hj => ?_⟩
   cases hl with
   | lst _ _ sz' cap' cells elem fz xs hs hb hz' hc hv' ho hcap =>
    have hne : es ≠ [] := by rintro rfl; simp at hi
    have hmem := List.mem_of_getElem? h2
    have hsz : sz' = sz := by rw [← hz' e hmem, hz e hmem]
    subst hsz
    rw [List.getElem?_drop] at hj
    refine ⟨xs i (c + j), ?_, hv' i e (c + j) x h2 hj⟩
    rw [show (Addr.add ⟨a.block, a.off + i * sz' + c, none⟩ j) = ⟨a.block, a.off + i * sz' + c + j, none⟩ from by simp [Addr.add], Z8o (hw.hp _ _ (hb hne)), ← hc i e (c + j) x h2 hj, Nat.add_assoc]
 | _ => exact h.elim
def _root_.Go.Program.tk (P : Program) (t : TypeId) : Option (Bool × Nat) :=
 match P.underlying t, P.info? t with
 | some d, some i => some ((match d with | .struct _ => true | .array _ _ => true | _ => false), i.size)
 | _, _ => none
theorem Z27 {P : Program} {t : TypeId} {b : Bool} {n : Nat} (h : P.tk t = some (b, n)) (w : World) : (isAgg t).run P w = .ok b w := by
 unfold Program.tk at h
 split at h
 ·rename_i d i h1 h2
  simp only [Option.some.injEq, Prod.mk.injEq] at h
  obtain ⟨rfl, _⟩ := h
  simp only [isAgg, underlying, program, Sem.run_bind, Sem.run, Result.andThen, h1, Sem.run_pure]
  cases d <;> rfl
 ·cases h
theorem Z0g {P : Program} {t : TypeId} {b : Bool} {n : Nat} (h : P.tk t = some (b, n)) (w : World) : (sizeOf t).run P w = .ok n w := by
 unfold Program.tk at h
 split at h
 ·rename_i d i h1 h2
  simp only [Option.some.injEq, Prod.mk.injEq] at h
  obtain ⟨_, rfl⟩ := h
  simp only [sizeOf, typeInfo, program, Sem.run_bind, Sem.run, Result.andThen, h2, Sem.run_pure]
 ·cases h
theorem Z28 {P : Program} {C : Ctx} {w : World} {a : Addr} : ∀ (n i : Nat) (l : List AV) (acc : Array Value), n ≤ l.length →
  (∀ (j : Nat) (x : AV), l[j]? = some x → ∃ u, w.cell? (a.add (i + j)) = some u ∧ VR C x u) →
  ∃ us : List Value, us.length = n ∧ (loadCellsFrom a i n acc).run P w = .ok (acc ++ us.toArray) w ∧ ∀ (j : Nat) (x : AV) (u : Value), (l.take n)[j]? = some x → us[j]? = some u → VR C x u
 | 0, i, l, acc, _, _ => ⟨[], rfl, by simp [loadCellsFrom, Sem.run], by intro j x u h; simp at h⟩
 | n + 1, i, [], acc, hn, _ => by simp at hn
 | n + 1, i, x :: l, acc, hn, h => by
  obtain ⟨u, h1, h2⟩ := h 0 x rfl
  obtain ⟨us, e1, e2, e3⟩ := Z28 (P := P) (C := C) (w := w) (a := a) n (i + 1) l (acc.push u) (by simpa using hn)
   (fun j y hy => by
    have := h (j + 1) y hy
    rwa [show i + (j + 1) = i + 1 + j from by omega] at this)
  refine ⟨u :: us, by simp [e1], ?_, ?_⟩
  ·rw [Nat.add_zero] at h1
   simp only [loadCellsFrom, load, Sem.run_bind, Sem.run, h1, Result.andThen]
   rw [e2]; simp
  ·intro j y v hy hv
   cases j with
   | zero => simp at hy hv; subst hy; subst hv; exact h2
   | succ j => exact e3 j y v (by simpa using hy) (by simpa using hv)
def Ld (P : Program) (t : TypeId) (l : List AV) (x : AV) : Prop :=
 (∃ n r, P.tk t = some (false, n) ∧ l = x :: r) ∨ ∃ n, P.tk t = some (true, n) ∧ n ≤ l.length ∧ x = .agg (l.take n)
theorem Z5l {P : Program} {C : Ctx} {H : AHeap} {w : World} {t : TypeId} {p x : AV} {l : List AV} {v : Value} (hat : At H p l) (hl : Ld P t l x) (hw : WR C H w) (hv : VR C p v) :
  ∃ a u, v = .pointer (some a) ∧ (loadVar t a).run P w = .ok u w ∧ VR C x u := by
 obtain ⟨a, rfl, hs, hc⟩ := hat.cells hw hv
 rcases hl with ⟨n, r, ht, rfl⟩ | ⟨n, ht, hn, rfl⟩
 ·obtain ⟨u, h1, h2⟩ := hc 0 x rfl
  refine ⟨a, u, rfl, ?_, h2⟩
  have e0 : a.add 0 = a := by simp [Addr.add]
  rw [e0] at h1
  simp [loadVar, Sem.run_bind, Z27 ht, Result.andThen, load, Sem.run, h1]
 ·obtain ⟨us, e1, e2, e3⟩ := Z28 (P := P) (C := C) (w := w) (a := a) n 0 l #[] hn (fun j x hj => by rw [Nat.zero_add]; exact hc j x hj)
  refine ⟨a, .agg us.toArray, rfl, ?_, ?_⟩
  ·simp [loadVar, Sem.run_bind, Z27 ht, Z0g ht, Result.andThen, loadCells, e2]
  ·exact .agg _ _ (by simp [e1]; omega) (fun i c x h1 h2 => e3 i c x h1 (by simpa using h2))
def Res (P : Program) (T : List (Nat × AV)) (H : AHeap) : List ResultVar → List AV → Prop
 | [], [] => True
 | .tmp t :: r, x :: xs => lk T t = some x ∧ Res P T H r xs
 | .cell a t :: r, x :: xs => (∃ p l, lk T a = some p ∧ At H p l ∧ Ld P t l x) ∧ Res P T H r xs
 | _, _ => False
def mkRes : List AV → AV
 | [x] => x
 | xs => .tup xs
def resVar (tmps : Array Value) : ResultVar → Sem Value
 | .tmp t => pure (tmps.getD t undef)
 | .cell a t => do loadVar t (← asAddr (tmps.getD a undef))
theorem Z3c {P : Program} {C : Ctx} {s : St} {a : Act} {w : World} {H : AHeap} (hw : WR C H w) (hsl : ∀ t x, lk s.T t = some x → ∃ v, a.tmps[t]? = some v ∧ VR C x v) : ∀ (rs : List ResultVar) (xs : List AV), Res P s.T H rs xs →
  ∃ us : List Value, us.length = xs.length ∧ (rs.mapM (resVar a.tmps)).run P w = .ok us w ∧ ∀ (j : Nat) (x : AV) (u : Value), xs[j]? = some x → us[j]? = some u → VR C x u
 | [], [], _ => ⟨[], rfl, by simp [Sem.run_pure], by intro j x u h; simp at h⟩
 | .tmp t :: r, x :: xs, h => by
  obtain ⟨h1, h2⟩ := h
  obtain ⟨us, e1, e2, e3⟩ := Z3c hw hsl r xs h2
  obtain ⟨v, h3, h4⟩ := hsl t x h1
  refine ⟨v :: us, by simp [e1], ?_, ?_⟩
  ·simp [List.mapM_cons, Sem.run_bind, resVar, Sem.run_pure, Result.andThen, e2, h3]
  ·intro j y u hy hu
   cases j with
   | zero => simp at hy hu; subst hy; subst hu; exact h4
   | succ j => exact e3 j y u (by simpa using hy) (by simpa using hu)
 | .cell b t :: r, x :: xs, h => by
  obtain ⟨⟨p, l, h1, hat, hl⟩, h2⟩ := h
  obtain ⟨us, e1, e2, e3⟩ := Z3c hw hsl r xs h2
  obtain ⟨v, h3, h4⟩ := hsl b p h1
  obtain ⟨ad, u, rfl, h5, h6⟩ := Z5l hat hl hw h4
  refine ⟨u :: us, by simp [e1], ?_, ?_⟩
  ·simp [List.mapM_cons, Sem.run_bind, resVar, Sem.run_pure, Result.andThen, e2, h3, asAddr, h5]
  ·intro j y v hy hv
   cases j with
   | zero => simp at hy hv; subst hy; subst hv; exact h6
   | succ j => exact e3 j y v (by simpa using hy) (by simpa using hv)
theorem Z3d {P : Program} {C : Ctx} {s : St} {a : Act} {w : World} {H : AHeap} {fn : Func} {xs : List AV} (hw : WR C H w) (hsl : ∀ t x, lk s.T t = some x → ∃ v, a.tmps[t]? = some v ∧ VR C x v) (h : Res P s.T H fn.results.toList xs) :
  ∃ v, (results fn a.tmps).run P w = .ok v w ∧ VR C (mkRes xs) v := by
 obtain ⟨us, e1, e2, e3⟩ := Z3c hw hsl _ _ h
 have e : (results fn a.tmps).run P w = .ok (if h : us.toArray.size = 1 then us.toArray[0] else .tuple us.toArray) w := by
  have e4 : results fn a.tmps = (do
    let vs ← fn.results.mapM (resVar a.tmps)
    pure (if h : vs.size = 1 then vs[0] else .tuple vs)) := by
   unfold results
   congr 1
  rw [e4, Array.mapM_eq_mapM_toList]
  have e5 : (List.toArray <$> List.mapM (resVar a.tmps) fn.results.toList : Sem (Array Value)) = (do let vs ← List.mapM (resVar a.tmps) fn.results.toList; pure vs.toArray) := by
   rw [map_eq_pure_bind]
  rw [e5]
  simp only [Sem.run_bind, e2, Result.andThen, Sem.run_pure]
 refine ⟨_, e, ?_⟩
 clear e e2 h
 match xs, us, e1, e3 with
 | [], [], _, _ => exact .tup _ _ rfl (by intro i c x h; simp at h)
 | [x], [u], _, e3 => exact e3 0 x u rfl rfl
 | x :: y :: xs, u :: v :: us, hl, e3 =>
  have : (u :: v :: us).toArray.size ≠ 1 := by simp
  rw [dif_neg this]
  exact .tup _ _ (by simpa using hl.symm) (fun i c z h1 h2 => e3 i c z h1 (by simpa using h2))
def RetQ (P : Program) (fn : Func) (R : AEnd → AHeap → Prop) : Exit → St → Prop
 | .normal, s | .ret, s => ∃ s', Weak s s' ∧ ∃ H' xs, s'.H.Perm (s'.D.map (fun i => (i, AObj.raw (.deferred (some [])))) ++ H') ∧ Res P s'.T H' fn.results.toList xs ∧ ∃ H'', H''.Sublist H' ∧ R (.ret (mkRes xs)) H''
 | .panic ch, s => s.D = [] ∧ R (.panic ch) s.H
 | _, _ => False
def enum (xs : List AV) : Nat → List (Nat × AV)
 | k => match xs with
  | [] => []
  | x :: r => (k, x) :: enum r (k + 1)
theorem Z8z : ∀ (xs : List AV) (k t : Nat) (x : AV), lk (enum xs k) t = some x → ∃ i, t = k + i ∧ xs[i]? = some x
 | [], k, t, x, h => by simp [enum, lk] at h
 | y :: r, k, t, x, h => by
  simp only [enum, lk] at h
  cases hb : Nat.beq k t with
  | true =>
   have e := Nat.eq_of_beq_eq_true hb
   subst e
   simp only [hb, cond_true, Option.some.injEq] at h
   exact ⟨0, rfl, by simpa using h⟩
  | false =>
   simp only [hb, cond_false] at h
   obtain ⟨i, rfl, h2⟩ := Z8z r (k + 1) t x h
   exact ⟨i + 1, by omega, by simpa using h2⟩
theorem Z5e {P : Program} {fn : Func} {Z : List Nat} {C0 : Ctx} {H0 : AHeap} {w0 : World} {T : List (Nat × AV)} {tmps : Array Value} {xs : List AV} {H' : AHeap} {R : Ending → World → Prop} {C : Ctx}
  (hsl : ∀ t x, lk T t = some x → ∃ v, tmps[t]? = some v ∧ VR C x v) (hres : Res P T H' fn.results.toList xs)
  (hR : ∀ v w, VR C (mkRes xs) v → WR C H' w → Ext Z C0 H0 w0 C H' w → R (.returned v) w) :
  ∀ (D : List Nat) (w : World), WR C (D.map (fun i => (i, AObj.raw (.deferred (some [])))) ++ H') w → Ext Z C0 H0 w0 C (D.map (fun i => (i, AObj.raw (.deferred (some [])))) ++ H') w →
   LeavesInM (Wd none) 0 P fn tmps R (D.map (mark C)) .returning w
 | [], w, hw, he => by
  simp only [List.map_nil, LeavesInM, LeavesIn]
  obtain ⟨v, h1, h2⟩ := Z3d (s := ⟨T, H', [], 0⟩) (a := ⟨tmps, []⟩) hw hsl hres
  exact ⟨v, h1, hR v w h2 hw he⟩
 | i :: D, w, hw, he => by
  simp only [List.map_cons, LeavesInM]
  refine ⟨nofun, .inl ?_⟩
  obtain ⟨hu, b, N, hm, hh⟩ := hw.ids i _ (List.mem_cons_self)
  have hb : blk C (((i, AObj.raw (.deferred (some []))) :: (D.map (fun i => (i, AObj.raw (.deferred (some [])))) ++ H'))) b := ⟨i, _, N, List.mem_cons_self, hm⟩
  have hnd := hw.nd
  simp only [List.map_cons, List.cons_append, List.nodup_cons] at hnd
  have hother : ∀ j o b' N', (j, o) ∈ D.map (fun i => (i, AObj.raw (.deferred (some [])))) ++ H' → C.m j = some (b', N') → b' ≠ b := by
   rintro j o b' N' hj hm' rfl
   have := hw.inj i j _ o b' N N' List.mem_cons_self (List.mem_cons_of_mem _ hj) hm hm'
   subst this
   exact hnd.1 (List.mem_map.2 ⟨(i, o), hj, rfl⟩)
  have hw' : WR C (D.map (fun i => (i, AObj.raw (.deferred (some [])))) ++ H') (w.putObj b (.deferred none)) := by
   refine ⟨?_, hnd.2, ?_, ?_, ?_⟩
   ·intro b' o hb'
    have hne : b' ≠ b := by rintro rfl; rw [hw.dis _ hb] at hb'; cases hb'
    rw [World.putObj_heap_other hne]
    exact hw.hp b' o hb'
   ·intro j o hj
    obtain ⟨h1, h2⟩ := hw.ids j o (List.mem_cons_of_mem _ hj)
    exact ⟨h1, h2.keep (.refl C) h1 (fun b' N' hm' => World.putObj_heap_other (hother j o b' N' hj hm'))⟩
   ·intro j k o o' b' N' N'' h1 h2
    exact hw.inj j k o o' b' N' N'' (List.mem_cons_of_mem _ h1) (List.mem_cons_of_mem _ h2)
   ·rintro b' ⟨j, o, N', h1, h2⟩
    exact hw.dis b' ⟨j, o, N', List.mem_cons_of_mem _ h1, h2⟩
  have he' : Ext Z C0 H0 w0 C (D.map (fun i => (i, AObj.raw (.deferred (some [])))) ++ H') (w.putObj b (.deferred none)) := by
   refine ⟨he.le, he.av, he.os, he.tape, he.output, by simpa using he.size, ?_, he.nhp, ?_, ?_⟩
   ·intro b' hb' hn
    rw [← he.fr b' hb' hn]
    refine World.putObj_heap_other ?_
    rintro rfl
    rcases he.nbl b' hb with h1 | h1
    ·exact hn h1
    ·omega
   ·rintro b' ⟨j, o, N', h1, h2⟩
    exact he.nbl b' ⟨j, o, N', List.mem_cons_of_mem _ h1, h2⟩
   ·intro j o h1
    exact he.nid j o (List.mem_cons_of_mem _ h1)
  refine ⟨b, w.putObj b (.deferred none), by simp [mark, hm], run_takeDeferred hh, ?_⟩
  exact Z5e hsl hres hR D _ hw' he'
theorem Zw {P : Program} {f : Nat} {fn : Func} {c : Code} {n : Nat} {xs : List AV} {H : AHeap} {R : AEnd → AHeap → Prop}
  (hf : P.funcs[f]? = some fn) (hb : fn.body = some c) (hnm : (fn.name == "runtime.NumGoroutine") = false) (hnt : fn.ntmps = n) (hn0 : Nat.ble xs.length n = true)
  (h : AWp P none c (RetQ P fn R) ⟨enum xs 0, H, [], n⟩) : ACalls P f xs H R := by
 subst hnt
 have hn : xs.length ≤ fn.ntmps := Nat.le_of_ble_eq_true hn0
 refine ⟨⟨fn, hf, by rw [hb]; rfl, hnm⟩, fun Z C w vs hw hv => ?_⟩
 refine callsIn_of_wp_marks hf hb trivial ?_ rfl
 have hs : SR C ⟨enum xs 0, H, [], fn.ntmps⟩ { tmps := vs ++ Array.replicate (fn.ntmps - vs.size) undef, defers := [] } w := by
  refine ⟨hw, ?_, rfl, nofun, ?_⟩
  ·intro t x hx
   obtain ⟨i, rfl, hi⟩ := Z8z xs 0 t x hx
   rw [Nat.zero_add]
   have hlt : i < vs.size := by rw [← hv.1]; exact (List.getElem?_eq_some_iff.1 hi).1
   have hvi : vs[i]? = some vs[i] := Array.getElem?_eq_getElem hlt
   exact ⟨vs[i], by rw [Array.getElem?_append_left hlt]; exact hvi, hv.2 i x _ hi hvi⟩
  ·have := hv.1
   simp only [Array.size_append, Array.size_replicate]
   omega
 refine wpIn_mono (h Z C H w C _ w (.refl ..) hs) ?_
 rintro e a' w' ⟨h1, C', s', hq, hs', he'⟩
 have key : ∀ s', SR C' s' a' w' → Ext Z C H w C' s'.H w' → (∃ s'', Weak s' s'' ∧ ∃ H' xs, s''.H.Perm (s''.D.map (fun i => (i, AObj.raw (.deferred (some [])))) ++ H') ∧ Res P s''.T H' fn.results.toList xs ∧ ∃ H'', H''.Sublist H' ∧ R (.ret (mkRes xs)) H'') →
   LeavesInM (Wd none) 0 P fn a'.tmps (fun e w' => ∃ C' H' x, R x H' ∧ WR C' H' w' ∧ Ext Z C H w C' H' w' ∧ ER C' x e) a'.defers .returning w' := by
  rintro s' hs' he' ⟨s'', hwk, H', ys, hp, hres, H'', hsub, hR⟩
  obtain ⟨C'', hs'', he''⟩ := hwk Z C' a' w' hs'
  have hx := he'.trans he''
  rw [hs''.df]
  exact Z5e (T := s''.T) (C := C'') (Z := Z) (C0 := C) (H0 := H) (w0 := w) hs''.sl hres (fun v w1 h1 h2 h3 => ⟨C'', H'', _, hR, h2.sub (fun p hp => hsub.subset hp) ((hsub.map Prod.fst).nodup h2.nd), h3.trans (Ext.sub (fun p hp => hsub.subset hp)), h1⟩) s''.D w' (hs''.wr.perm hp) (hx.permR hp)
 cases e with
 | normal => exact key s' hs' he' hq
 | ret => exact key s' hs' he' hq
 | panic ch =>
  obtain ⟨hD, hR⟩ := hq
  have hd : a'.defers = [] := by rw [hs'.df, hD]; rfl
  show LeavesInM (Wd none) 0 P fn a'.tmps _ a'.defers (.panicking ch) w'
  rw [hd]
  simp only [LeavesInM, LeavesIn]
  exact ⟨C', s'.H, .panic ch, hR, hs'.wr, he', rfl⟩
 | exit i => exact hq
 | goto i => exact hq
 | outgrown => exact absurd rfl h1
theorem Z4o {P : Program} {f : Nat} (h : Callable P f) (vs : Array Value) (w : World) : (callFunc f vs).run P w = .ok (.enter f vs) w := by
 obtain ⟨fn, h1, h2, h3⟩ := h
 simp only [callFunc, Sem.run_bind, program, Sem.run, Result.andThen, h1, h3, h2, Bool.false_eq_true, if_false, Sem.run_pure]
def evs (T : List (Nat × AV)) : List Operand → Option (List AV)
 | [] => some []
 | p :: r => match ev T p, evs T r with
  | some x, some xs => some (x :: xs)
  | _, _ => none
theorem Z2t {C : Ctx} {T : List (Nat × AV)} {ρ : Operand → Value} : ∀ (ps : List Operand) (xs : List AV), evs T ps = some xs → (∀ p, p ∈ ps → ∀ y, ev T p = some y → VR C y (ρ p)) →
  VRs C xs (ps.map ρ).toArray
 | [], xs, h, _ => by simp only [evs, Option.some.injEq] at h; subst h; exact ⟨rfl, by intro i x v h; simp at h⟩
 | p :: r, xs, h, hv => by
  simp only [evs] at h
  split at h
  ·rename_i x ys h1 h2
   simp only [Option.some.injEq] at h
   subst h
   obtain ⟨h3, h4⟩ := Z2t r ys h2 (fun q hq => hv q (List.mem_cons_of_mem _ hq))
   refine ⟨by simpa using h3, fun i y v hy hvv => ?_⟩
   cases i with
   | zero => simp at hy hvv; subst hy; subst hvv; exact hv p List.mem_cons_self x h1
   | succ i => exact h4 i y v (by simpa using hy) (by simpa using hvv)
  ·cases h
theorem VRs.append {C : Ctx} {xs ys : List AV} {vs us : Array Value} (h : VRs C xs vs) (k : VRs C ys us) : VRs C (xs ++ ys) (vs ++ us) := by
 refine ⟨by simp [h.1, k.1], fun i x v hx hv => ?_⟩
 rw [List.getElem?_append] at hx
 rw [Array.getElem?_append] at hv
 rw [h.1] at hx
 split at hx
 ·rename_i hlt; rw [if_pos hlt] at hv; exact h.2 i x v hx hv
 ·rename_i hlt; rw [if_neg hlt] at hv; exact k.2 _ x v hx hv
theorem Z2x {P : Program} {C : Ctx} {o : Oper} {fo : Operand} {args : Array Operand} {ats : Array TypeId} {f : Nat} {caps xs : List AV} {T : List (Nat × AV)} {a : Act} (ho : o.op = .call { callee := .value fo, args := args, argTypes := ats })
  (hfo : ev T fo = some (.fn (.func f) caps)) (hxs : evs T args.toList = some xs) (hc : Callable P f) (hv : ∀ p, p ∈ o.op.operands → ∀ y, ev T p = some y → VR C y (a.eval p)) (ro : Option Nat) (w : World) :
  ∃ vs, VRs C (xs ++ caps) vs ∧ (o.semAt ro a.eval).run P w = .ok (.enter f vs) w := by
 have hmem : ∀ p, p ∈ args.toList → p ∈ o.op.operands := fun p hp => by
  rw [ho]; simp only [Op.operands, Call.operands]; exact Array.mem_append.2 (.inr (by simpa using hp))
 have hmf : fo ∈ o.op.operands := by rw [ho]; simp [Op.operands, Call.operands]
 have h1 := Z2t (ρ := a.eval) args.toList xs hxs (fun p hp => hv p (hmem p hp))
 have h2 := hv fo hmf _ hfo
 cases he : a.eval fo with
 | func fn first vs2 =>
  rw [he] at h2
  cases h2 with
  | fn _ _ _ hl hh =>
   refine ⟨(args.toList.map a.eval).toArray ++ vs2, h1.append ⟨hl, hh⟩, ?_⟩
   rw [Oper.semAt_eq _ _ _ (by intro c; rw [ho]; nofun)]
   simp only [execOp, ho, Sem.run_bind, resolve, Deferred.ofValue, he, Sem.run_pure, Result.andThen, invoke]
   rw [Z4o hc]
   congr 2
   apply Array.ext'
   simp
 | _ => rw [he] at h2; cases h2
theorem Z5n {P : Program} {ro : Option Nat} {s : St} {o : Oper} {fo : Operand} {args : Array Operand} {ats : Array TypeId} {f : Nat} {caps xs : List AV} {K : St → Prop} {KP : List PanicEntry → St → Prop} {R : AEnd → AHeap → Prop} (Hf Fr : AHeap)
  (ho : o.op = .call { callee := .value fo, args := args, argTypes := ats }) (hfo : ev s.T fo = some (.fn (.func f) caps)) (hxs : evs s.T args.toList = some xs) (hp : s.H.Perm (Hf ++ Fr))
  (hd : dok o.dst s.n = true) (hc : ACalls P f (xs ++ caps) Hf R)
  (hk : ∀ x H', R (.ret x) H' → K { s with T := put s.T o.dst x, H := H' ++ Fr }) (hkp : ∀ ch H', R (.panic ch) H' → KP ch { s with H := H' ++ Fr }) : Step P ro o K KP s := by
 intro Z C0 H0 w0 C a w he hs
 obtain ⟨vs, h1, h2⟩ := Z2x ho hfo hxs hc.ok (fun p _ y hy => hs.ev hy) ro w
 rw [h2]
 refine ⟨nofun, ?_⟩
 refine ((hc.frame s.H Fr hp).run Z C w vs hs.wr h1).mono ?_
 rintro e w' ⟨C', K', x, ⟨H', hR, rfl⟩, hw', he', hx⟩
 cases e with
 | returned v =>
  cases x with
  | ret x => exact ⟨C', _, hk x H' hR, hs.put he'.le hw' (Z0k hd) hx, he.trans he'⟩
  | panic ch => exact hx.elim
 | panicked ch =>
  cases x with
  | ret x => exact hx.elim
  | panic ch' =>
   have e : ch = ch' := hx
   subst e
   refine ⟨C', _, hkp ch H' hR, ⟨hw', fun t y hy => let ⟨u, h1, h2⟩ := hs.sl t y hy; ⟨u, h1, h2.mono he'.le⟩, ?_, fun i hi => he'.le.U i (hs.du i hi), hs.sz⟩, he.trans he'⟩
   rw [hs.df]; exact List.map_congr_left fun i hi => by simp [mark, he'.le.m i (hs.du i hi), he'.le.df i (hs.du i hi)]
 | outgrown => cases x <;> exact hx.elim
theorem Z4i : ∀ (Hn H : AHeap), (∀ p, p ∈ Hn → p ∈ H) → (Hn.map Prod.fst).Nodup → ∃ Fr, H.Perm (Hn ++ Fr)
 | [], H, _, _ => ⟨H, .refl _⟩
 | p :: r, H, h, hn => by
  obtain ⟨s, t, rfl⟩ := List.append_of_mem (h p List.mem_cons_self)
  simp only [List.map_cons, List.nodup_cons] at hn
  have h1 : ∀ q, q ∈ r → q ∈ s ++ t := fun q hq => by
   have h2 := h q (List.mem_cons_of_mem _ hq)
   rcases List.mem_append.1 h2 with h3 | h3
   ·exact List.mem_append_left _ h3
   ·rcases List.mem_cons.1 h3 with rfl | h4
    ·exact (hn.1 (List.mem_map.2 ⟨q, hq, rfl⟩)).elim
    ·exact List.mem_append_right _ h4
  obtain ⟨Fr, hp⟩ := Z4i r (s ++ t) h1 hn.2
  exact ⟨Fr, List.perm_middle.trans (hp.cons p)⟩
theorem Zq {P : Program} {T : List (Nat × AV)} {o : Oper} {fo : Operand} {args : Array Operand} {ats : Array TypeId} {f : Nat} {caps xs : List AV} {x : AV} (Hn : AHeap)
  (ho : o.op = .call { callee := .value fo, args := args, argTypes := ats }) (hfo : ev T fo = some (.fn (.func f) caps)) (hxs : evs T args.toList = some xs)
  (hc : ACalls P f (xs ++ caps) Hn (fun e H' => e = .ret x ∧ H' = Hn)) (hnd : (Hn.map Prod.fst).Nodup) : Eff P o T Hn x [] := by
 intro Z C H a w hw hn hv _ _ _ ro next R hk
 obtain ⟨vs, h1, h2⟩ := Z2x ho hfo hxs hc.ok hv ro w
 rw [h2]
 refine ⟨nofun, ?_⟩
 obtain ⟨Fr, hp⟩ := Z4i Hn H hn hnd
 refine ((hc.frame H Fr hp).run Z C w vs hw h1).mono ?_
 rintro e w' ⟨C', K', y, ⟨H', ⟨hR, rfl⟩, rfl⟩, hw', he', hx⟩
 subst hR
 cases e with
 | returned v => exact hk v w' C' hx (hw'.perm hp.symm) (he'.permR hp.symm)
 | panicked ch => exact hx.elim
 | outgrown => exact hx.elim
end Go.Sx
namespace Go.Sx
open Go
class TK (P : Program) (t : TypeId) (b : outParam Bool) (n : outParam Nat) : Prop where
 tk : P.tk t = some (b, n)
class UD (P : Program) (t : TypeId) (d : outParam TypeDesc) : Prop where
 ud : P.underlying t = some d
def _root_.Go.Program.fo (P : Program) (s f : Nat) : Option (Nat × Nat) :=
 match P.underlying s with
 | some (.struct fs) => match fs[f]? with
  | some g => match P.info? g.type with
   | some i => if i.size = 0 then none else some (g.offset, g.type)
   | none => none
  | none => none
 | _ => none
class FO (P : Program) (s f : Nat) (off ft : outParam Nat) : Prop where
 fo : P.fo s f = some (off, ft)
def _root_.Go.Program.zc (P : Program) (t : TypeId) : Option (List Value) :=
 match P.info? t with
 | some i => i.zero.map (·.cells.toList)
 | none => none
class ZC (P : Program) (t : TypeId) (zs : outParam (List Value)) : Prop where
 zc : P.zc t = some zs
section
variable {P : Program} {T : List (Nat × AV)} {o : Oper}
theorem run_underlying {t : TypeId} {d : TypeDesc} [h : UD P t d] (w : World) : (underlying t).run P w = .ok d w := by
 simp only [underlying, program, Sem.run_bind, Sem.run, Result.andThen, h.ud, Sem.run_pure]
theorem Z01 {Hn : AHeap} {x : AV} (hd : ∀ c, o.op ≠ .defer c)
  (h : ∀ (C : Ctx) (H : AHeap) (a : Act) (w : World), WR C H w → (∀ p, p ∈ Hn → p ∈ H) → (∀ p, p ∈ o.op.operands → ∀ y, ev T p = some y → VR C y (a.eval p)) →
   ∃ v, (execOp a.eval o).run P w = .ok (.value v) w ∧ VR C x v) : Eff P o T Hn x [] := by
 intro Z C H a w hw hn hv _ _ _ ro next R hk
 obtain ⟨v, h1, h2⟩ := h C H a w hw hn hv
 rw [Oper.semAt_eq _ _ _ hd, h1]
 exact hk v w C h2 hw (.refl ..)
theorem Z7 {p : Operand} {x : AV} (ho : o.op = .move p) (hx : ev T p = some x) : Eff P o T [] x [] :=
 Z01 (by intro c; rw [ho]; nofun) fun C H a w _ _ hv => ⟨a.eval p, by simp [execOp, ho], hv p (by rw [ho]; simp [Op.operands]) x hx⟩
theorem Zp {p : Operand} {x : AV} (ho : o.op = .assign p) (hx : ev T p = some x) : Eff P o T [] x [] :=
 Z01 (by intro c; rw [ho]; nofun) fun C H a w _ _ hv => ⟨a.eval p, by simp [execOp, ho], hv p (by rw [ho]; simp [Op.operands]) x hx⟩
theorem Z17 {c p q : Operand} {t : Bool} {x y : AV} (ho : o.op = .pick c p q) (hc : ev T c = some (.v (.bool t))) (hx : ev T p = some x) (hy : ev T q = some y) : Eff P o T [] (if t then x else y) [] :=
 Z01 (by intro c; rw [ho]; nofun) fun C H a w _ _ hv => by
  have h1 := VR.val (hv c (by rw [ho]; simp [Op.operands]) _ hc)
  have h2 := hv p (by rw [ho]; simp [Op.operands]) _ hx
  have h3 := hv q (by rw [ho]; simp [Op.operands]) _ hy
  refine ⟨if t then a.eval p else a.eval q, ?_, ?_⟩
  ·simp [execOp, ho, h1, asBool, Sem.run_bind, Result.andThen]
  ·cases t <;> assumption
theorem Z1l {t : TypeId} {p : Operand} {y x : AV} {l : List AV} {Hn : AHeap} (ho : o.op = .load t p) (hp : ev T p = some y) (hat : At Hn y l) (hl : Ld P t l x) : Eff P o T Hn x [] :=
 Z01 (by intro c; rw [ho]; nofun) fun C H a w hw hn hv => by
  have hat' : At H y l := by
   cases y with
   | ptr id sz i c => obtain ⟨el, es, e, h1, h2⟩ := hat; exact ⟨el, es, e, hn _ h1, h2⟩
   | elt es i c => exact hat
   | _ => exact hat.elim
  obtain ⟨ad, u, h1, h2, h3⟩ := Z5l hat' hl hw (hv p (by rw [ho]; simp [Op.operands]) _ hp)
  exact ⟨u, by simp [execOp, ho, Instr.loadAt, h1, Instr.sureAddr, h2, Sem.run_bind, Result.andThen], h3⟩
theorem Z0t {t : TypeId} {n : Nat} [h : TK P t false n] {x : AV} {r : List AV} : Ld P t (x :: r) x := .inl ⟨n, r, h.tk, rfl⟩
theorem Zc5 {t : TypeId} {n : Nat} [h : TK P t true n] {l : List AV} (hn : n ≤ l.length) : Ld P t l (.agg (l.take n)) := .inr ⟨n, h.tk, hn, rfl⟩
theorem Z3i (b off k : Nat) : (Addr.add ⟨b, off, none⟩ k) = ⟨b, off + k, none⟩ := by
 unfold Addr.add
 split
 ·rename_i h; subst h; rfl
 ·rfl
def plus : AV → Nat → Option AV
 | .ptr id sz i c, k => some (.ptr id sz i (c + k))
 | .elt es i c, k => some (.elt es i (c + k))
 | _, _ => none
theorem Z81 {C : Ctx} {y z : AV} {k : Nat} {v : Value} (h : plus y k = some z) (hv : VR C y v) : ∃ a, v = .pointer (some a) ∧ VR C z (.pointer (some (a.add k))) := by
 cases hv with
 | ptr id sz i c b N hid hu =>
  simp only [plus, Option.some.injEq] at h
  subst h
  refine ⟨_, rfl, ?_⟩
  rw [Z3i, Nat.add_assoc]
  exact .ptr id sz i (c + k) b N hid hu
 | elt es i c a sz cap n hl hz hi =>
  simp only [plus, Option.some.injEq] at h
  subst h
  refine ⟨_, rfl, ?_⟩
  rw [Z3i, Nat.add_assoc]
  exact .elt es i (c + k) a sz cap n hl hz hi
 | _ => cases h
theorem Z0j {s f off ft : Nat} {p : Operand} {y z : AV} [h : FO P s f off ft] (ho : o.op = .fieldAddr s p f) (hp : ev T p = some y) (hz : plus y off = some z) : Eff P o T [] z [] :=
 Z01 (by intro c; rw [ho]; nofun) fun C H a w hw hn hv => by
  obtain ⟨ad, h1, h2⟩ := Z81 hz (hv p (by rw [ho]; simp [Op.operands]) _ hp)
  refine ⟨_, ?_, h2⟩
  have hf := h.fo
  unfold Program.fo at hf
  split at hf
  ·rename_i fs hu
   split at hf
   ·rename_i g hg
    split at hf
    ·rename_i i hi
     split at hf
     ·cases hf
     ·rename_i hne
      simp only [Option.some.injEq, Prod.mk.injEq] at hf
      obtain ⟨rfl, rfl⟩ := hf
      simp [execOp, ho, Instr.fieldAt, underlying, program, Sem.run, hu, hg, h1, Instr.sureAddr, fieldPlace, sizeOf, typeInfo, hi, hne, Sem.run_bind, Result.andThen]
    ·cases hf
   ·cases hf
  ·cases hf
def partA (b : Bool) (n off : Nat) (cs : List AV) : Option AV := if b then some (.agg ((cs.drop off).take n)) else cs[off]?
theorem Ze7 {C : Ctx} {t : TypeId} {b : Bool} {n off : Nat} {cs : List AV} {x : AV} {vs : Array Value} (h : P.tk t = some (b, n)) (hx : partA b n off cs = some x) (hl : cs.length = vs.size)
  (hv : ∀ (i : Nat) (c : AV) (x : Value), cs[i]? = some c → vs[i]? = some x → VR C c x) (w : World) : ∃ u, (part t vs off).run P w = .ok u w ∧ VR C x u := by
 cases b with
 | true =>
  simp only [partA, if_true, Option.some.injEq] at hx
  subst hx
  refine ⟨.agg (vs.extract off (off + n)), by simp [part, Sem.run_bind, Z27 h, Z0g h, Result.andThen], ?_⟩
  refine .agg _ _ ?_ ?_
  ·simp; omega
  ·intro i c u h1 h2
   rw [List.getElem?_take] at h1
   split at h1
   ·rw [List.getElem?_drop] at h1
    rw [Array.getElem?_extract] at h2
    split at h2
    ·exact hv _ c u h1 h2
    ·cases h2
   ·cases h1
 | false =>
  simp only [partA, Bool.false_eq_true, if_false] at hx
  have hlt : off < vs.size := by rw [← hl]; exact (List.getElem?_eq_some_iff.1 hx).1
  have hg : vs[off]? = some vs[off] := Array.getElem?_eq_getElem hlt
  exact ⟨vs[off], by simp [part, Sem.run_bind, Z27 h, Result.andThen, hg], hv off x _ hx hg⟩
theorem VR.aggInv {C : Ctx} {cs : List AV} {v : Value} (h : VR C (.agg cs) v) : ∃ vs, v = .agg vs ∧ cs.length = vs.size ∧ ∀ (i : Nat) (c : AV) (x : Value), cs[i]? = some c → vs[i]? = some x → VR C c x := by
 cases h with
 | agg _ vs hl h => exact ⟨vs, rfl, hl, h⟩
theorem Zbp {s f off ft n : Nat} {b : Bool} {p : Operand} {cs : List AV} {x : AV} [h : FO P s f off ft] [k : TK P ft b n] (ho : o.op = .field s p f) (hp : ev T p = some (.agg cs)) (hx : partA b n off cs = some x) : Eff P o T [] x [] :=
 Z01 (by intro c; rw [ho]; nofun) fun C H a w hw hn hv => by
  obtain ⟨vs, h1, hl, h2⟩ := (hv p (by rw [ho]; simp [Op.operands]) _ hp).aggInv
  obtain ⟨u, h3, h4⟩ := Ze7 k.tk hx hl h2 w
  refine ⟨u, ?_, h4⟩
  have hf := h.fo
  unfold Program.fo at hf
  split at hf
  ·rename_i fs hu
   split at hf
   ·rename_i g hg
    split at hf
    ·rename_i i hi
     split at hf
     ·cases hf
     ·rename_i hne
      simp only [Option.some.injEq, Prod.mk.injEq] at hf
      obtain ⟨rfl, rfl⟩ := hf
      simp [execOp, ho, Instr.field, underlying, program, Sem.run, hu, hg, h1, asAgg, h3, Sem.run_bind, Result.andThen]
    ·cases hf
   ·cases hf
  ·cases hf
def nth : AV → Int → Option AV
 | .lst es, k => if 0 ≤ k ∧ k < es.length then some (.elt es k.toNat 0) else none
 | .own id sz off len, k => if 0 ≤ k ∧ k < len then some (.ptr id sz (off + k.toNat) 0) else none
 | _, _ => none
theorem Z0u {t e n : Nat} {b : Bool} {p q : Operand} {es : List (List AV)} {kd : IntKind} {k : Int} [h : UD P t (.slice e)] [k1 : TK P e b n] (ho : o.op = .indexAddr t p q)
  (hp : ev T p = some (.lst es)) (hq : ev T q = some (.v (.int kd k))) (hes : ∀ x : List AV, x ∈ es → x.length = n) (h0 : 0 ≤ k) (h1 : k < es.length) : Eff P o T [] (.elt es k.toNat 0) [] :=
 Z01 (by intro c; rw [ho]; nofun) fun C H a w hw hn hv => by
  have h2 := hv p (by rw [ho]; simp [Op.operands]) _ hp
  have h3 := VR.val (hv q (by rw [ho]; simp [Op.operands]) _ hq)
  cases hpv : a.eval p with
  | slice ad len cap =>
   rw [hpv] at h2
   have h2' := h2
   cases h2 with
   | lstNil => simp at h1; omega
   | lst _ a' sz cap cells elem fz xs hs hb hz hc hvv ho' hcap =>
    have hlt : k.toNat < es.length := by omega
    have hsz : sz = n := by
     have hm := List.getElem_mem hlt
     rw [← hz _ hm, hes _ hm]
    subst hsz
    refine ⟨.pointer (some (a'.add (k.toNat * sz))), ?_, ?_⟩
    ·have hi : (0 ≤ k ∧ k < (es.length : Int)) := ⟨h0, h1⟩
     simp [execOp, ho, Instr.indexAt, hpv, h3, asIntOf, run_underlying (d := .slice e), Z0g k1.tk, hi, Sem.run_bind, Result.andThen]
    ·rw [show a'.add (k.toNat * sz) = ⟨a'.block, a'.off + k.toNat * sz + 0, none⟩ from by
      unfold Addr.add
      split
      ·rename_i h0; rw [h0]; have hs := hs (by rintro rfl; simp at hlt); cases a'; simp at hs; simp [hs]
      ·simp]
     exact .elt es k.toNat 0 a' sz cap es.length h2' hz hlt
  | _ => rw [hpv] at h2; cases h2
theorem Z22 {t e n : Nat} {b : Bool} {p q : Operand} {id off len : Nat} {kd : IntKind} {k : Int} [h : UD P t (.slice e)] [k1 : TK P e b n] (ho : o.op = .indexAddr t p q)
  (hp : ev T p = some (.own id n off len)) (hq : ev T q = some (.v (.int kd k))) (h0 : 0 ≤ k) (h1 : k < len) : Eff P o T [] (.ptr id n (off + k.toNat) 0) [] :=
 Z01 (by intro c; rw [ho]; nofun) fun C H a w hw hn hv => by
  have h2 := hv p (by rw [ho]; simp [Op.operands]) _ hp
  have h3 := VR.val (hv q (by rw [ho]; simp [Op.operands]) _ hq)
  cases hpv : a.eval p with
  | slice ad len' cap =>
   rw [hpv] at h2
   cases h2 with
   | ownNil => simp at h1; omega
   | own _ _ _ _ b N cap hid hu hcap hlen =>
    refine ⟨.pointer (some ((⟨b, off * n, none⟩ : Addr).add (k.toNat * n))), ?_, ?_⟩
    ·have hi : (0 ≤ k ∧ k < (len : Int)) := ⟨h0, h1⟩
     simp [execOp, ho, Instr.indexAt, hpv, h3, asIntOf, run_underlying (d := .slice e), Z0g k1.tk, hi, Sem.run_bind, Result.andThen]
    ·rw [show (⟨b, off * n, none⟩ : Addr).add (k.toNat * n) = ⟨b, (off + k.toNat) * n + 0, none⟩ from by
      simp [Addr.add, Nat.add_mul]]
     exact .ptr id n (off + k.toNat) 0 b N hid hu
  | _ => rw [hpv] at h2; cases h2
theorem Z47 {t e n m : Nat} {b : Bool} {p q : Operand} {y z : AV} {kd : IntKind} {k : Int} [h : UD P t (.array m e)] [k1 : TK P e b n] (ho : o.op = .indexAddr t p q)
  (hp : ev T p = some y) (hq : ev T q = some (.v (.int kd k))) (h0 : 0 ≤ k) (h1 : k < m) (hz : plus y (k.toNat * n) = some z) : Eff P o T [] z [] :=
 Z01 (by intro c; rw [ho]; nofun) fun C H a w hw hn hv => by
  obtain ⟨ad, h2, h2'⟩ := Z81 hz (hv p (by rw [ho]; simp [Op.operands]) _ hp)
  have h3 := VR.val (hv q (by rw [ho]; simp [Op.operands]) _ hq)
  refine ⟨_, ?_, h2'⟩
  have hi : (0 ≤ k ∧ k < (m : Int)) := ⟨h0, h1⟩
  simp [execOp, ho, Instr.indexAt, h2, h3, asIntOf, Instr.sureAddr, run_underlying (d := .array m e), Z0g k1.tk, hi, Sem.run_bind, Result.andThen]
theorem Z6i {t : Nat} {p q : Operand} {s : ByteArray} {kd : IntKind} {k : Int} {c : UInt8} [h : UD P t .string] (ho : o.op = .index t p q)
  (hp : ev T p = some (.v (.string s))) (hq : ev T q = some (.v (.int kd k))) (h0 : 0 ≤ k) (h1 : s[k.toNat]? = some c) : Eff P o T [] (.v (.int .u8 c.toNat)) [] :=
 Z01 (by intro c; rw [ho]; nofun) fun C H a w hw hn hv => by
  have h2 := VR.val (hv p (by rw [ho]; simp [Op.operands]) _ hp)
  have h3 := VR.val (hv q (by rw [ho]; simp [Op.operands]) _ hq)
  refine ⟨.int .u8 c.toNat, ?_, .v _⟩
  simp [execOp, ho, Instr.index, h2, h3, asIntOf, run_underlying (d := .string), h0, h1, Sem.run_bind, Result.andThen]
def arith : BinOp → IntKind → Int → Int → Option Int
 | .add, k, x, y => some (k.wrap (x + y))
 | .sub, k, x, y => some (k.wrap (x - y))
 | .mul, k, x, y => some (k.wrap (x * y))
 | _, _, _, _ => none
def icmp : BinOp → Int → Int → Option Bool
 | .eql, x, y => some (x == y)
 | .neq, x, y => some (x != y)
 | .lss, x, y => some (decide (x < y))
 | .leq, x, y => some (decide (x ≤ y))
 | .gtr, x, y => some (decide (x > y))
 | .geq, x, y => some (decide (x ≥ y))
 | _, _, _ => none
def scmp : BinOp → ByteArray → ByteArray → Option Bool
 | .eql, x, y => some (x.toList == y.toList)
 | .neq, x, y => some (!(x.toList == y.toList))
 | .lss, x, y => some (Op.bytesLess x.toList y.toList)
 | .leq, x, y => some (Op.bytesLess x.toList y.toList || x.toList == y.toList)
 | .gtr, x, y => some (!(Op.bytesLess x.toList y.toList || x.toList == y.toList))
 | .geq, x, y => some (!(Op.bytesLess x.toList y.toList))
 | _, _, _ => none
theorem Z6 {b : BinOp} {t t' : TypeId} {p q : Operand} {k : IntKind} {x y z : Int} (ho : o.op = .binOp b t p q t') (hp : ev T p = some (.v (.int k x))) (hq : ev T q = some (.v (.int k y))) (hz : arith b k x y = some z) : Eff P o T [] (.v (.int k z)) [] :=
 Z01 (by intro c; rw [ho]; nofun) fun C H a w hw hn hv => by
  have h2 := VR.val (hv p (by rw [ho]; simp [Op.operands]) _ hp)
  have h3 := VR.val (hv q (by rw [ho]; simp [Op.operands]) _ hq)
  refine ⟨.int k z, ?_, .v _⟩
  cases b <;> simp only [arith, Option.some.injEq, reduceCtorEq] at hz <;> subst hz <;>
   simp [execOp, ho, h2, h3, eqGuard, binOp, Op.intArith, Sem.run_bind, Result.andThen]
theorem Zb {b : BinOp} {t t' : TypeId} {p q : Operand} {k : IntKind} {x y : Int} {z : Bool} (ho : o.op = .binOp b t p q t') (hp : ev T p = some (.v (.int k x))) (hq : ev T q = some (.v (.int k y))) (hz : icmp b x y = some z) : Eff P o T [] (.v (.bool z)) [] :=
 Z01 (by intro c; rw [ho]; nofun) fun C H a w hw hn hv => by
  have h2 := VR.val (hv p (by rw [ho]; simp [Op.operands]) _ hp)
  have h3 := VR.val (hv q (by rw [ho]; simp [Op.operands]) _ hq)
  refine ⟨.bool z, ?_, .v _⟩
  cases b <;> simp only [icmp, Option.some.injEq, reduceCtorEq] at hz <;> subst hz <;>
   simp [execOp, ho, h2, h3, eqGuard, binOp, Op.intCmp, Sem.run_bind, Result.andThen]
theorem Z0v {b : BinOp} {t t' : TypeId} {p q : Operand} {x y : ByteArray} {z : Bool} (ho : o.op = .binOp b t p q t') (hp : ev T p = some (.v (.string x))) (hq : ev T q = some (.v (.string y))) (hz : scmp b x y = some z) : Eff P o T [] (.v (.bool z)) [] :=
 Z01 (by intro c; rw [ho]; nofun) fun C H a w hw hn hv => by
  have h2 := VR.val (hv p (by rw [ho]; simp [Op.operands]) _ hp)
  have h3 := VR.val (hv q (by rw [ho]; simp [Op.operands]) _ hq)
  refine ⟨.bool z, ?_, .v _⟩
  cases b <;> simp only [scmp, Option.some.injEq, reduceCtorEq] at hz <;> subst hz <;>
   simp [execOp, ho, h2, h3, eqGuard, binOp, Op.stringOp, Sem.run_bind, Result.andThen]
theorem Z0m {t : TypeId} {p : Operand} {x : Bool} (ho : o.op = .unOp .not t p) (hp : ev T p = some (.v (.bool x))) : Eff P o T [] (.v (.bool (!x))) [] :=
 Z01 (by intro c; rw [ho]; nofun) fun C H a w hw hn hv => by
  have h2 := VR.val (hv p (by rw [ho]; simp [Op.operands]) _ hp)
  exact ⟨.bool (!x), by simp [execOp, ho, h2, Op.unary, Sem.run_bind, Result.andThen], .v _⟩
theorem Z00 {s t : TypeId} {p : Operand} {k k' : IntKind} {x : Int} {d : TypeDesc} [h : UD P s d] [h' : UD P t (.int k')] (ho : o.op = .convert s t p) (hp : ev T p = some (.v (.int k x))) : Eff P o T [] (.v (.int k' (k'.wrap x))) [] :=
 Z01 (by intro c; rw [ho]; nofun) fun C H a w hw hn hv => by
  have h2 := VR.val (hv p (by rw [ho]; simp [Op.operands]) _ hp)
  refine ⟨.int k' (k'.wrap x), ?_, .v _⟩
  cases d <;> simp [execOp, ho, h2, convert, run_underlying (t := s), run_underlying (t := t) (d := .int k'), Conv.intToInt, Sem.run_bind, Result.andThen]
def lenA : AV → Option Nat
 | .lst es => some es.length
 | .own _ _ _ len => some len
 | .v (.string s) => some s.size
 | .v (.slice none 0 0) => some 0
 | _ => none
def lenT : AV → TypeDesc → Bool
 | .v (.string _), .string => true
 | .lst _, .slice _ => true
 | .own .., .slice _ => true
 | .v (.slice ..), .slice _ => true
 | _, _ => false
theorem Z1p {p : Operand} {t : TypeId} {d : TypeDesc} {x : AV} {n : Nat} [h : UD P t d] (ho : o.op = .call { callee := .builtin .len, args := #[p], argTypes := #[t] }) (hp : ev T p = some x) (hx : lenA x = some n)
  (hd : lenT x d = true) : Eff P o T [] (.v (.int .i64 n)) [] :=
 Z01 (by intro c; rw [ho]; nofun) fun C H a w hw hn hv => by
  have h2 := hv p (by rw [ho]; simp [Op.operands, Call.operands]) _ hp
  refine ⟨.int .i64 n, ?_, .v _⟩
  have key : ∀ v, a.eval p = v → (∃ ad c, v = .slice ad n c ∧ ∃ e, d = .slice e) ∨ (∃ s : ByteArray, v = .string s ∧ s.size = n ∧ d = .string) → (execOp a.eval o).run P w = .ok (.value (.int .i64 n)) w := by
   rintro v hv' (⟨ad, c, rfl, e, rfl⟩ | ⟨s, rfl, rfl, rfl⟩) <;>
    simp [execOp, ho, resolve, invoke, builtin, Builtin.len_, hv', run_underlying (t := t), goInt, Sem.run_bind, Result.andThen]
  refine key _ rfl ?_
  clear key
  generalize a.eval p = u at h2
  have sl : ∀ y : AV, lenT y d = true → (match y with | .v (.string _) => False | _ => True) → ∃ e, d = .slice e := by
   intro y hy hn
   unfold lenT at hy
   split at hy <;> first | exact hn.elim | exact ⟨_, rfl⟩ | cases hy
  cases h2 with
  | lstNil => simp only [lenA, Option.some.injEq] at hx; subst hx; exact .inl ⟨_, _, rfl, sl _ hd trivial⟩
  | lst => simp only [lenA, Option.some.injEq] at hx; subst hx; exact .inl ⟨_, _, rfl, sl _ hd trivial⟩
  | own => simp only [lenA, Option.some.injEq] at hx; subst hx; exact .inl ⟨_, _, rfl, sl _ hd trivial⟩
  | ownNil => simp only [lenA, Option.some.injEq] at hx; subst hx; exact .inl ⟨_, _, rfl, sl _ hd trivial⟩
  | v =>
   cases u with
   | string s =>
    simp only [lenA, Option.some.injEq] at hx
    refine .inr ⟨s, rfl, hx, ?_⟩
    cases d <;> first | rfl | (simp [lenT] at hd)
   | slice ad l c =>
    have := sl _ hd trivial
    unfold lenA at hx
    split at hx <;> first | (rename_i heq; cases heq; done) | (rename_i heq; cases heq; simp only [Option.some.injEq] at hx; subst hx; exact .inl ⟨_, _, rfl, this⟩) | cases hx
   | _ => simp [lenA] at hx
  | _ => simp [lenA] at hx
theorem Zt {p : Operand} {i : Nat} {cs : List AV} {x : AV} (ho : o.op = .extract p i) (hp : ev T p = some (.tup cs)) (hx : cs[i]? = some x) : Eff P o T [] x [] :=
 Z01 (by intro c; rw [ho]; nofun) fun C H a w hw hn hv => by
  have h2 := hv p (by rw [ho]; simp [Op.operands]) _ hp
  cases hpv : a.eval p with
  | tuple vs =>
   rw [hpv] at h2
   cases h2 with
   | tup _ _ hl hh =>
    have hlt : i < vs.size := by rw [← hl]; exact (List.getElem?_eq_some_iff.1 hx).1
    have hg : vs[i]? = some vs[i] := Array.getElem?_eq_getElem hlt
    exact ⟨vs[i], by simp [execOp, ho, Instr.extract, hpv, hg, Sem.run_bind, Result.andThen], hh i x _ hx hg⟩
  | _ => rw [hpv] at h2; cases h2
theorem Z1v {f : Fn} {caps : Array Operand} {xs : List AV} (ho : o.op = .makeFunc f #[] caps) (hxs : evs T caps.toList = some xs) : Eff P o T [] (.fn f xs) [] :=
 Z01 (by intro c; rw [ho]; nofun) fun C H a w hw hn hv => by
  have h1 := Z2t (ρ := a.eval) caps.toList xs hxs (fun p hp => hv p (by rw [ho]; simpa [Op.operands] using hp))
  refine ⟨.func f #[] (caps.toList.map a.eval).toArray, ?_, .fn _ _ _ h1.1 h1.2⟩
  have e : Array.map a.eval caps = (List.map a.eval caps.toList).toArray := by apply Array.ext'; simp
  simp [execOp, ho, Instr.makeFunc, Sem.run_bind, Result.andThen, e]
def isPtr : AV → Bool
 | .ptr .. => true
 | .elt .. => true
 | _ => false
theorem Z0c {p : Operand} {x : AV} (ho : o.op = .nilCheck p) (hp : ev T p = some x) (hx : isPtr x = true) : Eff P o T [] x [] :=
 Z01 (by intro c; rw [ho]; nofun) fun C H a w hw hn hv => by
  have h2 := hv p (by rw [ho]; simp [Op.operands]) _ hp
  refine ⟨a.eval p, ?_, h2⟩
  simp only [execOp, ho]
  generalize a.eval p = u at h2 ⊢
  cases h2 <;> first | rfl | (simp [isPtr] at hx)
end
end Go.Sx
namespace Go.Sx
open Go
def Ctx.bind (C : Ctx) (id b N : Nat) : Ctx := { C with m := fun i => if i = id then some (b, N) else C.m i, U := id :: C.U }
theorem Ctx.le_bind {C : Ctx} {id b N : Nat} (h : id ∉ C.U) : C.Le (C.bind id b N) :=
 ⟨fun _ _ h => h, fun i hi => if_neg (fun e : i = id => h (by rw [← e]; exact hi)), fun i hi => List.mem_cons_of_mem _ hi, fun _ _ => rfl⟩
theorem Ctx.bind_m (C : Ctx) (id b N : Nat) : (C.bind id b N).m id = some (b, N) := if_pos rfl
theorem Z83 {Z : List Nat} {C C' : Ctx} {R : AHeap} {w w' : World} {id id' : Nat} {o o' : AObj} (hw : WR C ((id, o) :: R) w) (hle : C.Le C') (hhp : C'.hp = C.hp)
  (hid : id' = id ∨ id' ∉ C.U) (hu : id' ∈ C'.U) (hav : ∀ z, z ∈ Z → z ∉ C.U → z ∉ C'.U) (h1 : w'.os = w.os) (h2 : w'.tape = w.tape) (h3 : w'.output = w.output) (hsz : w.heap.size ≤ w'.heap.size)
  (hb : ∀ b N, C'.m id' = some (b, N) → (∃ N', C.m id = some (b, N')) ∨ w.heap.size ≤ b)
  (hk : ∀ b, b < w.heap.size → (∀ N, C.m id ≠ some (b, N)) → w'.heap[b]? = w.heap[b]?) (hor : OR C' id' w' o') :
  WR C' ((id', o') :: R) w' ∧ Ext Z C ((id, o) :: R) w C' ((id', o') :: R) w' := by
 have hnd := hw.nd
 simp only [List.map_cons, List.nodup_cons] at hnd
 have hlt : ∀ b, blk C ((id, o) :: R) b → b < w.heap.size := fun b h => hw.lt h
 have hne : ∀ j o'' b N N', (j, o'') ∈ R → C.m j = some (b, N) → C.m id ≠ some (b, N') := by
  intro j o'' b N N' hj hm hm'
  have := hw.inj id j o o'' b N' N List.mem_cons_self (List.mem_cons_of_mem _ hj) hm' hm
  subst this
  exact hnd.1 (List.mem_map.2 ⟨(id, o''), hj, rfl⟩)
 have hRu : ∀ j o'', (j, o'') ∈ R → j ∈ C.U := fun j o'' hj => (hw.ids j o'' (List.mem_cons_of_mem _ hj)).1
 have hhead : ∀ b N, C'.m id' = some (b, N) → ∀ j o'' N', (j, o'') ∈ R → C.m j = some (b, N') → False := by
  intro b N hm j o'' N' hj hm'
  rcases hb b N hm with ⟨N'', hx⟩ | hx
  ·exact hne j o'' b N' N'' hj hm' hx
  ·exact Nat.not_lt.2 hx (hlt b ⟨j, o'', N', List.mem_cons_of_mem _ hj, hm'⟩)
 refine ⟨⟨?_, ?_, ?_, ?_, ?_⟩, ⟨hle, hav, h1, h2, h3, hsz, ?_, ?_, ?_, ?_⟩⟩
 ·intro b ob hx
  rw [hhp] at hx
  have h5 := hw.hp b ob hx
  rw [← h5]
  refine hk b (Array.getElem?_eq_some_iff.1 h5).1 (fun N hm => ?_)
  rw [hw.dis b ⟨id, o, N, List.mem_cons_self, hm⟩] at hx; cases hx
 ·simp only [List.map_cons, List.nodup_cons]
  refine ⟨?_, hnd.2⟩
  rcases hid with rfl | hid
  ·exact hnd.1
  ·intro hm
   obtain ⟨⟨j, o''⟩, h5, h6⟩ := List.mem_map.1 hm
   simp only at h6; subst h6
   exact hid (hRu _ _ h5)
 ·intro i ob hi
  rcases List.mem_cons.1 hi with hi | hi
  ·cases hi; exact ⟨hu, hor⟩
  ·obtain ⟨h5, h6⟩ := hw.ids i ob (List.mem_cons_of_mem _ hi)
   exact ⟨hle.U i h5, h6.keep hle h5 (fun b N hm => hk b (h6.lt hm) (fun N' => hne i ob b N N' hi hm))⟩
 ·intro i j o1 o2 b N N' hi hj hm hm'
  rcases List.mem_cons.1 hi with hi | hi <;> rcases List.mem_cons.1 hj with hj | hj
  ·cases hi; cases hj; rfl
  ·cases hi
   rw [hle.m j (hRu j o2 hj)] at hm'
   exact (hhead b N hm j o2 N' hj hm').elim
  ·cases hj
   rw [hle.m i (hRu i o1 hi)] at hm
   exact (hhead b N' hm' i o1 N hi hm).elim
  ·rw [hle.m i (hRu i o1 hi)] at hm
   rw [hle.m j (hRu j o2 hj)] at hm'
   exact hw.inj i j o1 o2 b N N' (List.mem_cons_of_mem _ hi) (List.mem_cons_of_mem _ hj) hm hm'
 ·rintro b ⟨i, ob, N, hi, hm⟩
  rw [hhp]
  rcases List.mem_cons.1 hi with hi | hi
  ·cases hi
   rcases hb b N hm with ⟨N'', hx⟩ | hx
   ·exact hw.dis b ⟨id, o, N'', List.mem_cons_self, hx⟩
   ·cases hx' : C.hp b with
    | none => rfl
    | some o'' => exact (Nat.not_lt.2 hx (Array.getElem?_eq_some_iff.1 (hw.hp b o'' hx')).1).elim
  ·rw [hle.m i (hRu i ob hi)] at hm
   exact hw.dis b ⟨i, ob, N, List.mem_cons_of_mem _ hi, hm⟩
 ·intro b hb' hn
  exact hk b hb' (fun N hm => hn ⟨id, o, N, List.mem_cons_self, hm⟩)
 ·intro b ob hx
  rw [hhp] at hx
  exact .inl ⟨ob, hx⟩
 ·rintro b ⟨i, ob, N, hi, hm⟩
  rcases List.mem_cons.1 hi with hi | hi
  ·cases hi
   rcases hb b N hm with ⟨N'', hx⟩ | hx
   ·exact .inl ⟨id, o, N'', List.mem_cons_self, hx⟩
   ·exact .inr hx
  ·rw [hle.m i (hRu i ob hi)] at hm
   exact .inl ⟨i, ob, N, List.mem_cons_of_mem _ hi, hm⟩
 ·intro i ob hi
  rcases List.mem_cons.1 hi with hi | hi
  ·cases hi
   rcases hid with rfl | hid
   ·exact .inl ⟨o, List.mem_cons_self⟩
   ·exact .inr hid
  ·exact .inl ⟨ob, List.mem_cons_of_mem _ hi⟩
theorem Z5m {H : AHeap} {k : Nat} {p : Nat × AObj} (h : H[k]? = some p) : ∃ H1 H2, H = H1 ++ p :: H2 ∧ ∀ q, H.set k q = H1 ++ q :: H2 := by
 induction H generalizing k with
 | nil => simp at h
 | cons x H ih =>
  cases k with
  | zero => simp at h; subst h; exact ⟨[], H, rfl, fun q => rfl⟩
  | succ k =>
   obtain ⟨H1, H2, h1, h2⟩ := ih (by simpa using h)
   exact ⟨x :: H1, H2, by rw [h1]; rfl, fun q => by rw [List.set_cons_succ, h2]; rfl⟩
theorem Z0p {Z : List Nat} {C C' : Ctx} {H : AHeap} {k : Nat} {w w' : World} {id id' : Nat} {o o' : AObj} (hw : WR C H w) (hkk : H[k]? = some (id, o)) (hle : C.Le C') (hhp : C'.hp = C.hp)
  (hid : id' = id ∨ id' ∉ C.U) (hu : id' ∈ C'.U) (hav : ∀ z, z ∈ Z → z ∉ C.U → z ∉ C'.U) (h1 : w'.os = w.os) (h2 : w'.tape = w.tape) (h3 : w'.output = w.output) (hsz : w.heap.size ≤ w'.heap.size)
  (hb : ∀ b N, C'.m id' = some (b, N) → (∃ N', C.m id = some (b, N')) ∨ w.heap.size ≤ b)
  (hk : ∀ b, b < w.heap.size → (∀ N, C.m id ≠ some (b, N)) → w'.heap[b]? = w.heap[b]?) (hor : OR C' id' w' o') :
  WR C' (H.set k (id', o')) w' ∧ Ext Z C H w C' (H.set k (id', o')) w' := by
 obtain ⟨H1, H2, rfl, hset⟩ := Z5m hkk
 rw [hset]
 have hp : ∀ q : Nat × AObj, (H1 ++ q :: H2).Perm (q :: (H1 ++ H2)) := fun q => List.perm_middle
 obtain ⟨g1, g2⟩ := Z83 (hw.perm (hp _)) hle hhp hid hu hav h1 h2 h3 hsz hb hk hor
 exact ⟨g1.perm (hp _).symm, (g2.permR (hp _).symm).permL (hp _).symm⟩
theorem Z26 {Z : List Nat} {C : Ctx} {H : AHeap} {w : World} {id N : Nat} {o : Obj} {ob : AObj} (hw : WR C H w) (hid : id ∉ C.U) (hz : id ∉ Z)
  (hor : OR (C.bind id w.heap.size N) id (w.alloc o) ob) :
  WR (C.bind id w.heap.size N) ((id, ob) :: H) (w.alloc o) ∧ Ext Z C H w (C.bind id w.heap.size N) ((id, ob) :: H) (w.alloc o) := by
 have hle := Ctx.le_bind (C := C) (b := w.heap.size) (N := N) hid
 have hm := Ctx.bind_m C id w.heap.size N
 have hHu : ∀ j o'', (j, o'') ∈ H → j ∈ C.U := fun j o'' hj => (hw.ids j o'' hj).1
 have hold : ∀ b, b < w.heap.size → (w.alloc o).heap[b]? = w.heap[b]? := fun b hb => heap_alloc_old w o (h := hb)
 have hlt : ∀ j o'' b N', (j, o'') ∈ H → C.m j = some (b, N') → b < w.heap.size := fun j o'' b N' hj hm' => hw.lt ⟨j, o'', N', hj, hm'⟩
 refine ⟨⟨?_, ?_, ?_, ?_, ?_⟩, ⟨hle, ?_, rfl, rfl, rfl, by simp, fun b hb _ => hold b hb, fun b o' h => .inl ⟨o', h⟩, ?_, ?_⟩⟩
 ·intro b o' h
  have := hw.hp b o' h
  rw [hold b (Array.getElem?_eq_some_iff.1 this).1]; exact this
 ·simp only [List.map_cons, List.nodup_cons]
  refine ⟨?_, hw.nd⟩
  intro hx
  obtain ⟨⟨j, o''⟩, h5, h6⟩ := List.mem_map.1 hx
  simp only at h6; subst h6
  exact hid (hHu _ _ h5)
 ·intro i o' hi
  rcases List.mem_cons.1 hi with hi | hi
  ·cases hi; exact ⟨List.mem_cons_self, hor⟩
  ·obtain ⟨h5, h6⟩ := hw.ids i o' hi
   exact ⟨hle.U i h5, h6.keep hle h5 (fun b N' hm' => hold b (h6.lt hm'))⟩
 ·intro i j o1 o2 b N1 N2 hi hj hm1 hm2
  rcases List.mem_cons.1 hi with hi | hi <;> rcases List.mem_cons.1 hj with hj | hj
  ·cases hi; cases hj; rfl
  ·cases hi
   rw [hm] at hm1; cases hm1
   rw [hle.m j (hHu j o2 hj)] at hm2
   have := hlt j o2 _ _ hj hm2; omega
  ·cases hj
   rw [hm] at hm2; cases hm2
   rw [hle.m i (hHu i o1 hi)] at hm1
   have := hlt i o1 _ _ hi hm1; omega
  ·rw [hle.m i (hHu i o1 hi)] at hm1
   rw [hle.m j (hHu j o2 hj)] at hm2
   exact hw.inj i j o1 o2 b N1 N2 hi hj hm1 hm2
 ·rintro b ⟨i, ob', N', hi, hm'⟩
  show C.hp b = none
  rcases List.mem_cons.1 hi with hi | hi
  ·cases hi
   rw [hm] at hm'; cases hm'
   cases hx : C.hp w.heap.size with
   | none => rfl
   | some o'' => have := (Array.getElem?_eq_some_iff.1 (hw.hp _ o'' hx)).1; omega
  ·rw [hle.m i (hHu i ob' hi)] at hm'
   exact hw.dis b ⟨i, ob', N', hi, hm'⟩
 ·intro z hz' hn
  simp only [Ctx.bind, List.mem_cons, not_or]
  exact ⟨fun e => hz (e ▸ hz'), hn⟩
 ·rintro b ⟨i, ob', N', hi, hm'⟩
  rcases List.mem_cons.1 hi with hi | hi
  ·cases hi; rw [hm] at hm'; cases hm'; exact .inr (Nat.le_refl _)
  ·rw [hle.m i (hHu i ob' hi)] at hm'
   exact .inl ⟨i, ob', N', hi, hm'⟩
 ·intro i ob' hi
  rcases List.mem_cons.1 hi with hi | hi
  ·cases hi; exact .inr hid
  ·exact .inl ⟨ob', hi⟩
def cellsA : AV → List AV
 | .agg cs => cs
 | .v (.agg vs) => vs.toList.map .v
 | x => [x]
def one : AV → Bool
 | .agg _ => false
 | .tup _ => false
 | .v (.agg _) => false
 | .v (.tuple _) => false
 | _ => true
theorem Z6r {C : Ctx} {x : AV} {v : Value} (h : VR C x v) (ho : one x = true) : v.oneCell' = true := by
 cases h with
 | v => cases v <;> first | rfl | (simp [one] at ho)
 | agg => simp [one] at ho
 | tup => simp [one] at ho
 | _ => rfl
theorem Z1o {C : Ctx} {x : AV} {v : Value} (h : VR C x v) : (cellsA x).length = v.cells.size ∧ ∀ (i : Nat) (c : AV) (u : Value), (cellsA x)[i]? = some c → v.cells[i]? = some u → VR C c u := by
 have h0 := h
 have single : cellsA x = [x] → v.cells = #[v] → (cellsA x).length = v.cells.size ∧ ∀ (i : Nat) (c : AV) (u : Value), (cellsA x)[i]? = some c → v.cells[i]? = some u → VR C c u := by
  intro e1 e2
  rw [e1, e2]
  refine ⟨rfl, fun i c u h1 h2 => ?_⟩
  cases i with
  | zero => simp at h1 h2; subst h1; subst h2; exact h0
  | succ i => simp at h1
 cases h with
 | v =>
  cases v with
  | agg vs =>
   refine ⟨by simp [cellsA, Value.cells], fun i c u h1 h2 => ?_⟩
   simp only [cellsA, List.getElem?_map] at h1
   simp only [Value.cells] at h2
   have : vs.toList[i]? = some u := by rw [Array.getElem?_toList]; exact h2
   rw [this] at h1
   cases h1
   exact .v u
  | _ => exact single rfl rfl
 | agg cs vs hl hh => exact ⟨hl, hh⟩
 | _ => exact single rfl rfl
theorem Zen {C : Ctx} {id b n : Nat} {w : World} {el : TypeId} {l : List AV} {vs : Array Value} (hm : C.m id = some (b, n)) (hh : w.heap[b]? = some (.cells vs el (0, 0))) (hl : l.length = n) (hs : l.length = vs.size)
  (hv : ∀ (i : Nat) (c : AV) (u : Value), l[i]? = some c → vs[i]? = some u → VR C c u) (h1 : ∀ (i : Nat) (u : Value), vs[i]? = some u → u.oneCell' = true) : OR C id w (.rows el n [l]) := by
 refine ⟨by intro e he; simp at he; subst he; exact hl, .inr ⟨b, n, vs, hm, hh, by omega, by simp, ?_⟩⟩
 intro i e j c he hc
 cases i with
 | zero =>
  simp at he; subst he
  have hlt : j < vs.size := by rw [← hs]; exact (List.getElem?_eq_some_iff.1 hc).1
  have hg : vs[j]? = some vs[j] := Array.getElem?_eq_getElem hlt
  refine ⟨vs[j], by simpa using hg, hv j c _ hc hg, h1 j _ hg⟩
 | succ i => simp at he
theorem Zfl {C : Ctx} {l : List AV} {vs : Array Value} (hs : l.length = vs.size) (hv : ∀ (i : Nat) (c : AV) (u : Value), l[i]? = some c → vs[i]? = some u → VR C c u) (ho : l.all one = true) : ∀ (i : Nat) (u : Value), vs[i]? = some u → u.oneCell' = true := by
 intro i u hu
 have hlt : i < l.length := by rw [hs]; exact (Array.getElem?_eq_some_iff.1 hu).1
 have hg : l[i]? = some l[i] := List.getElem?_eq_getElem hlt
 exact Z6r (hv i _ u hg hu) (List.all_eq_true.1 ho _ (List.getElem_mem hlt))
section
variable {P : Program} {T : List (Nat × AV)} {o : Oper}
theorem Z56 {id N : Nat} {x : AV} {ob : AObj} {Hn : AHeap} (hd : ∀ c, o.op ≠ .defer c)
  (h : ∀ (C : Ctx) (H : AHeap) (a : Act) (w : World), WR C H w → (∀ p, p ∈ Hn → p ∈ H) → (∀ p, p ∈ o.op.operands → ∀ y, ev T p = some y → VR C y (a.eval p)) → id ∉ C.U →
   ∃ v ob', (execOp a.eval o).run P w = .ok (.value v) (w.alloc ob') ∧ VR (C.bind id w.heap.size N) x v ∧ OR (C.bind id w.heap.size N) id (w.alloc ob') ob) : Eff P o T Hn x [(id, ob)] := by
 intro Z C H a w hw hn hv hf _ hz ro next R hk
 have hid : id ∉ C.U := hf (id, ob) (by simp)
 obtain ⟨v, ob', h1, h2, h3⟩ := h C H a w hw hn hv hid
 rw [Oper.semAt_eq _ _ _ hd, h1]
 obtain ⟨h4, h5⟩ := Z26 (Z := Z) hw hid (fun hz' => hz id hz' (by simp)) h3
 exact hk v _ _ h2 h4 h5
theorem Z38 (id : Nat) {t n : Nat} {b : Bool} {p : Operand} {x : AV} {l : List AV} [k : TK P t b n] (ho : o.op = .box t p) (hp : ev T p = some x) (hl : cellsA x = l) (hn : l.length = n) (h1 : l.all one = true) : Eff P o T [] (.ptr id n 0 0) [(id, .rows t n [l])] :=
 Z56 (N := n) (by intro c; rw [ho]; nofun) fun C H a w hw _ hv hid => by
  subst hl
  have h2 := (hv p (by rw [ho]; simp [Op.operands]) _ hp).mono (Ctx.le_bind (b := w.heap.size) (N := n) hid)
  obtain ⟨h3, h4⟩ := Z1o h2
  refine ⟨.pointer (some ⟨w.heap.size, 0, none⟩), .cells (a.eval p).cells t, ?_, ?_, ?_⟩
  ·simp [execOp, ho, Instr.box, newVar, newRow, run_newObj_alloc, Sem.run_bind, Result.andThen]
  ·have := VR.ptr (C := C.bind id w.heap.size n) id n 0 0 w.heap.size n (Ctx.bind_m ..) List.mem_cons_self
   simpa using this
  ·exact Zen (Ctx.bind_m ..) (heap_alloc_new w _) hn h3 h4 (Zfl h3 h4 h1)
theorem Z1f (id : Nat) {t n : Nat} {b : Bool} {zs : List Value} [k : TK P t b n] [z : ZC P t zs] (ho : o.op = .alloc t) (hn : zs.length = n) (h1 : (zs.map AV.v).all one = true) : Eff P o T [] (.ptr id n 0 0) [(id, .rows t n [zs.map .v])] :=
 Z56 (N := n) (by intro c; rw [ho]; nofun) fun C H a w hw _ hv hid => by
  have hz := z.zc
  unfold Program.zc at hz
  split at hz
  ·rename_i i hi
   cases hz2 : i.zero with
   | none => rw [hz2] at hz; cases hz
   | some zv =>
    rw [hz2] at hz
    simp only [Option.map_some, Option.some.injEq] at hz
    refine ⟨.pointer (some ⟨w.heap.size, 0, none⟩), .cells zv.cells t, ?_, ?_, ?_⟩
    ·simp [execOp, ho, Instr.alloc, zeroValue, typeInfo, hi, hz2, newVar, newRow, run_newObj_alloc, Sem.run_bind, Result.andThen]
    ·have := VR.ptr (C := C.bind id w.heap.size n) id n 0 0 w.heap.size n (Ctx.bind_m ..) List.mem_cons_self
     simpa using this
    ·have hlen : (zs.map AV.v).length = zv.cells.size := by rw [← hz]; simp
     have hrel : ∀ (i : Nat) (c : AV) (u : Value), (zs.map AV.v)[i]? = some c → zv.cells[i]? = some u → VR (C.bind id w.heap.size n) c u := by
      intro i c u h2 h3
      rw [← hz, List.getElem?_map, Array.getElem?_toList, h3] at h2
      cases h2
      exact .v u
     exact Zen (Ctx.bind_m ..) (heap_alloc_new w _) (by simpa using hn) hlen hrel (Zfl hlen hrel h1)
  ·cases hz
end
end Go.Sx
namespace Go.Sx
open Go
def anc (ops : Array Oper) : Nat → Nat → Nat → Bool
 | 0, _, _ => false
 | f + 1, i, j => match ops[i]? with
  | some o => o.after.any fun e => Region.binds .any e && (e.on == j || anc ops f e.on j)
  | none => false
def okEdges (ops : Array Oper) : Bool := (List.range ops.size).all fun i => match ops[i]? with
 | some o => o.after.all fun e => !Region.binds .any e || Nat.blt e.on i
 | none => true
def okDst (ops : Array Oper) (np : Nat) : Bool := (List.range np).all fun i => (List.range i).all fun j => match (ops[i]?).bind (·.dst), (ops[j]?).bind (·.dst) with
 | some a, some b => !(Nat.beq a b)
 | _, _ => true
def okLooks (ops : Array Oper) (np : Nat) : Bool := (List.range np).all fun i => match ops[i]? with
 | some o => (o.looksAt ops).all fun t => (List.range np).all fun j => !((ops[j]?).bind (·.dst) == some t) || (Nat.blt j i && anc ops i i j)
 | none => false
def okTail (ops : Array Oper) (np : Nat) : Bool := (List.range (ops.size - np)).all fun d => (List.range (np + d)).all fun i => anc ops (np + d) (np + d) i
def tidy (ops : Array Oper) (np : Nat) : Bool := Nat.ble np ops.size && okEdges ops && okDst ops np && okLooks ops np && okTail ops np
inductive Calm (P : Program) (ops : Array Oper) (H0 : AHeap) (K : St → Prop) : Nat → List Oper → List (Nat × (Nat × AObj)) → St → Prop
 | done {k : Nat} {M : List (Nat × (Nat × AObj))} {s : St} (h : K s) : Calm P ops H0 K k [] M s
 | eff {k : Nat} {o : Oper} {r : List Oper} {M : List (Nat × (Nat × AObj))} {s : St} (Hn : AHeap) (x : AV) (hw : Wanted ops s.T o true) (hd : dok o.dst s.n = true) (he : Eff P o s.T Hn x [])
   (hn : ∀ p, p ∈ Hn → p ∈ H0 ∨ ∃ j, (j, p) ∈ M ∧ anc ops k k j = true) (h : Calm P ops H0 K (k + 1) r M { s with T := put s.T o.dst x }) : Calm P ops H0 K k (o :: r) M s
 | eff1 {k : Nat} {o : Oper} {r : List Oper} {M : List (Nat × (Nat × AObj))} {s : St} (Hn : AHeap) (x : Nat → AV) (ob : Nat → AObj) (hw : Wanted ops s.T o true) (hd : dok o.dst s.n = true) (he : ∀ id, Eff P o s.T Hn (x id) [(id, ob id)])
   (hn : ∀ p, p ∈ Hn → p ∈ H0 ∨ ∃ j, (j, p) ∈ M ∧ anc ops k k j = true) (h : ∀ id, Calm P ops H0 K (k + 1) r ((k, (id, ob id)) :: M) { s with T := put s.T o.dst (x id), H := (id, ob id) :: s.H }) : Calm P ops H0 K k (o :: r) M s
 | off {k : Nat} {o : Oper} {r : List Oper} {M : List (Nat × (Nat × AObj))} {s : St} (hw : Wanted ops s.T o false) (hd : dok o.dst s.n = true)
   (h : Calm P ops H0 K (k + 1) r M { s with T := put s.T o.dst (.v undef) }) : Calm P ops H0 K k (o :: r) M s
def TT (ops : Array Oper) (xs : Nat → AV) (T0 : List (Nat × AV)) : Nat → List (Nat × AV)
 | 0 => T0
 | i + 1 => put (TT ops xs T0 i) ((ops[i]?).bind (·.dst)) (xs i)
def HH (os : Nat → AHeap) (H0 : AHeap) : Nat → AHeap
 | 0 => H0
 | i + 1 => os i ++ HH os H0 i
theorem Z0n {ops : Array Oper} {xs ys : Nat → AV} {T0 : List (Nat × AV)} : ∀ (k : Nat), (∀ i, i < k → xs i = ys i) → TT ops xs T0 k = TT ops ys T0 k
 | 0, _ => rfl
 | k + 1, h => by simp only [TT]; rw [Z0n k (fun i hi => h i (by omega)), h k (by omega)]
theorem Z4k {os ps : Nat → AHeap} {H0 : AHeap} : ∀ (k : Nat), (∀ i, i < k → os i = ps i) → HH os H0 k = HH ps H0 k
 | 0, _ => rfl
 | k + 1, h => by simp only [HH]; rw [Z4k k (fun i hi => h i (by omega)), h k (by omega)]
def Good (P : Program) (ops : Array Oper) (n : Nat) (xs : Nat → AV) (os : Nat → AHeap) (T0 : List (Nat × AV)) (H0 : AHeap) (i : Nat) : Prop :=
 ∃ o, ops[i]? = some o ∧ dok o.dst n = true ∧ ((Wanted ops (TT ops xs T0 i) o false ∧ xs i = .v undef ∧ os i = []) ∨
  (Wanted ops (TT ops xs T0 i) o true ∧ ∃ Hn, Eff P o (TT ops xs T0 i) Hn (xs i) (os i) ∧ ∀ p, p ∈ Hn → p ∈ H0 ∨ ∃ j, j < i ∧ p ∈ os j ∧ anc ops i i j = true))
theorem Good.congr {P : Program} {ops : Array Oper} {n : Nat} {xs ys : Nat → AV} {os ps : Nat → AHeap} {T0 : List (Nat × AV)} {H0 : AHeap} {i : Nat} (h1 : ∀ j, j ≤ i → xs j = ys j) (h2 : ∀ j, j ≤ i → os j = ps j)
  (h : Good P ops n xs os T0 H0 i) : Good P ops n ys ps T0 H0 i := by
 obtain ⟨o, ho, hd, h⟩ := h
 refine ⟨o, ho, hd, ?_⟩
 rw [← Z0n (ops := ops) (T0 := T0) i (fun j hj => h1 j (by omega)), ← h1 i (Nat.le_refl _), ← h2 i (Nat.le_refl _)]
 rcases h with h | ⟨hw, Hn, he, hn⟩
 ·exact .inl h
 ·refine .inr ⟨hw, Hn, he, fun p hp => (hn p hp).imp id (fun ⟨j, a, b, c⟩ => ⟨j, a, ?_, c⟩)⟩
  rw [← h2 j (by omega)]; exact b
theorem Calm.tell {P : Program} {ops : Array Oper} {H0 : AHeap} {K : St → Prop} {T0 : List (Nat × AV)} {D : List Nat} {n : Nat} (L : List Nat) {k : Nat} {l : List Oper} {M : List (Nat × (Nat × AObj))} {s : St}
  (h : Calm P ops H0 K k l M s) : ∀ (xs : Nat → AV) (os : Nat → AHeap), ops.toList.drop k = l ++ ops.toList.drop (k + l.length) → s = ⟨TT ops xs T0 k, HH os H0 k, D, n⟩ → (∀ i, i < k → Good P ops n xs os T0 H0 i) →
   (∀ j p, (j, p) ∈ M → j < k ∧ p ∈ os j) → (∀ i p, i < k → p ∈ os i → p.1 ∉ L) → (∀ i j p q, i < k → j < k → p ∈ os i → q ∈ os j → p.1 = q.1 → i = j) → (∀ i, i < k → ((os i).map Prod.fst).Nodup) →
   ∃ (ys : Nat → AV) (ps : Nat → AHeap), K ⟨TT ops ys T0 (k + l.length), HH ps H0 (k + l.length), D, n⟩ ∧ (∀ i, i < k + l.length → Good P ops n ys ps T0 H0 i) ∧
    (∀ i p, i < k + l.length → p ∈ ps i → p.1 ∉ L) ∧ (∀ i j p q, i < k + l.length → j < k + l.length → p ∈ ps i → q ∈ ps j → p.1 = q.1 → i = j) ∧ (∀ i, i < k + l.length → ((ps i).map Prod.fst).Nodup) := by
 -- one step: the value x and the things obs at place k
 have step : ∀ (k : Nat) (o : Oper) (r : List Oper) (M : List (Nat × (Nat × AObj))) (xs : Nat → AV) (os : Nat → AHeap) (x : AV) (obs : AHeap), ops[k]? = some o →
   (∀ i, i < k → Good P ops n xs os T0 H0 i) →
   (dok o.dst n = true ∧ ((Wanted ops (TT ops xs T0 k) o false ∧ x = .v undef ∧ obs = []) ∨
    (Wanted ops (TT ops xs T0 k) o true ∧ ∃ Hn, Eff P o (TT ops xs T0 k) Hn x obs ∧ ∀ p, p ∈ Hn → p ∈ H0 ∨ ∃ j, j < k ∧ p ∈ os j ∧ anc ops k k j = true))) →
   ∃ (ys : Nat → AV) (ps : Nat → AHeap), (∀ i, i < k → ys i = xs i) ∧ (∀ i, i < k → ps i = os i) ∧ ys k = x ∧ ps k = obs ∧ (∀ i, i < k + 1 → Good P ops n ys ps T0 H0 i) := by
  intro k o r M xs os x obs ho hg hx
  refine ⟨fun i => if i = k then x else xs i, fun i => if i = k then obs else os i, fun i hi => if_neg (by omega), fun i hi => if_neg (by omega), if_pos rfl, if_pos rfl, ?_⟩
  intro i hi
  rcases Nat.lt_or_ge i k with hlt | hge
  ·exact (hg i hlt).congr (fun j hj => (if_neg (by omega)).symm) (fun j hj => (if_neg (by omega)).symm)
  ·have e : i = k := by omega
   subst e
   obtain ⟨hd, hx⟩ := hx
   refine ⟨o, ho, hd, ?_⟩
   have e1 : TT ops (fun j => if j = i then x else xs j) T0 i = TT ops xs T0 i := Z0n i (fun j hj => if_neg (by omega))
   simp only [e1, if_true]
   rcases hx with hx | ⟨hw, Hn, he, hn⟩
   ·exact .inl hx
   ·refine .inr ⟨hw, Hn, he, fun p hp => (hn p hp).imp id (fun ⟨j, a, b, c⟩ => ⟨j, a, ?_, c⟩)⟩
    rw [if_neg (by omega)]; exact b
 induction h with
 | done h =>
  intro xs os hl hs hg hM hL hij hnd
  subst hs
  exact ⟨xs, os, h, hg, hL, hij, hnd⟩
 | @eff k o r M s Hn x hw hd he hn h ih =>
  intro xs os hl hs hg hM hL hij hnd
  subst hs
  obtain ⟨h1, h2⟩ := Z07 (l := ops.toList) (k := k) (o := o) (r := r ++ ops.toList.drop (k + (o :: r).length)) hl
  have ho : ops[k]? = some o := by rw [← Array.getElem?_toList]; exact h1
  obtain ⟨ys, ps, e1, e2, e3, e4, e5⟩ := step k o r M xs os x [] ho hg ⟨hd, .inr ⟨hw, Hn, he, fun p hp => (hn p hp).imp id (fun ⟨j, a, b⟩ => ⟨j, (hM j p a).1, (hM j p a).2, b⟩)⟩⟩
  have hlen : k + (o :: r).length = k + 1 + r.length := by simp; omega
  rw [hlen]
  refine ih ys ps (by rw [h2, hlen]) ?_ e5 ?_ ?_ ?_ ?_
  ·simp only [TT, HH, ho, Option.bind_some, e3, e4, List.nil_append]
   rw [Z0n k e1, Z4k k e2]
  ·intro j p hp; obtain ⟨a, b⟩ := hM j p hp; exact ⟨by omega, by rw [e2 j a]; exact b⟩
  ·intro i p hi hp
   rcases Nat.lt_or_ge i k with hlt | hge
   ·rw [e2 i hlt] at hp; exact hL i p hlt hp
   ·have : i = k := by omega
    subst this; rw [e4] at hp; cases hp
  ·intro i j p q hi hj hp hq hpq
   rcases Nat.lt_or_ge i k with hlt | hge <;> rcases Nat.lt_or_ge j k with hlt' | hge'
   ·rw [e2 i hlt] at hp; rw [e2 j hlt'] at hq; exact hij i j p q hlt hlt' hp hq hpq
   ·have : j = k := by omega
    subst this; rw [e4] at hq; cases hq
   ·have : i = k := by omega
    subst this; rw [e4] at hp; cases hp
   ·omega
  ·intro i hi
   rcases Nat.lt_or_ge i k with hlt | hge
   ·rw [e2 i hlt]; exact hnd i hlt
   ·have : i = k := by omega
    subst this; rw [e4]; exact List.nodup_nil
 | @eff1 k o r M s Hn x ob hw hd he hn h ih =>
  intro xs os hl hs hg hM hL hij hnd
  subst hs
  obtain ⟨h1, h2⟩ := Z07 (l := ops.toList) (k := k) (o := o) (r := r ++ ops.toList.drop (k + (o :: r).length)) hl
  have ho : ops[k]? = some o := by rw [← Array.getElem?_toList]; exact h1
  obtain ⟨id, hid⟩ := Z5w (L ++ ((List.range k).flatMap fun i => (os i).map Prod.fst))
  rw [List.mem_append, not_or] at hid
  have hidn : ∀ i p, i < k → p ∈ os i → p.1 ≠ id := by
   intro i p hi hp e
   exact hid.2 (List.mem_flatMap.2 ⟨i, List.mem_range.2 hi, List.mem_map.2 ⟨p, hp, e⟩⟩)
  obtain ⟨ys, ps, e1, e2, e3, e4, e5⟩ := step k o r M xs os (x id) [(id, ob id)] ho hg ⟨hd, .inr ⟨hw, Hn, he id, fun p hp => (hn p hp).imp (fun a => a) (fun ⟨j, a, b⟩ => ⟨j, (hM j p a).1, (hM j p a).2, b⟩)⟩⟩
  have hlen : k + (o :: r).length = k + 1 + r.length := by simp; omega
  rw [hlen]
  refine ih id ys ps (by rw [h2, hlen]) ?_ e5 ?_ ?_ ?_ ?_
  ·simp only [TT, HH, ho, Option.bind_some, e3, e4, List.cons_append, List.nil_append]
   rw [Z0n k e1, Z4k k e2]
  ·intro j p hp
   rcases List.mem_cons.1 hp with hp | hp
   ·cases hp; exact ⟨by omega, by rw [e4]; exact List.mem_cons_self⟩
   ·obtain ⟨a, b⟩ := hM j p hp; exact ⟨by omega, by rw [e2 j a]; exact b⟩
  ·intro i p hi hp
   rcases Nat.lt_or_ge i k with hlt | hge
   ·rw [e2 i hlt] at hp; exact hL i p hlt hp
   ·have : i = k := by omega
    subst this; rw [e4] at hp; simp at hp; subst hp; exact hid.1
  ·intro i j p q hi hj hp hq hpq
   rcases Nat.lt_or_ge i k with hlt | hge <;> rcases Nat.lt_or_ge j k with hlt' | hge'
   ·rw [e2 i hlt] at hp; rw [e2 j hlt'] at hq; exact hij i j p q hlt hlt' hp hq hpq
   ·have : j = k := by omega
    subst this; rw [e4] at hq; simp at hq; subst hq
    rw [e2 i hlt] at hp; exact (hidn i p hlt hp hpq).elim
   ·have : i = k := by omega
    subst this; rw [e4] at hp; simp at hp; subst hp
    rw [e2 j hlt'] at hq; exact (hidn j q hlt' hq hpq.symm).elim
   ·omega
  ·intro i hi
   rcases Nat.lt_or_ge i k with hlt | hge
   ·rw [e2 i hlt]; exact hnd i hlt
   ·have : i = k := by omega
    subst this; rw [e4]; simp
 | @off k o r M s hw hd h ih =>
  intro xs os hl hs hg hM hL hij hnd
  subst hs
  obtain ⟨h1, h2⟩ := Z07 (l := ops.toList) (k := k) (o := o) (r := r ++ ops.toList.drop (k + (o :: r).length)) hl
  have ho : ops[k]? = some o := by rw [← Array.getElem?_toList]; exact h1
  obtain ⟨ys, ps, e1, e2, e3, e4, e5⟩ := step k o r M xs os (.v undef) [] ho hg ⟨hd, .inl ⟨hw, rfl, rfl⟩⟩
  have hlen : k + (o :: r).length = k + 1 + r.length := by simp; omega
  rw [hlen]
  refine ih ys ps (by rw [h2, hlen]) ?_ e5 ?_ ?_ ?_ ?_
  ·simp only [TT, HH, ho, Option.bind_some, e3, e4, List.nil_append]
   rw [Z0n k e1, Z4k k e2]
  ·intro j p hp; obtain ⟨a, b⟩ := hM j p hp; exact ⟨by omega, by rw [e2 j a]; exact b⟩
  ·intro i p hi hp
   rcases Nat.lt_or_ge i k with hlt | hge
   ·rw [e2 i hlt] at hp; exact hL i p hlt hp
   ·have : i = k := by omega
    subst this; rw [e4] at hp; cases hp
  ·intro i j p q hi hj hp hq hpq
   rcases Nat.lt_or_ge i k with hlt | hge <;> rcases Nat.lt_or_ge j k with hlt' | hge'
   ·rw [e2 i hlt] at hp; rw [e2 j hlt'] at hq; exact hij i j p q hlt hlt' hp hq hpq
   ·have : j = k := by omega
    subst this; rw [e4] at hq; cases hq
   ·have : i = k := by omega
    subst this; rw [e4] at hp; cases hp
   ·omega
  ·intro i hi
   rcases Nat.lt_or_ge i k with hlt | hge
   ·rw [e2 i hlt]; exact hnd i hlt
   ·have : i = k := by omega
    subst this; rw [e4]; exact List.nodup_nil
section
variable {P : Program} {ro : Option Nat} {ops : Array Oper}
theorem Ext.subZ {Z Z' : List Nat} {C C' : Ctx} {H H' : AHeap} {w w' : World} (h : Ext Z C H w C' H' w') (hz : ∀ z, z ∈ Z' → z ∈ Z) : Ext Z' C H w C' H' w' :=
 ⟨h.le, fun z a b => h.av z (hz z a) b, h.os, h.tape, h.output, h.size, h.fr, h.nhp, h.nbl, h.nid⟩
theorem Z33 {xs : Nat → AV} {T0 : List (Nat × AV)} {t : Nat} {x : AV} : ∀ k, lk (TT ops xs T0 k) t = some x →
  (∃ j, j < k ∧ (ops[j]?).bind (·.dst) = some t ∧ x = xs j) ∨ (lk T0 t = some x ∧ ∀ j, j < k → (ops[j]?).bind (·.dst) ≠ some t)
 | 0, h => .inr ⟨h, nofun⟩
 | k + 1, h => by
  simp only [TT] at h
  cases hd : (ops[k]?).bind (·.dst) with
  | none =>
   rw [hd] at h
   rcases Z33 k h with ⟨j, a, b, c⟩ | ⟨a, b⟩
   ·exact .inl ⟨j, by omega, b, c⟩
   ·refine .inr ⟨a, fun j hj => ?_⟩
    rcases Nat.lt_or_ge j k with h1 | h1
    ·exact b j h1
    ·have : j = k := by omega
     subst this; rw [hd]; nofun
  | some d =>
   rw [hd] at h
   simp only [put, lk] at h
   cases hb : Nat.beq d t with
   | true =>
    have e := Nat.eq_of_beq_eq_true hb
    subst e
    simp only [hb, cond_true, Option.some.injEq] at h
    exact .inl ⟨k, by omega, hd, h.symm⟩
   | false =>
    simp only [hb, cond_false] at h
    rcases Z33 k h with ⟨j, a, b, c⟩ | ⟨a, b⟩
    ·exact .inl ⟨j, by omega, b, c⟩
    ·refine .inr ⟨a, fun j hj => ?_⟩
     rcases Nat.lt_or_ge j k with h1 | h1
     ·exact b j h1
     ·have : j = k := by omega
      subst this; rw [hd]
      intro e; cases e
      simp at hb
theorem Z14 {listed : Array Bool} (dn : ∀ i o, ops[i]? = some o → listed.getD i false = true → ∀ e, e ∈ o.after → Region.binds .any e = true → listed.getD e.on false = true) :
  ∀ f i j o, ops[i]? = some o → (∀ e, e ∈ o.after → Region.binds .any e = true → listed.getD e.on false = true) → anc ops f i j = true → listed.getD j false = true
 | 0, i, j, o, _, _, h => by simp [anc] at h
 | f + 1, i, j, o, ho, hr, h => by
  simp only [anc, ho] at h
  obtain ⟨e, he, h2⟩ := Array.any_eq_true'.1 h
  simp only [Bool.and_eq_true, Bool.or_eq_true, beq_iff_eq] at h2
  have hl := hr e he h2.1
  rcases h2.2 with h3 | h3
  ·rw [← h3]; exact hl
  ·cases ho2 : ops[e.on]? with
   | none => cases f <;> simp [anc, ho2] at h3
   | some o2 => exact Z14 dn f e.on j o2 ho2 (fun e' he' hb' => dn e.on o2 ho2 hl e' he' hb') h3
theorem Zdx (np i : Nat) (f g : Nat → AHeap) (hi : i < np) (hf : f i = []) (hg : ∀ j, j ≠ i → g j = f j) : ((List.range np).flatMap g).Perm (g i ++ (List.range np).flatMap f) := by
 induction np with
 | zero => omega
 | succ np ih =>
  rw [List.range_succ, List.flatMap_append, List.flatMap_append]
  simp only [List.flatMap_cons, List.flatMap_nil, List.append_nil]
  rcases Nat.lt_or_ge i np with h | h
  ·rw [hg np (by omega), ← List.append_assoc]
   exact (ih h).append_right _
  ·have : i = np := by omega
   subst this
   have e : (List.range i).flatMap g = (List.range i).flatMap f := by
    have : ∀ l : List Nat, (∀ j, j ∈ l → j ≠ i) → l.flatMap g = l.flatMap f := by
     intro l
     induction l with
     | nil => intro _; rfl
     | cons x l ih => intro h; simp only [List.flatMap_cons]; rw [hg x (h x List.mem_cons_self), ih (fun j hj => h j (List.mem_cons_of_mem _ hj))]
    exact this _ (fun j hj => by have := List.mem_range.1 hj; omega)
   rw [e, hf, List.append_nil]
   exact List.perm_append_comm
theorem Z8c (os : Nat → AHeap) (H0 : AHeap) : ∀ np, (HH os H0 np).Perm ((List.range np).flatMap os ++ H0)
 | 0 => .refl _
 | np + 1 => by
  simp only [HH]
  rw [List.range_succ, List.flatMap_append]
  simp only [List.flatMap_cons, List.flatMap_nil, List.append_nil]
  refine ((Z8c os H0 np).append_left _).trans ?_
  rw [← List.append_assoc]
  exact (List.perm_append_comm).append_right _
theorem Zg3 {F : Fence} {n : Nat} {Q : Exit → Act → World → Prop} {np : Nat} (hE : okEdges ops = true) (hT : okTail ops np = true) :
  ∀ (fuel m : Nat) (listed : Array Bool) (a : Act) (w : World), np ≤ m → m + fuel = ops.size → listed.size = ops.size → (∀ i, i < m → listed.getD i false = true) → (∀ i, m ≤ i → i < ops.size → listed.getD i false = false) →
   wpOpsIn F n P ops Q (List.range' m fuel) a w → wpAnyIn F n P .any ops Q fuel listed a w := by
 intro fuel
 induction fuel with
 | zero =>
  intro m listed a w hm hmf hls h1 h2 h
  refine ⟨?_, by simpa [wpOpsIn] using h⟩
  rw [List.eq_nil_iff_forall_not_mem]
  intro j hj
  obtain ⟨h3, o, h4, _⟩ := mem_ready.1 hj
  have hlt : j < ops.size := (Array.getElem?_eq_some_iff.1 h4).1
  have := h1 j (by omega)
  simp [hls, hlt] at h3 this
  rw [h3] at this; cases this
 | succ fuel ih =>
  intro m listed a w hm hmf hls h1 h2 h
  have hdown : ∀ i o, ops[i]? = some o → listed.getD i false = true → ∀ e, e ∈ o.after → Region.binds .any e = true → listed.getD e.on false = true := by
   intro i o ho hi e he hbd
   have hlt : i < ops.size := (Array.getElem?_eq_some_iff.1 ho).1
   have := List.all_eq_true.1 hE i (List.mem_range.2 hlt)
   simp only [ho] at this
   have h5 := Array.all_eq_true_iff_forall_mem.1 this e he
   rw [hbd, Bool.not_true, Bool.false_or, Nat.blt_eq] at h5
   have him : i < m := by
    rcases Nat.lt_or_ge i m with h6 | h6
    ·exact h6
    ·rw [h2 i h6 hlt] at hi; cases hi
   exact h1 e.on (by omega)
  have hready : ∀ i, i ∈ Region.ready .any ops listed → i = m := by
   intro i hi
   obtain ⟨h3, o, h4, h5⟩ := mem_ready.1 hi
   have hlt : i < ops.size := (Array.getElem?_eq_some_iff.1 h4).1
   have hmi : m ≤ i := by
    rcases Nat.lt_or_ge i m with h6 | h6
    ·have h7 := h1 i h6
     simp [hls, hlt] at h3 h7
     rw [h3] at h7; cases h7
    ·exact h6
   rcases Nat.lt_or_ge m i with h6 | h6
   ·have h7 := List.all_eq_true.1 hT (i - np) (List.mem_range.2 (by omega))
    rw [show np + (i - np) = i from by omega] at h7
    have h8 := List.all_eq_true.1 h7 m (List.mem_range.2 h6)
    have h9 := Z14 hdown i i m o h4 h5 h8
    rw [h2 m (Nat.le_refl _) (by omega)] at h9; cases h9
   ·omega
  refine ⟨fun hnil => ?_, fun i hi => ?_⟩
  ·exfalso
   have hmlt : m < ops.size := by omega
   have : m ∈ Region.ready .any ops listed := by
    rw [mem_ready]
    refine ⟨?_, ops[m], Array.getElem?_eq_getElem hmlt, ?_⟩
    ·have := h2 m (Nat.le_refl _) hmlt
     simp [hls, hmlt] at this ⊢; exact this
    ·intro e he hbd
     have := List.all_eq_true.1 hE m (List.mem_range.2 hmlt)
     rw [Array.getElem?_eq_getElem hmlt] at this
     have h5 := Array.all_eq_true_iff_forall_mem.1 this e he
     rw [hbd, Bool.not_true, Bool.false_or, Nat.blt_eq] at h5
     exact h1 e.on h5
   rw [hnil] at this; cases this
  ·have := hready i hi
   subst this
   rw [List.range'_succ, wpOpsIn_cons] at h
   refine wpOpIn_mono (fun a' w' h' => ih (i + 1) _ a' w' (by omega) (by omega) (by simpa using hls) ?_ ?_ h') h
   ·intro j hj
    by_cases e : i = j
    ·subst e
     have hlt : i < listed.size := by omega
     simp [hlt]
    ·rw [getD_set_ne _ e]; exact h1 j (by omega)
   ·intro j hj hj2
    rw [getD_set_ne _ (by omega : i ≠ j)]; exact h2 j (by omega) hj2
def left (ops : Array Oper) (listed : Array Bool) : Nat := ((List.range ops.size).filter fun i => !listed.getD i false).length
theorem Z3v {listed : Array Bool} {i : Nat} (hi : i < ops.size) (hs : listed.size = ops.size) (hl : listed.getD i false = false) : left ops listed = left ops (listed.setIfInBounds i true) + 1 := by
 unfold left
 have hlt : i < listed.size := by omega
 have key : ∀ l : List Nat, l.Nodup → i ∈ l → (l.filter fun j => !listed.getD j false).length = (l.filter fun j => !(listed.setIfInBounds i true).getD j false).length + 1 := by
  intro l
  induction l with
  | nil => intro _ h; cases h
  | cons x l ih =>
   intro hn hm
   rw [List.nodup_cons] at hn
   by_cases hx : x = i
   ·subst hx
    have e1 : (!listed.getD x false) = true := by rw [hl]; rfl
    have e2 : (!(listed.setIfInBounds x true).getD x false) = false := by simp [hlt]
    rw [List.filter_cons, List.filter_cons, if_pos e1, e2]
    simp only [Bool.false_eq_true, if_false, List.length_cons]
    congr 1
    refine congrArg List.length (List.filter_congr ?_)
    intro j hj
    have : x ≠ j := fun e => hn.1 (e ▸ hj)
    rw [getD_set_ne _ this]
   ·have hm' : i ∈ l := by rcases List.mem_cons.1 hm with h | h; exact absurd h.symm hx; exact h
    have e0 : (listed.setIfInBounds i true).getD x false = listed.getD x false := getD_set_ne _ (Ne.symm hx)
    rw [List.filter_cons, List.filter_cons, e0]
    split
    ·simp only [List.length_cons]; rw [ih hn.2 hm']
    ·exact ih hn.2 hm'
 exact key _ List.nodup_range (List.mem_range.2 hi)
theorem Z9w {listed : Array Bool} (h : left ops listed ≠ 0) : ∃ i, i < ops.size ∧ listed.getD i false = false ∧ ∀ j, j < i → listed.getD j false = true := by
 have hx : ∃ i, i < ops.size ∧ listed.getD i false = false := by
  unfold left at h
  rw [Ne, List.length_eq_zero_iff] at h
  obtain ⟨i, hi⟩ := List.exists_mem_of_ne_nil _ h
  rw [List.mem_filter, List.mem_range] at hi
  exact ⟨i, hi.1, by simpa using hi.2⟩
 obtain ⟨i, ⟨h1, h2⟩, h3⟩ := Z2b hx
 refine ⟨i, h1, h2, fun j hj => ?_⟩
 cases hb : listed.getD j false with
 | true => rfl
 | false => have := h3 j ⟨by omega, hb⟩; omega
structure Inv (P : Program) (ops : Array Oper) (np : Nat) (ys : Nat → AV) (ps : Nat → AHeap) (s : St) (Z : List Nat) (C0 : Ctx) (H0 : AHeap) (w0 : World) (listed : Array Bool) (a : Act) (w : World) (C : Ctx) : Prop where
 wr : WR C ((List.range np).flatMap (fun j => if listed.getD j false = true then ps j else []) ++ s.H) w
 sl0 : ∀ t x, lk s.T t = some x → (∀ j, j < np → (ops[j]?).bind (·.dst) ≠ some t) → ∃ v, a.tmps[t]? = some v ∧ VR C x v
 sl1 : ∀ j t, j < np → listed.getD j false = true → (ops[j]?).bind (·.dst) = some t → ∃ v, a.tmps[t]? = some v ∧ VR C (ys j) v
 df : a.defers = s.D.map (mark C)
 du : ∀ i, i ∈ s.D → i ∈ C.U
 sz : a.tmps.size = s.n
 av : ∀ j p, j < np → listed.getD j false = false → p ∈ ps j → p.1 ∉ C.U
 ext : Ext Z C0 H0 w0 C ((List.range np).flatMap (fun j => if listed.getD j false = true then ps j else []) ++ s.H) w
 dn : ∀ i o, ops[i]? = some o → listed.getD i false = true → ∀ e, e ∈ o.after → Region.binds .any e = true → listed.getD e.on false = true
theorem Z5f {o : Oper} {t : Nat} (h : Operand.tmp t ∈ o.op.operands) : t ∈ o.looksAt ops :=
 List.mem_append_left _ (List.mem_filterMap.2 ⟨.tmp t, by simpa using h, rfl⟩)
theorem Z2c {o : Oper} {g t : Nat} {c : Bool} {og : Oper} (h : o.guard = some (g, c)) (h2 : ops[g]? = some og) (h3 : og.dst = some t) : t ∈ o.looksAt ops := by
 refine List.mem_append_right _ ?_
 simp [h, h2, h3]
theorem Zeo {U : Nat → Prop} {R : Exit → Act → World → Prop} {np : Nat} {ys : Nat → AV} {ps : Nat → AHeap} {s : St} {Z : List Nat} {C0 : Ctx} {H0 : AHeap} {w0 : World}
  (hnp : np ≤ ops.size) (hE : okEdges ops = true) (hD : okDst ops np = true) (hL : okLooks ops np = true) (hg : ∀ i, i < np → U i → Good P ops s.n ys ps s.T s.H i)
  (hZ : ∀ i p, i < np → p ∈ ps i → p.1 ∉ Z) (hij : ∀ i j p q, i < np → j < np → p ∈ ps i → q ∈ ps j → p.1 = q.1 → i = j) (hnd : ∀ i, i < np → ((ps i).map Prod.fst).Nodup)
  (hend : ∀ (listed : Array Bool) (a : Act) (w : World) (C : Ctx), np = ops.size → (∀ i, i < np → listed.getD i false = true) → Inv P ops np ys ps s Z C0 H0 w0 listed a w C → R .normal a w)
  (hbeh : ∀ (fuel : Nat) (listed : Array Bool) (a : Act) (w : World) (C : Ctx) (i : Nat), listed.size = ops.size → left ops listed = fuel + 1 → (∀ i, np ≤ i → i < ops.size → listed.getD i false = false) → (∀ i, i < np → listed.getD i false = false → U i) → Inv P ops np ys ps s Z C0 H0 w0 listed a w C → np ≤ i → i ∈ Region.ready .any ops listed →
   wpOpIn (Wd ro) 0 P ops R i (wpAnyIn (Wd ro) 0 P .any ops R fuel (listed.setIfInBounds i true)) a w) :
  ∀ (fuel : Nat) (listed : Array Bool) (a : Act) (w : World) (C : Ctx), listed.size = ops.size → left ops listed = fuel → (∀ i, np ≤ i → i < ops.size → listed.getD i false = false) →
   (∀ i, i < np → listed.getD i false = false → U i) → Inv P ops np ys ps s Z C0 H0 w0 listed a w C → wpAnyIn (Wd ro) 0 P .any ops R fuel listed a w := by
 intro fuel
 induction fuel with
 | zero =>
  intro listed a w C hls hleft hun hUl hI
  have hall : ∀ i, i < ops.size → listed.getD i false = true := by
   intro i hi
   cases hb : listed.getD i false with
   | true => rfl
   | false => have := Z3v hi hls hb; omega
  have hnps : np = ops.size := by
   rcases Nat.lt_or_ge np ops.size with h | h
   ·have h1 := hun np (Nat.le_refl _) h
    rw [hall np h] at h1; cases h1
   ·omega
  refine ⟨?_, ?_⟩
  ·rw [List.eq_nil_iff_forall_not_mem]
   intro j hj
   obtain ⟨h3, o, h4, _⟩ := mem_ready.1 hj
   have hlt : j < ops.size := (Array.getElem?_eq_some_iff.1 h4).1
   have := hall j hlt
   simp [hls, hlt] at h3 this
   rw [h3] at this; cases this
  ·exact hend listed a w C hnps (fun i hi => hall i (by omega)) hI
 | succ fuel ih =>
  intro listed a w C hls hleft hun hUl hI
  refine ⟨fun hnil => ?_, fun i hi => ?_⟩
  ·exfalso
   obtain ⟨i, h1, h2, h3⟩ := Z9w (ops := ops) (listed := listed) (by omega)
   have : i ∈ Region.ready .any ops listed := by
    rw [mem_ready]
    refine ⟨?_, ops[i], Array.getElem?_eq_getElem h1, ?_⟩
    ·simp [hls, h1] at h2 ⊢; exact h2
    ·intro e he hbd
     have := List.all_eq_true.1 hE i (List.mem_range.2 h1)
     rw [Array.getElem?_eq_getElem h1] at this
     have h5 := Array.all_eq_true_iff_forall_mem.1 this e he
     rw [hbd, Bool.not_true, Bool.false_or, Nat.blt_eq] at h5
     exact h3 e.on h5
   rw [hnil] at this; cases this
  ·obtain ⟨h3, o, ho, hdeps⟩ := mem_ready.1 hi
   have hlt : i < ops.size := (Array.getElem?_eq_some_iff.1 ho).1
   have hunl : listed.getD i false = false := by simp [hls, hlt] at h3 ⊢; exact h3
   rcases Nat.lt_or_ge i np with hin | hin
   ·-- one of the first part
    obtain ⟨o', ho', hd, hgood⟩ := hg i hin (hUl i hin hunl)
    rw [ho] at ho'; cases ho'
    have hanc : ∀ j, anc ops i i j = true → listed.getD j false = true := fun j hj => Z14 hI.dn i i j o ho hdeps hj
    have hLi := List.all_eq_true.1 hL i (List.mem_range.2 hin)
    simp only [ho] at hLi
    have hlook : ∀ t x, t ∈ o.looksAt ops → lk (TT ops ys s.T i) t = some x → ∃ v, a.tmps[t]? = some v ∧ VR C x v := by
     intro t x htl' hx
     have h5 := List.all_eq_true.1 hLi t htl'
     have h6 : ∀ j, j < np → (ops[j]?).bind (·.dst) = some t → j < i ∧ listed.getD j false = true := by
      intro j hj hjt
      have h7 := List.all_eq_true.1 h5 j (List.mem_range.2 hj)
      rw [hjt] at h7
      simp only [beq_self_eq_true, Bool.not_true, Bool.false_or, Bool.and_eq_true, Nat.blt_eq] at h7
      exact ⟨h7.1, hanc j h7.2⟩
     rcases Z33 i hx with ⟨j, h7, h8, rfl⟩ | ⟨h7, h8⟩
     ·exact hI.sl1 j t (by omega) (h6 j (by omega) h8).2 h8
     ·refine hI.sl0 t x h7 (fun j hj hjt => ?_)
      exact h8 j (h6 j hj hjt).1 hjt
    have hwant : ∀ b, Wanted ops (TT ops ys s.T i) o b → Region.wanted o (yielded ops a.tmps) = b := by
     intro b hb
     rcases hb with ⟨h, rfl⟩ | ⟨g, c, d, og, t, h1, h2, h4, ⟨h5, h6⟩ | ⟨h5, rfl⟩⟩
     ·simp [Region.wanted, h]
     ·obtain ⟨v, h7, h8⟩ := hlook t _ (Z2c h1 h2 h4) h5
      have := VR.val h8
      subst this
      have hy : yielded ops a.tmps g = some d := by
       have hb : (ops[g]?.bind fun x => x.dst) = some t := by rw [h2]; exact h4
       have hb2 : ((ops[g]?.bind fun x => x.dst).bind fun x => a.tmps[x]?) = some (.bool d) := by rw [hb]; exact h7
       unfold yielded
       rw [hb2]
      rw [← h6]
      cases d <;> cases c <;> simp [Region.wanted, h1, hy]
     ·obtain ⟨v, h7, h8⟩ := hlook t _ (Z2c h1 h2 h4) h5
      have := VR.val h8
      subst this
      have hy : yielded ops a.tmps g = none := by
       have hb : (ops[g]?.bind fun x => x.dst) = some t := by rw [h2]; exact h4
       have hb2 : ((ops[g]?.bind fun x => x.dst).bind fun x => a.tmps[x]?) = some undef := by rw [hb]; exact h7
       unfold yielded
       rw [hb2]
       rfl
      simp [Region.wanted, h1, hy]
    have hdst : ∀ j t, j < np → j ≠ i → o.dst = some t → (ops[j]?).bind (·.dst) ≠ some t := by
     intro j t hj hne hot hjt
     have hbi : (ops[i]?).bind (·.dst) = some t := by rw [ho]; exact hot
     rcases Nat.lt_or_ge j i with h | h
     ·have h5 := List.all_eq_true.1 (List.all_eq_true.1 hD i (List.mem_range.2 hin)) j (List.mem_range.2 h)
      rw [hbi, hjt] at h5; simp at h5
     ·have h5 := List.all_eq_true.1 (List.all_eq_true.1 hD j (List.mem_range.2 hj)) i (List.mem_range.2 (by omega))
      rw [hbi, hjt] at h5; simp at h5
    have hset : ∀ j, (listed.setIfInBounds i true).getD j false = if j = i then true else listed.getD j false := by
     intro j
     by_cases e : j = i
     ·subst e; have : j < listed.size := by omega
      simp [this]
     ·rw [if_neg e, getD_set_ne _ (Ne.symm e)]
    have hperm : ((List.range np).flatMap (fun j => if (listed.setIfInBounds i true).getD j false = true then ps j else []) ++ s.H).Perm
      (ps i ++ ((List.range np).flatMap (fun j => if listed.getD j false = true then ps j else []) ++ s.H)) := by
     rw [← List.append_assoc]
     refine List.Perm.append_right _ ?_
     have := Zdx np i (fun j => if listed.getD j false = true then ps j else []) (fun j => if (listed.setIfInBounds i true).getD j false = true then ps j else []) hin (by simp only [hunl]; rfl)
      (fun j hj => by simp only [hset, if_neg hj])
     simp only [hset, if_true] at this ⊢
     exact this
    -- behind it
    have next : ∀ (v : Value) (w1 : World) (C1 : Ctx), VR C1 (ys i) v → WR C1 (ps i ++ ((List.range np).flatMap (fun j => if listed.getD j false = true then ps j else []) ++ s.H)) w1 →
      Ext (Z ++ (List.range np).flatMap (fun j => if j = i then [] else (ps j).map Prod.fst)) C ((List.range np).flatMap (fun j => if listed.getD j false = true then ps j else []) ++ s.H) w C1 (ps i ++ ((List.range np).flatMap (fun j => if listed.getD j false = true then ps j else []) ++ s.H)) w1 →
      wpAnyIn (Wd ro) 0 P .any ops R fuel (listed.setIfInBounds i true) (a.put o.dst v) w1 := by
     intro v w1 C1 hv hw1 he1
     refine ih _ _ _ C1 (by simpa using hls) (by have := Z3v hlt hls hunl; omega) ?_ ?_ ?_
     ·intro j hj hj2
      rw [hset, if_neg (by omega)]; exact hun j hj hj2
     ·intro j hj hlj
      rw [hset] at hlj
      split at hlj
      ·cases hlj
      ·exact hUl j hj hlj
     ·refine ⟨hw1.perm hperm.symm, ?_, ?_, ?_, fun j hj => he1.le.U j (hI.du j hj), ?_, ?_, ?_, ?_⟩
      ·intro t x hx hno
       obtain ⟨u, h5, h6⟩ := hI.sl0 t x hx hno
       refine ⟨u, ?_, h6.mono he1.le⟩
       cases hod : o.dst with
       | none => exact h5
       | some d =>
        have hne : d ≠ t := by
         rintro rfl
         exact hno i hin (by rw [ho]; exact hod)
        simpa [Act.put, Array.getElem?_setIfInBounds_ne hne] using h5
      ·intro j t hj hlj hjt
       by_cases e : j = i
       ·subst e
        have hod : o.dst = some t := by rw [ho] at hjt; exact hjt
        refine ⟨v, ?_, hv⟩
        have := Z0k hd t hod
        rw [← hI.sz] at this
        simp [Act.put, hod, this]
       ·rw [hset, if_neg e] at hlj
        obtain ⟨u, h5, h6⟩ := hI.sl1 j t hj hlj hjt
        refine ⟨u, ?_, h6.mono he1.le⟩
        cases hod : o.dst with
        | none => exact h5
        | some d =>
         have hne : d ≠ t := by
          rintro rfl
          exact hdst j d hj e hod hjt
         simpa [Act.put, Array.getElem?_setIfInBounds_ne hne] using h5
      ·have e1 : (a.put o.dst v).defers = a.defers := by cases o.dst <;> rfl
       rw [e1, hI.df]
       exact List.map_congr_left fun j hj => by simp [mark, he1.le.m j (hI.du j hj), he1.le.df j (hI.du j hj)]
      ·have e1 : (a.put o.dst v).tmps.size = a.tmps.size := by cases o.dst <;> simp [Act.put]
       rw [e1]; exact hI.sz
      ·intro j p hj hlj hp
       by_cases e : j = i
       ·rw [hset, if_pos e] at hlj; cases hlj
       ·rw [hset, if_neg e] at hlj
        refine he1.av p.1 (List.mem_append_right _ (List.mem_flatMap.2 ⟨j, List.mem_range.2 hj, ?_⟩)) (hI.av j p hj hlj hp)
        rw [if_neg e]; exact List.mem_map.2 ⟨p, hp, rfl⟩
      ·exact (hI.ext.trans (he1.subZ (fun z hz => List.mem_append_left _ hz))).permR hperm.symm
      ·intro j o2 ho2 hlj e he hb
       rw [hset]
       split
       ·rfl
       ·by_cases e2 : j = i
        ·subst e2; rw [ho] at ho2; cases ho2; exact hdeps e he hb
        ·rw [hset, if_neg e2] at hlj; exact hI.dn j o2 ho2 hlj e he hb
    unfold wpOpIn
    simp only [ho]
    rcases hgood with ⟨hw, hx, hps⟩ | ⟨hw, Hn, heff, hHn⟩
    ·rw [hwant false hw]
     simp only [Bool.false_eq_true, if_false]
     refine ⟨fun _ _ => trivial, next undef w C (by rw [hx]; exact .v undef) ?_ ?_⟩
     ·rw [hps]; exact hI.wr
     ·rw [hps]; exact .refl ..
    ·rw [hwant true hw]
     simp only [if_true]
     refine ⟨fun _ _ => trivial, ?_⟩
     refine heff (Z ++ (List.range np).flatMap (fun j => if j = i then [] else (ps j).map Prod.fst)) C _ a w hI.wr ?_ ?_ ?_ (hnd i hin) ?_ ro _ _ next
     ·intro p hp
      rcases hHn p hp with h5 | ⟨j, h5, h6, h7⟩
      ·exact List.mem_append_right _ h5
      ·refine List.mem_append_left _ (List.mem_flatMap.2 ⟨j, List.mem_range.2 (by omega), ?_⟩)
       rw [if_pos (hanc j h7)]; exact h6
     ·intro p hp y hy
      cases p with
      | tmp t =>
       obtain ⟨v, h5, h6⟩ := hlook t y (Z5f hp) hy
       have e : a.eval (.tmp t) = v := by simp [Act.eval, h5]
       rw [e]; exact h6
      | const c => cases hy; exact .v c
      | func f => cases hy; exact .fn _ [] #[] rfl (by intro i c x h; simp at h)
      | global g => cases hy
     ·intro p hp; exact hI.av i p hin hunl hp
     ·intro z hz hm
      obtain ⟨p, hp, rfl⟩ := List.mem_map.1 hm
      rcases List.mem_append.1 hz with hz | hz
      ·exact hZ i p hin hp hz
      ·obtain ⟨j, hj, h5⟩ := List.mem_flatMap.1 hz
       split at h5
       ·cases h5
       ·rename_i hne
        obtain ⟨q, hq, h6⟩ := List.mem_map.1 h5
        exact hne (hij j i q p (List.mem_range.1 hj) hin hq hp h6)
   ·exact hbeh fuel listed a w C i hls hleft hun hUl hI hin hi
theorem Zcn {U : Nat → Prop} {R : Exit → Act → World → Prop} {np : Nat} {ys : Nat → AV} {ps : Nat → AHeap} {s : St} {Z : List Nat} {C0 : Ctx} {H0 : AHeap} {w0 : World} {tail : List Oper}
  (ht : tidy ops np = true) (htail : ops.toList.drop np = tail) (hK : ∀ C a w, Ext Z C0 H0 w0 C (HH ps s.H np) w → SR C ⟨TT ops ys s.T np, HH ps s.H np, s.D, s.n⟩ a w → wpOpsIn (Wd ro) 0 P ops R (List.range' np tail.length) a w) (hg : ∀ i, i < np → U i → Good P ops s.n ys ps s.T s.H i)
  (hZ : ∀ i p, i < np → p ∈ ps i → p.1 ∉ Z) (hij : ∀ i j p q, i < np → j < np → p ∈ ps i → q ∈ ps j → p.1 = q.1 → i = j) (hnd : ∀ i, i < np → ((ps i).map Prod.fst).Nodup) :
  ∀ (fuel : Nat) (listed : Array Bool) (a : Act) (w : World) (C : Ctx), listed.size = ops.size → left ops listed = fuel → (∀ i, np ≤ i → i < ops.size → listed.getD i false = false) →
   (∀ i, i < np → listed.getD i false = false → U i) → Inv P ops np ys ps s Z C0 H0 w0 listed a w C → wpAnyIn (Wd ro) 0 P .any ops R fuel listed a w := by
 simp only [tidy, Bool.and_eq_true] at ht
 obtain ⟨⟨⟨⟨hnp, hE⟩, hD⟩, hL⟩, hT⟩ := ht
 have hnp := Nat.le_of_ble_eq_true hnp
 -- when all of the first part have come up
 have whole : ∀ (listed : Array Bool) (a : Act) (w : World) (C : Ctx), (∀ i, i < np → listed.getD i false = true) → Inv P ops np ys ps s Z C0 H0 w0 listed a w C →
   wpOpsIn (Wd ro) 0 P ops R (List.range' np tail.length) a w := by
  intro listed a w C hall hI
  have hp : ((List.range np).flatMap (fun j => if listed.getD j false = true then ps j else []) ++ s.H).Perm (HH ps s.H np) := by
   refine List.Perm.trans ?_ (Z8c ps s.H np).symm
   refine List.Perm.append_right _ ?_
   have : ∀ l : List Nat, (∀ j, j ∈ l → j < np) → l.flatMap (fun j => if listed.getD j false = true then ps j else []) = l.flatMap ps := by
    intro l
    induction l with
    | nil => intro _; rfl
    | cons x l ih => intro h; simp only [List.flatMap_cons]; rw [if_pos (hall x (h x List.mem_cons_self)), ih (fun j hj => h j (List.mem_cons_of_mem _ hj))]
   rw [this _ (fun j hj => List.mem_range.1 hj)]
  refine hK C a w (hI.ext.permR hp) ⟨hI.wr.perm hp, ?_, hI.df, hI.du, hI.sz⟩
  intro t x hx
  rcases Z33 np hx with ⟨j, h1, h2, rfl⟩ | ⟨h1, h2⟩
  ·exact hI.sl1 j t h1 (hall j h1) h2
  ·exact hI.sl0 t x h1 h2
 have htl : tail.length = ops.size - np := by rw [← htail]; simp
 refine Zeo hnp hE hD hL hg hZ hij hnd ?_ ?_
 ·intro listed a w C hnps hall hI
  have := whole listed a w C hall hI
  rw [htl, show ops.size - np = 0 from by omega] at this
  simpa [wpOpsIn] using this
 ·intro fuel listed a w C i hls hleft hun hUl hI hin hi
  obtain ⟨h3, o, ho, hdeps⟩ := mem_ready.1 hi
  have hlt : i < ops.size := (Array.getElem?_eq_some_iff.1 ho).1
  -- the first one behind
  have hall : ∀ j, j < i → listed.getD j false = true := by
   intro j hj
   have h7 := List.all_eq_true.1 hT (i - np) (List.mem_range.2 (by omega))
   rw [show np + (i - np) = i from by omega] at h7
   exact Z14 hI.dn i i j o ho hdeps (List.all_eq_true.1 h7 j (List.mem_range.2 hj))
  have hi' : i = np := by
   rcases Nat.lt_or_ge np i with h | h
   ·have := hun np (Nat.le_refl _) (by omega)
    rw [hall np h] at this; cases this
   ·omega
  have hw := whole listed a w C (fun j hj => hall j (by omega)) hI
  have hfuel : fuel + 1 = ops.size - np := by
   rw [← hleft]
   unfold left
   have : ((List.range ops.size).filter fun j => !listed.getD j false) = List.range' np (ops.size - np) := by
    have e : List.range ops.size = List.range np ++ List.range' np (ops.size - np) := by
     have e3 := List.range'_append_1 (s := 0) (m := np) (n := ops.size - np)
     rw [Nat.zero_add, show np + (ops.size - np) = ops.size from by omega] at e3
     rw [List.range_eq_range', List.range_eq_range', e3]
    rw [e, List.filter_append]
    have e1 : (List.range np).filter (fun j => !listed.getD j false) = [] := by
     rw [List.filter_eq_nil_iff]; intro j hj; rw [hall j (by have := List.mem_range.1 hj; omega)]; simp
    have e2 : (List.range' np (ops.size - np)).filter (fun j => !listed.getD j false) = List.range' np (ops.size - np) := by
     rw [List.filter_eq_self]; intro j hj
     have := List.mem_range'_1.1 hj
     rw [hun j this.1 (by omega)]; rfl
    rw [e1, e2, List.nil_append]
   rw [this, List.length_range']
  have h2 := Zg3 (P := P) (F := Wd ro) (n := 0) (Q := R) hE hT (fuel + 1) np listed a w (Nat.le_refl _) (by omega) hls (fun j hj => hall j (by omega)) (fun j hj hj2 => hun j hj hj2) (by rw [hfuel, ← htl]; exact hw)
  exact h2.2 i hi
theorem Zg2 {R : Exit → Act → World → Prop} {np : Nat} {ys : Nat → AV} {ps : Nat → AHeap} {s : St} {Z : List Nat} {C0 : Ctx} {H0 : AHeap} {w0 : World} {tail : List Oper}
  (ht : tidy ops np = true) (htail : ops.toList.drop np = tail) (hK : ∀ C a w, Ext Z C0 H0 w0 C (HH ps s.H np) w → SR C ⟨TT ops ys s.T np, HH ps s.H np, s.D, s.n⟩ a w → wpOpsIn (Wd ro) 0 P ops R (List.range' np tail.length) a w) (hg : ∀ i, i < np → Good P ops s.n ys ps s.T s.H i)
  (hZ : ∀ i p, i < np → p ∈ ps i → p.1 ∉ Z) (hij : ∀ i j p q, i < np → j < np → p ∈ ps i → q ∈ ps j → p.1 = q.1 → i = j) (hnd : ∀ i, i < np → ((ps i).map Prod.fst).Nodup) :
  ∀ (fuel : Nat) (listed : Array Bool) (a : Act) (w : World) (C : Ctx), listed.size = ops.size → left ops listed = fuel → (∀ i, np ≤ i → i < ops.size → listed.getD i false = false) →
   Inv P ops np ys ps s Z C0 H0 w0 listed a w C → wpAnyIn (Wd ro) 0 P .any ops R fuel listed a w :=
 fun fuel listed a w C h1 h2 h3 h4 => Zcn (U := fun _ => True) ht htail hK (fun i hi _ => hg i hi) hZ hij hnd fuel listed a w C h1 h2 h3 (fun _ _ _ => trivial) h4
theorem Zd6 {Q : Exit → St → Prop} {s : St} {id : Nat} (pre tail : List Oper) {l : List Oper} (hl : l = pre ++ tail) (hm : P.follows .mixedOrders = true) (ht : tidy l.toArray pre.length = true)
  (h : Calm P l.toArray s.H (AOps P ro l.toArray tail Q) 0 pre [] s) : AWp P ro (.region id l.toArray true) Q s := by
 intro Z C0 H0 w0 C a w he hs
 refine wpIn_region_any hm ?_
 obtain ⟨ys, ps, h1, h2, h3, h4, h5⟩ := h.tell (T0 := s.T) (D := s.D) (n := s.n) (C.U ++ Z) (fun _ => .v undef) (fun _ => []) (by subst hl; simp) rfl (fun i hi => absurd hi (Nat.not_lt_zero _)) (fun j p hp => nomatch hp) (fun i p hi => absurd hi (Nat.not_lt_zero _)) (fun i j p q hi => absurd hi (Nat.not_lt_zero _)) (fun i hi => absurd hi (Nat.not_lt_zero _))
 simp only [Nat.zero_add] at h1 h2 h3 h4 h5
 have hw1 : WR C s.H { w with drawn := w.drawn + 1 } := ⟨hs.wr.hp, hs.wr.nd, fun i o hi => ⟨(hs.wr.ids i o hi).1, (hs.wr.ids i o hi).2.keep (.refl C) (hs.wr.ids i o hi).1 (fun _ _ _ => rfl)⟩, hs.wr.inj, hs.wr.dis⟩
 have he1 : Ext Z C0 H0 w0 C s.H { w with drawn := w.drawn + 1 } := ⟨he.le, he.av, he.os, he.tape, he.output, he.size, he.fr, he.nhp, he.nbl, he.nid⟩
 have hflat : (List.range pre.length).flatMap (fun j => if (Array.replicate l.toArray.size false).getD j false = true then ps j else []) = [] := by
  rw [List.flatMap_eq_nil_iff]
  intro j hj
  rw [if_neg]
  rw [Array.getD_eq_getD_getElem?, Array.getElem?_replicate]
  split <;> simp
 have hf : ∀ i, (Array.replicate l.toArray.size false).getD i false = false := by
  intro i
  rw [Array.getD_eq_getD_getElem?, Array.getElem?_replicate]
  split <;> rfl
 refine Zg2 (ys := ys) (ps := ps) (s := s) (np := pre.length) (tail := tail) ht (by subst hl; simp) (fun C a w hx hsr => h1 pre.length (by subst hl; simp) Z C0 H0 w0 C a w hx hsr) h2 (fun i p hi hp hz => h3 i p hi hp (List.mem_append_right _ hz)) h4 h5 l.toArray.size _ _ _ C (by simp) ?_ (fun i _ _ => hf i) ?_
 ·unfold left
  rw [List.filter_eq_self.2 (fun i _ => by rw [hf]; rfl), List.length_range]
 ·refine ⟨by rw [hflat]; exact hw1, fun t x hx _ => hs.sl t x hx, fun j t _ hj => (by rw [hf] at hj; cases hj), hs.df, hs.du, hs.sz, fun j p hj _ hp => fun hu => h3 j p hj hp (List.mem_append_left _ hu), by rw [hflat]; exact he1, fun i o _ hi => (by rw [hf] at hi; cases hi)⟩
end
end Go.Sx
namespace Go.Sx
open Go
section
variable {P : Program} {ro : Option Nat} {Q : Exit → St → Prop} {s : St} {ops : Array Oper} {o : Oper} {rest : List Oper}
theorem Z5 {x : AV} (hw : Wanted ops s.T o true) (hd : dok o.dst s.n = true)
  (he : Eff P o s.T [] x []) (h : AOps P ro ops rest Q { s with T := put s.T o.dst x }) : AOps P ro ops (o :: rest) Q s :=
 Z3j [] x hw hd he nofun h
theorem Z1a {x : Nat → AV} {ob : Nat → AObj} (hw : Wanted ops s.T o true) (hd : dok o.dst s.n = true)
  (he : ∀ id, Eff P o s.T [] (x id) [(id, ob id)]) (h : ∀ id, AOps P ro ops rest Q { s with T := put s.T o.dst (x id), H := (id, ob id) :: s.H }) : AOps P ro ops (o :: rest) Q s :=
 Zb5 [] x ob hw hd he nofun h
theorem Z0h {t : TypeId} {p : Operand} {id sz i c el : Nat} {es : List (List AV)} {e : List AV} {x : AV} (k : Nat) (hw : Wanted ops s.T o true) (hd : dok o.dst s.n = true)
  (ho : o.op = .load t p) (hp : ev s.T p = some (.ptr id sz i c)) (hH : s.H[k]? = some (id, .rows el sz es)) (he : es[i]? = some e) (hl : Ld P t (e.drop c) x)
  (h : AOps P ro ops rest Q { s with T := put s.T o.dst x }) : AOps P ro ops (o :: rest) Q s :=
 Z3j [(id, .rows el sz es)] x hw hd (Z1l ho hp ⟨el, es, e, List.mem_cons_self, he, rfl⟩ hl) (fun p hp => by rw [List.mem_singleton.1 hp]; exact List.mem_of_getElem? hH) h
variable {H0 : AHeap} {K : St → Prop} {k : Nat} {M : List (Nat × (Nat × AObj))}
theorem Za {x : AV} (hw : Wanted ops s.T o true) (hd : dok o.dst s.n = true)
  (he : Eff P o s.T [] x []) (h : Calm P ops H0 K (k + 1) rest M { s with T := put s.T o.dst x }) : Calm P ops H0 K k (o :: rest) M s :=
 .eff [] x hw hd he nofun h
theorem Zm {t : TypeId} {p : Operand} {id sz i c el : Nat} {es : List (List AV)} {e : List AV} {x : AV} (j : Nat) (hw : Wanted ops s.T o true) (hd : dok o.dst s.n = true)
  (ho : o.op = .load t p) (hp : ev s.T p = some (.ptr id sz i c)) (hH : H0[j]? = some (id, .rows el sz es)) (he : es[i]? = some e) (hl : Ld P t (e.drop c) x)
  (h : Calm P ops H0 K (k + 1) rest M { s with T := put s.T o.dst x }) : Calm P ops H0 K k (o :: rest) M s :=
 .eff [(id, .rows el sz es)] x hw hd (Z1l ho hp ⟨el, es, e, List.mem_cons_self, he, rfl⟩ hl) (fun p hp => .inl (by rw [List.mem_singleton.1 hp]; exact List.mem_of_getElem? hH)) h
def SubT (T : List (Nat × AV)) : List (Nat × AV) → Prop
 | [] => True
 | (t, x) :: r => lk T t = some x ∧ SubT T r
theorem SubT.lk {T : List (Nat × AV)} : ∀ {T' : List (Nat × AV)}, SubT T T' → ∀ t x, lk T' t = some x → lk T t = some x
 | [], _, t, x, h => by simp [Sx.lk] at h
 | (u, y) :: r, hs, t, x, h => by
  simp only [Sx.lk] at h
  cases hb : Nat.beq u t with
  | true =>
   have e := Nat.eq_of_beq_eq_true hb
   subst e
   simp only [hb, cond_true, Option.some.injEq] at h
   subst h; exact hs.1
  | false =>
   simp only [hb, cond_false] at h
   exact hs.2.lk t x h
def pick (H : AHeap) : List Nat → Option AHeap
 | [] => some []
 | k :: r => match H[k]?, pick H r with
  | some p, some q => some (p :: q)
  | _, _ => none
theorem Z3x {H : AHeap} : ∀ {ks : List Nat} {H' : AHeap}, pick H ks = some H' → (∀ p, p ∈ H' → ∃ k, k ∈ ks ∧ H[k]? = some p)
 | [], H', h => by simp only [pick, Option.some.injEq] at h; subst h; intro p hp; cases hp
 | k :: r, H', h => by
  simp only [pick] at h
  split at h
  ·rename_i p q h1 h2
   simp only [Option.some.injEq] at h
   subst h
   intro x hx
   rcases List.mem_cons.1 hx with rfl | hx
   ·exact ⟨k, List.mem_cons_self, h1⟩
   ·obtain ⟨j, a, b⟩ := Z3x h2 x hx
    exact ⟨j, List.mem_cons_of_mem _ a, b⟩
  ·cases h
theorem Z4b {H : AHeap} (hn : (H.map Prod.fst).Nodup) : ∀ {ks : List Nat} {H' : AHeap}, pick H ks = some H' → ks.Nodup → (H'.map Prod.fst).Nodup
 | [], H', h, _ => by simp only [pick, Option.some.injEq] at h; subst h; exact List.nodup_nil
 | k :: r, H', h, hk => by
  simp only [pick] at h
  split at h
  ·rename_i p q h1 h2
   simp only [Option.some.injEq] at h
   subst h
   rw [List.nodup_cons] at hk
   rw [List.map_cons, List.nodup_cons]
   refine ⟨?_, Z4b hn h2 hk.2⟩
   intro hm
   obtain ⟨x, hx, he⟩ := List.mem_map.1 hm
   obtain ⟨j, hj, hj2⟩ := Z3x h2 x hx
   have e1 : (H.map Prod.fst)[k]? = some p.1 := by rw [List.getElem?_map, h1]; rfl
   have e2 : (H.map Prod.fst)[j]? = some p.1 := by rw [List.getElem?_map, hj2]; simp [he]
   have hkl : k < (H.map Prod.fst).length := (List.getElem?_eq_some_iff.1 e1).1
   have := (List.getElem?_inj hkl hn).1 (e1.trans e2.symm)
   subst this
   exact hk.1 hj
  ·cases h
theorem Z8 {s' : St} (ks : List Nat) (hT : SubT s.T s'.T) (hH : pick s.H ks = some s'.H) (hk : ks.Nodup) (hD : s'.D = s.D) (hn : s'.n = s.n) : Weak s s' := by
 intro Z C a w hs
 have hsub : ∀ p, p ∈ s'.H → p ∈ s.H := fun p hp => by obtain ⟨k, _, h⟩ := Z3x hH p hp; exact List.mem_of_getElem? h
 exact ⟨C, ⟨hs.wr.sub hsub (Z4b hs.wr.nd hH hk), fun t x hx => hs.sl t x (hT.lk t x hx), by rw [hs.df, hD], by rw [hD]; exact hs.du, by rw [hs.sz, hn]⟩, Ext.sub hsub⟩
theorem Z0x {α : Type} (l m : List α) (o p : Nat) (h : o + m.length ≤ l.length) : (l.take o ++ m ++ l.drop (o + m.length))[p]? = if p < o then l[p]? else if p < o + m.length then m[p - o]? else l[p]? := by
 have ho : (l.take o).length = o := by rw [List.length_take]; omega
 rw [List.getElem?_append]
 rw [List.length_append, ho]
 split
 ·rename_i h1
  rw [List.getElem?_append, ho]
  split
  ·rename_i h2; rw [List.getElem?_take, if_pos h2]
  ·rfl
 ·rename_i h1
  rw [if_neg (by omega), List.getElem?_drop]
  congr 1; omega
theorem Z16 {i j sz k : Nat} (h : i < j) (hk : k < sz) : i * sz + k < j * sz := by
 have : (i + 1) * sz ≤ j * sz := Nat.mul_le_mul_right _ h
 rw [Nat.add_mul] at this
 omega
theorem Z0r {t n id sz i c el : Nat} {b : Bool} {p q : Operand} {es : List (List AV)} {e : List AV} {x : AV} (k : Nat) [kt : TK P t b n] (hw : Wanted ops s.T o true) (hd : dok o.dst s.n = true)
  (ho : o.op = .store t p q) (hp : ev s.T p = some (.ptr id sz i c)) (hH : s.H[k]? = some (id, .rows el sz es)) (he : es[i]? = some e) (hq : ev s.T q = some x)
  (hx : (cellsA x).length = n) (h1 : (cellsA x).all one = true) (hc : Nat.ble (c + n) sz = true)
  (h : AOps P ro ops rest Q { s with T := put s.T o.dst (.v undef), H := s.H.set k (id, .rows el sz (es.set i (e.take c ++ cellsA x ++ e.drop (c + (cellsA x).length)))) }) : AOps P ro ops (o :: rest) Q s := by
 refine Z10 hw ?_
 intro Z C0 H0 w0 C a w hx0 hs
 have hc := Nat.le_of_ble_eq_true hc
 have hmem := List.mem_of_getElem? hH
 obtain ⟨hu, hlen, hor⟩ := hs.wr.ids _ _ hmem
 have hpv := hs.ev hp
 have hqv := hs.ev hq
 obtain ⟨hcl, hcr⟩ := Z1o hqv
 have hone := Zfl hcl hcr h1
 have hel : e.length = sz := hlen e (List.mem_of_getElem? he)
 have hie : i < es.length := (List.getElem?_eq_some_iff.1 he).1
 rcases hor with ⟨hm, _⟩ | ⟨b', N, cells, hm, hh, hsz, hfit, hrow⟩
 ·generalize a.eval p = u at hpv
  cases hpv with
  | ptr _ _ _ _ b2 N2 hid _ => rw [hm] at hid; cases hid
 ·have hpe : a.eval p = .pointer (some ⟨b', i * sz + c, none⟩) := by
   generalize a.eval p = u at hpv
   cases hpv with
   | ptr _ _ _ _ b2 N2 hid _ => rw [hm] at hid; cases hid; rfl
  have hrowfit : i * sz + sz ≤ es.length * sz := by
   have : (i + 1) * sz ≤ es.length * sz := Nat.mul_le_mul_right _ hie
   rw [Nat.add_mul] at this; omega
  have hvs : (a.eval q).cells.toList.length = n := by rw [Array.length_toList, ← hcl, hx]
  have hst := run_storeCells_at P b' (i * sz + c) el (a.eval q).cells.toList 0 cells w hh (by rw [hvs]; omega) (by
   intro v hv
   obtain ⟨j, hj⟩ := List.mem_iff_getElem?.1 hv
   exact hone j v (by rw [← Array.getElem?_toList]; exact hj))
  simp only [Nat.add_zero] at hst
  have hrun : (o.semAt ro a.eval).run P w = .ok .skip (w.setRow b' (cells.toList.take (i * sz + c) ++ (a.eval q).cells.toList ++ cells.toList.drop (i * sz + c + (a.eval q).cells.toList.length)).toArray) := by
   rw [Oper.semAt_eq _ _ _ (by intro c; rw [ho]; nofun)]
   have hsz1 : (a.eval q).cells.size = n := by rw [← hcl, hx]
   simp [execOp, ho, Instr.storeAt, hpe, Instr.sureAddr, storeVar, Z0g kt.tk, hsz1, Sem.run_bind, Result.andThen]
   rw [hst]
   simp [hsz1]
  rw [hrun]
  obtain ⟨hw1, he1⟩ := Z0p (Z := Z) (C' := C) (id' := id) (o' := .rows el sz (es.set i (e.take c ++ cellsA x ++ e.drop (c + (cellsA x).length))))
   (w' := w.setRow b' (cells.toList.take (i * sz + c) ++ (a.eval q).cells.toList ++ cells.toList.drop (i * sz + c + (a.eval q).cells.toList.length)).toArray) hs.wr hH (.refl C) rfl (.inl rfl) hu (fun _ _ h => h) rfl rfl rfl (by simp)
   (fun b N' hm' => .inl ⟨N', hm'⟩) (fun b hb hne => setRow_other w b' b _ (by rintro rfl; exact hne N hm)) (by
    refine ⟨?_, .inr ⟨b', N, _, hm, setRow_heap w b' cells _ el (0, 0) hh, ?_, by simpa using hfit, ?_⟩⟩
    ·intro e' he'
     rcases List.mem_or_eq_of_mem_set he' with h2 | h2
     ·exact hlen e' h2
     ·subst h2
      simp only [List.length_append, List.length_take, List.length_drop]
      omega
    ·simp only [List.size_toArray, List.length_append, List.length_take, List.length_drop, Array.length_toList]
     have := hvs
     rw [Array.length_toList] at this
     omega
    ·intro i' e' j cc he' hcc
     rw [List.getElem?_toArray, Z0x _ _ _ _ (by rw [hvs, Array.length_toList]; omega), hvs]
     rw [List.getElem?_set] at he'
     by_cases hi : i = i'
     ·subst hi
      rw [if_pos rfl, if_pos hie] at he'
      simp only [Option.some.injEq] at he'
      subst he'
      rw [Z0x _ _ _ _ (by omega), hx] at hcc
      have hjlt : j < sz := by
       rcases Nat.lt_or_ge j sz with h2 | h2
       ·exact h2
       ·rw [if_neg (by omega), if_neg (by omega), List.getElem?_eq_none (by omega)] at hcc; cases hcc
      by_cases hj1 : j < c
      ·rw [if_pos hj1] at hcc
       rw [if_pos (by omega)]
       rw [Array.getElem?_toList]
       exact hrow i e j cc he hcc
      ·rw [if_neg hj1] at hcc
       rw [if_neg (by omega)]
       by_cases hj2 : j < c + n
       ·rw [if_pos hj2] at hcc
        rw [if_pos (by omega), show i * sz + j - (i * sz + c) = j - c from by omega]
        have hlt : j - c < (a.eval q).cells.size := by rw [← hcl]; exact (List.getElem?_eq_some_iff.1 hcc).1
        have hg : (a.eval q).cells[j - c]? = some (a.eval q).cells[j - c] := Array.getElem?_eq_getElem hlt
        exact ⟨_, by rw [Array.getElem?_toList]; exact hg, hcr _ _ _ hcc hg, hone _ _ hg⟩
       ·rw [if_neg hj2] at hcc
        rw [if_neg (by omega), Array.getElem?_toList]
        exact hrow i e j cc he hcc
     ·rw [if_neg hi] at he'
      have hel' : e'.length = sz := hlen e' (List.mem_of_getElem? he')
      have hj : j < sz := by rw [← hel']; exact (List.getElem?_eq_some_iff.1 hcc).1
      have hout : ¬ (i * sz + c ≤ i' * sz + j ∧ i' * sz + j < i * sz + c + n) := by
       rintro ⟨h2, h3⟩
       rcases Nat.lt_or_ge i i' with h4 | h4
       ·have := Z16 (k := c + n - 1) (sz := sz) h4 (by omega)
        omega
       ·have h5 : i' < i := by omega
        have := Z16 (k := j) (sz := sz) h5 hj
        omega
      have hg := hrow i' e' j cc he' hcc
      rw [← Array.getElem?_toList] at hg
      split
      ·exact hg
      ·split
       ·exact (hout ⟨by omega, by omega⟩).elim
       ·exact hg)
  exact ⟨C, _, h, hs.put he1.le hw1 (Z0k hd) (.v undef), hx0.trans he1⟩
end
end Go.Sx
namespace Go.Sx
open Go
def SlA (H : AHeap) (sz : Nat) : AV → List (List AV) → Prop
 | .lst es, ys => ys = es ∧ ∀ e : List AV, e ∈ es → e.length = sz
 | .own id sz' off len, ys => sz' = sz ∧ ∃ el es, (id, AObj.rows el sz es) ∈ H ∧ off + len ≤ es.length ∧ ys = (es.drop off).take len
 | .v (.slice none 0 0), ys => ys = []
 | _, _ => False
theorem Z08 {α : Type} {l : List α} {i : Nat} {x : α} (h : l[i]? = some x) : i < l.length := (List.getElem?_eq_some_iff.1 h).1
theorem Z8l {w : World} {b : Nat} {cells : Array Value} {el : TypeId} {fz : Nat × Nat} (h : w.heap[b]? = some (.cells cells el fz)) (o j : Nat) : w.cell? ((⟨b, o, none⟩ : Addr).add j) = cells[o + j]? := by
 rw [Z3i, Z8o h]
theorem SlA.cells {H : AHeap} {sz : Nat} {y : AV} {ys : List (List AV)} {C : Ctx} {w : World} {v : Value} (h : SlA H sz y ys) (hw : WR C H w) (hv : VR C y v) :
  ∃ ad c, v = .slice ad ys.length c ∧ (ad = none → ys = []) ∧ (∀ e : List AV, e ∈ ys → e.length = sz) ∧ ∀ a, ad = some a →
   ∃ news : List Value, news.length = ys.length * sz ∧ (∀ (j : Nat) (u : Value), news[j]? = some u → w.cell? (a.add j) = some u) ∧ (∀ u, u ∈ news → u.oneCell' = true) ∧
    ∀ (i : Nat) (e : List AV) (j : Nat) (cc : AV), ys[i]? = some e → e[j]? = some cc → ∃ u, news[i * sz + j]? = some u ∧ VR C cc u := by
 -- out of a block's cells, from a place on
 have build : ∀ (b o m : Nat) (cells : Array Value) (el : TypeId) (fz : Nat × Nat) (zs : List (List AV)), w.heap[b]? = some (.cells cells el fz) → zs.length = m → (∀ e : List AV, e ∈ zs → e.length = sz) →
   (∀ (i : Nat) (e : List AV) (j : Nat) (cc : AV), zs[i]? = some e → e[j]? = some cc → ∃ u, cells[o + i * sz + j]? = some u ∧ VR C cc u ∧ u.oneCell' = true) →
   ∃ news : List Value, news.length = m * sz ∧ (∀ (j : Nat) (u : Value), news[j]? = some u → w.cell? ((⟨b, o, none⟩ : Addr).add j) = some u) ∧ (∀ u, u ∈ news → u.oneCell' = true) ∧
    ∀ (i : Nat) (e : List AV) (j : Nat) (cc : AV), zs[i]? = some e → e[j]? = some cc → ∃ u, news[i * sz + j]? = some u ∧ VR C cc u := by
  intro b o m cells el fz zs hh hm hz hc
  have hall : ∀ k, k < m * sz → ∃ u, cells[o + k]? = some u ∧ u.oneCell' = true := by
   intro k hk
   have hsz : 0 < sz := by
    rcases Nat.eq_zero_or_pos sz with h0 | h0
    ·subst h0; simp at hk
    ·exact h0
   have hi : k / sz < m := Nat.div_lt_of_lt_mul (by rw [Nat.mul_comm]; exact hk)
   have hj : k % sz < sz := Nat.mod_lt _ hsz
   have hzi : zs[k / sz]? = some zs[k / sz] := List.getElem?_eq_getElem (by omega)
   have hel := hz _ (List.getElem_mem (by omega : k / sz < zs.length))
   have hej : zs[k / sz][k % sz]? = some zs[k / sz][k % sz] := List.getElem?_eq_getElem (by omega)
   obtain ⟨u, h1, _, h3⟩ := hc _ _ _ _ hzi hej
   refine ⟨u, ?_, h3⟩
   have := Nat.div_add_mod k sz
   rw [Nat.mul_comm] at this
   rw [show o + k = o + k / sz * sz + k % sz from by omega]; exact h1
  have hbig : m * sz = 0 ∨ o + m * sz ≤ cells.size := by
   rcases Nat.eq_zero_or_pos (m * sz) with h0 | h0
   ·exact .inl h0
   ·obtain ⟨u, h1, _⟩ := hall (m * sz - 1) (by omega)
    have := (Array.getElem?_eq_some_iff.1 h1).1
    exact .inr (by omega)
  have hlen : ((cells.toList.drop o).take (m * sz)).length = m * sz := by
   rw [List.length_take, List.length_drop, Array.length_toList]; omega
  have hget : ∀ j, j < m * sz → ((cells.toList.drop o).take (m * sz))[j]? = cells[o + j]? := by
   intro j hj
   rw [List.getElem?_take, if_pos hj, List.getElem?_drop, Array.getElem?_toList]
  refine ⟨(cells.toList.drop o).take (m * sz), hlen, ?_, ?_, ?_⟩
  ·intro j u hu
   have hj := Z08 hu
   rw [hlen] at hj
   rw [hget j hj] at hu
   rw [Z8l hh]; exact hu
  ·intro u hu
   obtain ⟨j, hj⟩ := List.mem_iff_getElem?.1 hu
   have hlt := Z08 hj
   rw [hlen] at hlt
   rw [hget j hlt] at hj
   obtain ⟨u', h1, h2⟩ := hall j hlt
   rw [h1] at hj; cases hj; exact h2
  ·intro i e j cc he hcc
   obtain ⟨u, h1, h2, _⟩ := hc i e j cc he hcc
   have hi := Z08 he
   have hj : j < sz := by rw [← hz e (List.mem_of_getElem? he)]; exact Z08 hcc
   have := Z16 (k := j) (sz := sz) (i := i) (j := m) (by omega) hj
   refine ⟨u, ?_, h2⟩
   rw [hget _ this, show o + (i * sz + j) = o + i * sz + j from by omega]; exact h1
 cases y with
 | lst es =>
  obtain ⟨rfl, hz⟩ := h
  cases hv with
  | lstNil => exact ⟨none, 0, rfl, fun _ => rfl, hz, nofun⟩
  | lst _ a sz' cap cells elem fz xs hs hb hz' hc hvv ho hcap =>
   refine ⟨some a, cap, rfl, nofun, hz, ?_⟩
   rintro a' ha
   cases ha
   rcases List.eq_nil_or_concat ys with rfl | ⟨_, _, hne⟩
   ·exact ⟨[], by simp, (by intro j u h; simp at h), (by intro u h; cases h), (by intro i e j cc h; simp at h)⟩
   ·have hne' : ys ≠ [] := by rw [hne]; simp
    have hsz : sz' = sz := by
     obtain ⟨e, r, rfl⟩ : ∃ e r, ys = e :: r := by cases ys with | nil => exact absurd rfl hne' | cons e r => exact ⟨e, r, rfl⟩
     rw [← hz' e List.mem_cons_self, hz e List.mem_cons_self]
    subst hsz
    obtain ⟨news, h1, h2, h3, h4⟩ := build a.block a.off ys.length cells elem fz ys (hw.hp _ _ (hb hne')) rfl hz (fun i e j cc he hcc => ⟨xs i j, hc i e j cc he hcc, hvv i e j cc he hcc, ho i e j cc he hcc⟩)
    have ea : (⟨a.block, a.off, none⟩ : Addr) = a := by have hs := hs hne'; cases a; simp at hs; simp [hs]
    rw [ea] at h2
    exact ⟨news, h1, h2, h3, h4⟩
 | own id sz' off len =>
  obtain ⟨rfl, el, es, hmem, hfit, rfl⟩ := h
  obtain ⟨hu, hlen, hor⟩ := hw.ids _ _ hmem
  have hl : ((es.drop off).take len).length = len := by rw [List.length_take, List.length_drop]; omega
  have hz : ∀ e : List AV, e ∈ (es.drop off).take len → e.length = sz' := fun e he => hlen e (List.mem_of_mem_drop (List.mem_of_mem_take he))
  cases hv with
  | ownNil => exact ⟨none, 0, by simp, fun _ => by simp, hz, nofun⟩
  | own _ _ _ _ b N cap hid _ hcap hlc hml =>
   refine ⟨some ⟨b, off * sz', none⟩, cap, by rw [hl], nofun, hz, ?_⟩
   rintro a' ha
   cases ha
   rcases hor with ⟨hm, _⟩ | ⟨b', N', cells, hm, hh, hs, hf, hrow⟩
   ·rw [hid] at hm; cases hm
   ·rw [hid] at hm; cases hm
    rw [hl]
    refine build b (off * sz') len cells el (0, 0) _ hh hl hz ?_
    intro i e j cc he hcc
    have hi := Z08 he
    rw [hl] at hi
    rw [List.getElem?_take, if_pos hi, List.getElem?_drop] at he
    obtain ⟨u, h1, h2, h3⟩ := hrow _ e j cc he hcc
    refine ⟨u, ?_, h2, h3⟩
    rw [Nat.add_mul] at h1; exact h1
 | v x =>
  cases x with
  | slice ad l c =>
   unfold SlA at h
   split at h
   ·rename_i heq; cases heq
   ·rename_i heq; cases heq
   ·rename_i heq; cases heq
    subst h
    cases hv
    exact ⟨none, 0, rfl, fun _ => rfl, nofun, nofun⟩
   ·exact h.elim
  | _ => exact h.elim
 | _ => exact h.elim
def _root_.Go.Program.ap (P : Program) (e : TypeId) : Option (Nat × Nat) :=
 match P.info? e with
 | some i => match i.zero with
  | some z => if z.cells.size = i.size ∧ 0 < i.size then some (i.size, i.bytes) else none
  | none => none
 | none => none
class AP (P : Program) (e : TypeId) (size bytes : outParam Nat) : Prop where
 ap : P.ap e = some (size, bytes)
theorem AP.open {P : Program} {e size bytes : Nat} (h : P.ap e = some (size, bytes)) : ∃ i z, P.info? e = some i ∧ i.zero = some z ∧ i.size = size ∧ i.bytes = bytes ∧ z.cells.size = size ∧ 0 < size := by
 unfold Program.ap at h
 split at h
 ·rename_i i hi
  split at h
  ·rename_i z hz
   split at h
   ·rename_i hc
    simp only [Option.some.injEq, Prod.mk.injEq] at h
    obtain ⟨rfl, rfl⟩ := h
    exact ⟨i, z, hi, hz, rfl, rfl, hc.1, hc.2⟩
   ·cases h
  ·cases h
 ·cases h
section
variable {P : Program} {ro : Option Nat} {Q : Exit → St → Prop} {s : St} {ops : Array Oper} {o : Oper} {rest : List Oper}
theorem Zem {C : Ctx} {id N : Nat} {w w1 : World} {el sz : TypeId} {olds news zs : List Value} {xs ys : List (List AV)} (hm : C.m id = some (w.heap.size, N))
  (hh : w1.heap[w.heap.size]? = some (.cells (olds ++ news ++ zs).toArray el (0, 0))) (hN : (olds ++ news ++ zs).length = N)
  (hx : ∀ e : List AV, e ∈ xs → e.length = sz) (hy : ∀ e : List AV, e ∈ ys → e.length = sz) (ho : olds.length = xs.length * sz) (hn : news.length = ys.length * sz)
  (hox : ∀ (i : Nat) (e : List AV) (j : Nat) (cc : AV), xs[i]? = some e → e[j]? = some cc → ∃ u, olds[i * sz + j]? = some u ∧ VR C cc u)
  (hnx : ∀ (i : Nat) (e : List AV) (j : Nat) (cc : AV), ys[i]? = some e → e[j]? = some cc → ∃ u, news[i * sz + j]? = some u ∧ VR C cc u)
  (h1 : ∀ u, u ∈ olds → u.oneCell' = true) (h2 : ∀ u, u ∈ news → u.oneCell' = true) : OR C id w1 (.rows el sz (xs ++ ys)) := by
 refine ⟨?_, .inr ⟨w.heap.size, N, _, hm, hh, by simpa using hN, ?_, ?_⟩⟩
 ·intro e he
  rcases List.mem_append.1 he with h | h
  ·exact hx e h
  ·exact hy e h
 ·rw [← hN, List.length_append, List.length_append, List.length_append, ho, hn, Nat.add_mul]; omega
 ·intro i e j cc he hcc
  rw [List.getElem?_append] at he
  rw [List.getElem?_toArray, List.append_assoc]
  split at he
  ·rename_i hlt
   obtain ⟨u, h3, h4⟩ := hox i e j cc he hcc
   exact ⟨u, by rw [List.getElem?_append_left (Z08 h3)]; exact h3, h4, h1 u (List.mem_of_getElem? h3)⟩
  ·rename_i hge
   obtain ⟨u, h3, h4⟩ := hnx (i - xs.length) e j cc he hcc
   have e1 : i * sz + j = olds.length + ((i - xs.length) * sz + j) := by
    have hx : xs.length * sz + (i - xs.length) * sz = i * sz := by rw [← Nat.add_mul]; congr 1; omega
    rw [ho]; omega
   refine ⟨u, ?_, h4, h2 u (List.mem_of_getElem? h3)⟩
   rw [e1, List.getElem?_append_right (by omega), Nat.add_sub_cancel_left, List.getElem?_append_left (Z08 h3)]
   exact h3
def Ctx.bindO (C : Ctx) (id : Nat) (x : Option (Nat × Nat)) : Ctx := { C with m := fun i => if i = id then x else C.m i, U := id :: C.U }
theorem Ctx.le_bindO {C : Ctx} {id : Nat} {x : Option (Nat × Nat)} (h : id ∉ C.U) : C.Le (C.bindO id x) :=
 ⟨fun _ _ h => h, fun i hi => if_neg (fun e : i = id => h (by rw [← e]; exact hi)), fun i hi => List.mem_cons_of_mem _ hi, fun _ _ => rfl⟩
theorem Ctx.bindO_m (C : Ctx) (id : Nat) (x : Option (Nat × Nat)) : (C.bindO id x).m id = x := if_pos rfl
theorem Z46 {C : Ctx} {H : AHeap} {w : World} {Z : List Nat} {t ty e size bytes id id' k : Nat} {v vy : Value} {y : AV} {xs ys : List (List AV)} [hu : UD P t (.slice e)] [ha : AP P e size bytes]
  (hs : WR C H w) (hH : H[k]? = some (id, .rows e size xs)) (hp : VR C (.own id size 0 xs.length) v) (hq : VR C y vy) (hy : SlA H size y ys)
  (hml : (xs.length + ys.length) * bytes ≤ 140737488355328) (hm : xs.length + ys.length ≤ maxLen) (hid : id' ∉ C.U) (hidz : id' ∉ Z) :
  ∃ v' w' C', (Builtin.append_ #[t, t] ty #[v, vy]).run P w = .ok v' w' ∧ VR C' (.own id' size 0 (xs.length + ys.length)) v' ∧ WR C' (H.set k (id', .rows e size (xs ++ ys))) w' ∧ Ext Z C H w C' (H.set k (id', .rows e size (xs ++ ys))) w' := by
 obtain ⟨i, z, hi, hz, hsz, hby, hzs, hpos⟩ := AP.open ha.ap
 obtain ⟨ad, c, rfl, hnil, hlen, hcells⟩ := hy.cells hs hq
 have hmem := List.mem_of_getElem? hH
 have hown : SlA H size (.own id size 0 xs.length) xs := ⟨rfl, e, xs, hmem, by omega, by simp⟩
 obtain ⟨hu', hlenx, hor⟩ := hs.ids _ _ hmem
 obtain ⟨adp, cp, hv, hnilp, _, hcellsp⟩ := hown.cells hs hp
 have hav : ∀ x, ∀ z, z ∈ Z → z ∉ C.U → z ∉ (C.bindO id' x).U := by
  intro x z hz' hn
  simp only [Ctx.bindO, List.mem_cons, not_or]
  exact ⟨fun e => hidz (e ▸ hz'), hn⟩
 have hle : ∀ x, C.Le (C.bindO id' x) := fun x => Ctx.le_bindO hid
 -- the row under its new name, where nothing is put
 have same : ys = [] → WR (C.bindO id' (C.m id)) (H.set k (id', .rows e size (xs ++ ys))) w ∧ Ext Z C H w (C.bindO id' (C.m id)) (H.set k (id', .rows e size (xs ++ ys))) w := by
  rintro rfl
  refine Z0p hs hH (hle _) rfl (.inr hid) List.mem_cons_self (hav _) rfl rfl rfl (Nat.le_refl _) (fun b N hm => .inl ⟨N, by rw [Ctx.bindO_m] at hm; exact hm⟩) (fun _ _ _ => rfl) ?_
  rw [List.append_nil]
  refine ⟨hlenx, ?_⟩
  rcases hor with ⟨h1, h2⟩ | ⟨b, N, cells, h1, h2, h3, h4, h5⟩
  ·exact .inl ⟨by rw [Ctx.bindO_m]; exact h1, h2⟩
  ·exact .inr ⟨b, N, cells, by rw [Ctx.bindO_m]; exact h1, h2, h3, h4, fun i e j cc a b => let ⟨u, x, y, z⟩ := h5 i e j cc a b; ⟨u, x, y.mono (hle _), z⟩⟩
 -- a new block
 have grow : ∀ (olds news zs : List Value) (N : Nat), olds.length = xs.length * size → news.length = ys.length * size → (olds ++ news ++ zs).length = N →
   (∀ (i : Nat) (e : List AV) (j : Nat) (cc : AV), xs[i]? = some e → e[j]? = some cc → ∃ u, olds[i * size + j]? = some u ∧ VR C cc u) →
   (∀ (i : Nat) (e : List AV) (j : Nat) (cc : AV), ys[i]? = some e → e[j]? = some cc → ∃ u, news[i * size + j]? = some u ∧ VR C cc u) →
   (∀ u, u ∈ olds → u.oneCell' = true) → (∀ u, u ∈ news → u.oneCell' = true) →
   WR (C.bindO id' (some (w.heap.size, N))) (H.set k (id', .rows e size (xs ++ ys))) (w.drew.alloc (.cells (olds ++ news ++ zs).toArray e)) ∧
    Ext Z C H w (C.bindO id' (some (w.heap.size, N))) (H.set k (id', .rows e size (xs ++ ys))) (w.drew.alloc (.cells (olds ++ news ++ zs).toArray e)) := by
  intro olds news zs N h1 h2 h3 h4 h5 h6 h7
  have hal : ∀ b, b < w.heap.size → (w.drew.alloc (.cells (olds ++ news ++ zs).toArray e)).heap[b]? = w.heap[b]? := fun b hb => heap_alloc_old w.drew _ (h := hb)
  refine Z0p hs hH (hle _) rfl (.inr hid) List.mem_cons_self (hav _) rfl rfl rfl (by simp) (fun b N' hm => .inr ?_) (fun b hb _ => hal b hb) ?_
  ·rw [Ctx.bindO_m] at hm; cases hm; exact Nat.le_refl _
  ·exact Zem (w := w) (Ctx.bindO_m ..) (heap_alloc_new w.drew _) h3 hlenx hlen h1 h2 (fun i e' j cc a b => let ⟨u, x, y⟩ := h4 i e' j cc a b; ⟨u, x, y.mono (hle _)⟩) (fun i e' j cc a b => let ⟨u, x, y⟩ := h5 i e' j cc a b; ⟨u, x, y.mono (hle _)⟩) h6 h7
 have hvgrow : ∀ cap, xs.length + ys.length ≤ cap → cap ≤ maxLen → VR (C.bindO id' (some (w.heap.size, cap * size))) (.own id' size 0 (xs.length + ys.length)) (.slice (some ⟨w.heap.size, 0, none⟩) (xs.length + ys.length) cap) := by
  intro cap h1 h2
  have := VR.own (C := C.bindO id' (some (w.heap.size, cap * size))) id' size 0 (xs.length + ys.length) w.heap.size (cap * size) cap (Ctx.bindO_m ..) List.mem_cons_self (by simp) h1 h2
  simpa using this
 have hzc : ∀ m cap, m ≤ cap → m * size + (Builtin.zeroCells z.cells (cap - m)).size = cap * size := by
  intro m cap h
  rw [size_zeroCells, hzs, ← Nat.add_mul]; congr 1; omega
 have hp' := hp
 generalize hxn : xs.length = n at hp'
 cases hp' with
 | ownNil _ _ hmn =>
  have hx0 : xs = [] := List.length_eq_zero_iff.1 hxn
  subst hx0
  rcases Nat.eq_zero_or_pos ys.length with h0 | h0
  ·have hy0 := List.length_eq_zero_iff.1 h0
   subst hy0
   obtain ⟨h1, h2⟩ := same rfl
   refine ⟨.slice none 0 0, w, _, ?_, .ownNil id' size (by rw [Ctx.bindO_m]; exact hmn) List.mem_cons_self, h1, h2⟩
   cases ad <;> simp [Builtin.append_, Go.run_underlying hu.ud, sizeOf, typeInfo, hi, Builtin.lenOf, Builtin.firstCells, loadCells, loadCellsFrom, Result.andThen, Sem.run_bind]
  ·cases ad with
   | none => have := hnil rfl; subst this; simp at h0
   | some ad =>
    obtain ⟨news, hn1, hn2, hn3, hn4⟩ := hcells ad rfl
    have hml' : ys.length * bytes ≤ 140737488355328 := by simpa using hml
    have hm' : ys.length ≤ maxLen := by simpa using hm
    have hcap := grownCap_ge w ys.length 0 e
    have hcapm := grownCap_le_maxLen w ys.length 0 e hm'
    have hrun := run_append_nil (P := P) (w := w) t ty e i z hu.ud hi hz ad ys.length c news (by rw [hsz]; exact hn1) hn2 h0 (by simp only [maxLen] at hm'; omega) (by rw [hby]; omega)
    obtain ⟨h1, h2⟩ := grow [] news (Builtin.zeroCells z.cells (grownCap w ys.length 0 e - ys.length)).toList (grownCap w ys.length 0 e * size) (by simp) hn1
     (by have := hzc ys.length _ hcap; simp only [List.nil_append, List.length_append, Array.length_toList, hn1]; exact this) (by intro i e j cc h; simp at h) hn4 nofun hn3
    have e0 : (news.toArray ++ Builtin.zeroCells z.cells (grownCap w ys.length 0 e - ys.length)) = ([] ++ news ++ (Builtin.zeroCells z.cells (grownCap w ys.length 0 e - ys.length)).toList).toArray := by simp
    rw [e0] at hrun
    have hv' := hvgrow (grownCap w ys.length 0 e) (by simpa using hcap) hcapm
    simp only [List.length_nil, Nat.zero_add] at hv' ⊢
    exact ⟨_, _, _, hrun, hv', h1, h2⟩
 | own _ _ _ _ b N cap hmb _ hcap hlc hcm =>
  subst hxn
  rcases hor with ⟨hm0, _⟩ | ⟨b', N', cells, hmb', hh, hsN, hfit, hrow⟩
  ·rw [hmb] at hm0; cases hm0
  ·rw [hmb] at hmb'; cases hmb'
   simp only [Nat.zero_mul, Nat.zero_add] at hcap hv ⊢
   cases ad with
   | none =>
    have hy0 := hnil rfl
    subst hy0
    obtain ⟨h1, h2⟩ := same rfl
    refine ⟨.slice (some ⟨b, 0, none⟩) xs.length cap, w, _, ?_, ?_, h1, h2⟩
    ·simp [Builtin.append_, Go.run_underlying hu.ud, sizeOf, typeInfo, hi, Builtin.lenOf, hlc, Builtin.firstCells, storeCells, Result.andThen, Sem.run_bind]
    ·have := VR.own (C := C.bindO id' (C.m id)) id' size 0 xs.length b N cap (by rw [Ctx.bindO_m]; exact hmb) List.mem_cons_self (by simpa using hcap) hlc hcm
     simpa using this
   | some ad =>
    obtain ⟨news, hn1, hn2, hn3, hn4⟩ := hcells ad rfl
    rcases Nat.lt_or_ge cap (xs.length + ys.length) with hg | hg
    ·obtain ⟨olds, ho1, ho2, ho3, ho4⟩ := hcellsp ⟨b, 0, none⟩ (by simpa using (by cases hv; rfl : (some (⟨b, 0, none⟩ : Addr)) = adp).symm)
     have hcap1 := grownCap_ge w (xs.length + ys.length) cap e
     have hcapm := grownCap_le_maxLen w (xs.length + ys.length) cap e hm
     have hrun := run_append_grow (P := P) (w := w) t ty e i z hu.ud hi hz ⟨b, 0, none⟩ xs.length cap olds (by rw [hsz]; exact ho1) ho2 ad ys.length c news (by rw [hsz]; exact hn1) hn2 hg (by simp only [maxLen] at hm; omega)
      (by rw [hby]; exact growslice_fits hg hml)
     obtain ⟨h1, h2⟩ := grow olds news (Builtin.zeroCells z.cells (grownCap w (xs.length + ys.length) cap e - (xs.length + ys.length))).toList (grownCap w (xs.length + ys.length) cap e * size) ho1 hn1
      (by have := hzc (xs.length + ys.length) _ hcap1; rw [Nat.add_mul] at this; simp only [List.length_append, Array.length_toList, hn1, ho1]; exact this) ho4 hn4 ho3 hn3
     have e0 : (olds.toArray ++ news.toArray ++ Builtin.zeroCells z.cells (grownCap w (xs.length + ys.length) cap e - (xs.length + ys.length))) = (olds ++ news ++ (Builtin.zeroCells z.cells (grownCap w (xs.length + ys.length) cap e - (xs.length + ys.length))).toList).toArray := by simp
     rw [e0] at hrun
     exact ⟨_, _, _, hrun, hvgrow _ hcap1 hcapm, h1, h2⟩
    ·-- there is room
     have hNs : (xs.length + ys.length) * size ≤ cells.size := by rw [hsN, ← hcap]; exact Nat.mul_le_mul_right _ hg
     rw [Nat.add_mul] at hNs
     have hrun := run_append_room (P := P) (w := w) t ty e i hu.ud hi b xs.length cap cells hh ad ys.length c news (by rw [hsz]; exact hn1) hn2 hn3 hg (by rw [hsz, hn1]; exact hNs)
     rw [hsz] at hrun
     refine ⟨_, _, C.bindO id' (C.m id), hrun, ?_, ?_⟩
     ·have := VR.own (C := C.bindO id' (C.m id)) id' size 0 (xs.length + ys.length) b N cap (by rw [Ctx.bindO_m]; exact hmb) List.mem_cons_self (by simpa using hcap) hg hcm
      simpa using this
     ·refine Z0p hs hH (hle _) rfl (.inr hid) List.mem_cons_self (hav _) rfl rfl rfl (by simp) (fun b2 N2 hm2 => .inl ⟨N2, by rw [Ctx.bindO_m] at hm2; exact hm2⟩) (fun b2 hb2 hne => setRow_other w b b2 _ (by rintro rfl; exact hne N hmb)) ?_
      refine ⟨?_, .inr ⟨b, N, _, by rw [Ctx.bindO_m]; exact hmb, setRow_heap w b cells _ e (0, 0) hh, ?_, ?_, ?_⟩⟩
      ·intro e' he'
       rcases List.mem_append.1 he' with h | h
       ·exact hlenx e' h
       ·exact hlen e' h
      ·simp only [List.size_toArray, List.length_append, List.length_take, List.length_drop, Array.length_toList, hn1]
       omega
      ·rw [List.length_append, Nat.add_mul]; omega
      ·intro i' e' j cc he' hcc
       rw [List.getElem?_toArray, Z0x _ _ _ _ (by rw [hn1, Array.length_toList]; exact hNs), hn1]
       rw [List.getElem?_append] at he'
       split at he'
       ·rename_i hlt
        have hj : j < size := by rw [← hlenx e' (List.mem_of_getElem? he')]; exact Z08 hcc
        have := Z16 (k := j) (sz := size) hlt hj
        rw [if_pos this, Array.getElem?_toList]
        obtain ⟨u, h1, h2, h3⟩ := hrow i' e' j cc he' hcc
        exact ⟨u, h1, h2.mono (hle _), h3⟩
       ·rename_i hge
        obtain ⟨u, h1, h2⟩ := hn4 (i' - xs.length) e' j cc he' hcc
        have hlt := Z08 h1
        rw [hn1] at hlt
        have hx : xs.length * size + (i' - xs.length) * size = i' * size := by rw [← Nat.add_mul]; congr 1; omega
        rw [if_neg (by omega), if_pos (by omega)]
        refine ⟨u, ?_, h2.mono (hle _), hn3 u (List.mem_of_getElem? h1)⟩
        rw [← h1]; congr 1; omega
theorem Z34 {t e size bytes id : Nat} {p q : Operand} {y : AV} {xs ys : List (List AV)} {n : Nat} (k : Nat) [hu : UD P t (.slice e)] [ha : AP P e size bytes] (hw : Wanted ops s.T o true) (hd : dok o.dst s.n = true)
  (ho : o.op = .call { callee := .builtin .append, args := #[p, q], argTypes := #[t, t] }) (hp : ev s.T p = some (.own id size 0 n)) (hH : s.H[k]? = some (id, .rows e size xs)) (hn : n = xs.length) (hq : ev s.T q = some y) (hy : SlA s.H size y ys)
  (hml : (xs.length + ys.length) * bytes ≤ 140737488355328) (hm : xs.length + ys.length ≤ maxLen)
  (h : ∀ id', AOps P ro ops rest Q { s with T := put s.T o.dst (.own id' size 0 (xs.length + ys.length)), H := s.H.set k (id', .rows e size (xs ++ ys)) }) : AOps P ro ops (o :: rest) Q s := by
 subst hn
 refine Z10 hw ?_
 intro Z C0 H0 w0 C a w hx0 hs
 obtain ⟨id', hid⟩ := Z5w (C.U ++ Z)
 rw [List.mem_append, not_or] at hid
 obtain ⟨v', w', C', h1, h2, h3, h4⟩ := Z46 (P := P) (ty := o.type) (t := t) hs.wr hH (hs.ev hp) (hs.ev hq) hy hml hm hid.1 hid.2
 have hr : (o.semAt ro a.eval).run P w = .ok (.value v') w' := by
  rw [Oper.semAt_eq _ _ _ (by intro c; rw [ho]; nofun)]
  simp [execOp, ho, resolve, invoke, builtin, h1, Result.andThen, Sem.run_bind]
 rw [hr]
 exact ⟨C', _, h id', hs.put h4.le h3 (Z0k hd) h2, hx0.trans h4⟩
end
end Go.Sx
namespace Go.Sx
open Go
theorem Z9p : ∀ (l : List Value) (k off : Nat) (cs : Array Value),
  ((l.zipIdx k).foldl (fun cs (x : Value × Nat) => cs.setIfInBounds (off + x.2) x.1) cs).size = cs.size ∧
  ∀ p, ((l.zipIdx k).foldl (fun cs (x : Value × Nat) => cs.setIfInBounds (off + x.2) x.1) cs)[p]? = if off + k ≤ p ∧ p < off + k + l.length ∧ p < cs.size then l[p - (off + k)]? else cs[p]?
 | [], k, off, cs => ⟨rfl, fun p => by rw [if_neg (by simp; omega)]; rfl⟩
 | x :: l, k, off, cs => by
  simp only [List.zipIdx_cons, List.foldl_cons]
  obtain ⟨h1, h2⟩ := Z9p l (k + 1) off (cs.setIfInBounds (off + k) x)
  refine ⟨by rw [h1]; simp, fun p => ?_⟩
  rw [h2]
  simp only [Array.size_setIfInBounds, List.length_cons]
  by_cases hp : p = off + k
  ·subst hp
   rw [if_neg (by omega)]
   by_cases hs : off + k < cs.size
   ·rw [if_pos (by omega)]
    simp [hs]
   ·rw [if_neg (by omega)]
    rw [Array.getElem?_eq_none (by simp; omega), Array.getElem?_eq_none (by omega)]
  ·rw [Array.getElem?_setIfInBounds_ne (Ne.symm hp)]
   by_cases hc : off + (k + 1) ≤ p ∧ p < off + (k + 1) + l.length ∧ p < cs.size
   ·rw [if_pos hc, if_pos (by omega), show p - (off + k) = (p - (off + (k + 1))) + 1 from by omega, List.getElem?_cons_succ]
   ·rw [if_neg hc, if_neg (by omega)]
theorem Z4f (v : Value) (off : Nat) (cs : Array Value) :
  (v.cells.zipIdx.foldl (fun cs (x : Value × Nat) => cs.setIfInBounds (off + x.2) x.1) cs).size = cs.size ∧
  ∀ p, (v.cells.zipIdx.foldl (fun cs (x : Value × Nat) => cs.setIfInBounds (off + x.2) x.1) cs)[p]? = if off ≤ p ∧ p < off + v.cells.size ∧ p < cs.size then v.cells[p - off]? else cs[p]? := by
 rw [← Array.foldl_toList, Array.toList_zipIdx]
 obtain ⟨h1, h2⟩ := Z9p v.cells.toList 0 off cs
 refine ⟨h1, fun p => ?_⟩
 rw [h2]
 simp
def inOrder : Nat → List (Nat × Operand) → Bool
 | _, [] => true
 | k, (i, _) :: r => Nat.beq i k && inOrder (k + 1) r
theorem Z7r {C : Ctx} {size n : Nat} {ρ : Operand → Value} {T : List (Nat × AV)} : ∀ (ps : List (Nat × Operand)) (k : Nat) (cells : Array Value) (xs : List AV), inOrder k ps = true → evs T (ps.map Prod.snd) = some xs →
  (∀ p, p ∈ ps.map Prod.snd → ∀ y, ev T p = some y → VR C y (ρ p)) → (∀ x, x ∈ xs → (cellsA x).length = size) → cells.size = n * size → k + ps.length ≤ n →
  ∃ cells', Instr.fill (fun i => some (i * size, size)) cells (ps.map fun x => (x.1, ρ x.2)) = some cells' ∧ cells'.size = cells.size ∧ (∀ p, p < k * size → cells'[p]? = cells[p]?) ∧
   ∀ (i : Nat) (x : AV) (j : Nat) (c : AV), xs[i]? = some x → (cellsA x)[j]? = some c → ∃ u, cells'[(k + i) * size + j]? = some u ∧ VR C c u ∧ (one c = true → u.oneCell' = true)
 | [], k, cells, xs, _, hx, _, _, _, _ => by
  simp only [List.map_nil, evs, Option.some.injEq] at hx
  subst hx
  exact ⟨cells, rfl, rfl, fun _ _ => rfl, by intro i x j c h; simp at h⟩
 | (i, p) :: r, k, cells, xs, ho, hx, hv, hl, hs, hn => by
  simp only [inOrder, Bool.and_eq_true] at ho
  have hi := Nat.eq_of_beq_eq_true ho.1
  subst hi
  simp only [List.map_cons, evs] at hx
  split at hx
  ·rename_i x ys h1 h2
   simp only [Option.some.injEq] at hx
   subst hx
   have hpv := hv p (by simp) x h1
   obtain ⟨hc1, hc2⟩ := Z1o hpv
   have hxs := hl x List.mem_cons_self
   rw [hc1] at hxs
   obtain ⟨f1, f2⟩ := Z4f (ρ p) (i * size) cells
   simp only [List.length_cons] at hn
   have hbig : i * size + size ≤ cells.size := by
    rw [hs]
    have : (i + 1) * size ≤ n * size := Nat.mul_le_mul_right _ (by omega)
    rw [Nat.add_mul] at this; omega
   obtain ⟨cells', g1, g2, g3, g4⟩ := Z7r (C := C) (size := size) (n := n) (ρ := ρ) (T := T) r (i + 1) ((ρ p).cells.zipIdx.foldl (fun cs (x : Value × Nat) => cs.setIfInBounds (i * size + x.2) x.1) cells) ys ho.2 h2
    (fun q hq => hv q (by simp only [List.map_cons, List.mem_cons]; exact .inr hq)) (fun y hy => hl y (List.mem_cons_of_mem _ hy)) (by rw [f1, hs]) (by omega)
   refine ⟨cells', ?_, by rw [g2, f1], ?_, ?_⟩
   ·simp only [List.map_cons, Instr.fill]
    rw [if_neg (by simp; omega)]
    exact g1
   ·intro q hq
    rw [g3 q (by rw [Nat.add_mul]; omega), f2, if_neg (by omega)]
   ·intro i' y j c hy hc
    cases i' with
    | zero =>
     simp at hy; subst hy
     have hj : j < (ρ p).cells.size := by rw [← hc1]; exact Z08 hc
     have hg : (ρ p).cells[j]? = some (ρ p).cells[j] := Array.getElem?_eq_getElem hj
     have hcv := hc2 j c _ hc hg
     refine ⟨(ρ p).cells[j], ?_, hcv, fun h => Z6r hcv h⟩
     rw [Nat.add_zero, g3 _ (by rw [Nat.add_mul]; omega), f2, if_pos (by omega), Nat.add_sub_cancel_left]
     exact hg
    | succ i' =>
     obtain ⟨u, a, b⟩ := g4 i' y j c (by simpa using hy) hc
     exact ⟨u, by rw [show i + (i' + 1) = i + 1 + i' from by omega]; exact a, b⟩
  ·cases hx
section
variable {P : Program} {T : List (Nat × AV)} {o : Oper}
theorem Z11 (id : Nat) {t e size bytes len : Nat} {ps : List (Nat × Operand)} {xs : List AV} {ys : List (List AV)} [hu : UD P t (.slice e)] [ha : AP P e size bytes] (ho : o.op = .buildSlice t len ps.toArray) (hin : inOrder 0 ps = true)
  (hlen : ps.length = len) (hxs : evs T (ps.map Prod.snd) = some xs) (hys : xs.map cellsA = ys) (hl : ys.all (fun l => Nat.beq l.length size) = true) (h1 : ys.all (fun l => l.all one) = true) (hbig : Nat.ble (len * size) 16777216 = true) :
  Eff P o T [] (.own id size 0 len) [(id, .rows e size ys)] :=
 Z56 (N := len * size) (by intro c; rw [ho]; nofun) fun C H a w hw _ hv hid => by
  obtain ⟨i, z, hi, hz, hsz, hby, hzs, hpos⟩ := AP.open ha.ap
  subst hys
  have hbig := Nat.le_of_ble_eq_true hbig
  have hops : ∀ p, p ∈ ps.map Prod.snd → p ∈ o.op.operands := by
   intro p hp
   rw [ho]; simpa [Op.operands] using hp
  have hxl : xs.length = len := by
   rw [← hlen]
   have : ∀ (qs : List Operand) (xs : List AV), evs T qs = some xs → xs.length = qs.length := by
    intro qs
    induction qs with
    | nil => intro xs h; simp only [evs, Option.some.injEq] at h; subst h; rfl
    | cons q qs ih =>
     intro xs h
     simp only [evs] at h
     split at h
     ·rename_i x ys h1 h2; simp only [Option.some.injEq] at h; subst h; simp [ih _ h2]
     ·cases h
   rw [this _ _ hxs, List.length_map]
  have hcl : ∀ x, x ∈ xs → (cellsA x).length = size := by
   intro x hx
   exact Nat.eq_of_beq_eq_true (List.all_eq_true.1 hl (cellsA x) (List.mem_map.2 ⟨x, hx, rfl⟩))
  let z0 : Array Value := if len * size = 0 then #[] else z.cells
  obtain ⟨cells', g1, g2, g3, g4⟩ := Z7r (C := C) (size := size) (n := len) (ρ := a.eval) (T := T) ps 0 ((Array.range (len * size)).map (z0[· % z0.size]!)) xs hin hxs (fun p hp => hv p (hops p hp)) hcl (by simp) (by omega)
  have hle := Ctx.le_bind (C := C) (b := w.heap.size) (N := len * size) hid
  refine ⟨.slice (some ⟨w.heap.size, 0, none⟩) len len, .cells cells' e, ?_, ?_, ?_⟩
  ·have e1 : (ps.toArray.map fun x => (x.1, a.eval x.2)).toList = ps.map fun x => (x.1, a.eval x.2) := by simp
   have hbig2 : ¬ (16777216 < len * size) := by omega
   by_cases h0 : len * size = 0
   ·have hz0 : z0 = #[] := if_pos h0
    rw [hz0] at g1
    simp only [h0] at g1
    have hrun : (Instr.buildSlice t len (ps.toArray.map fun x => (x.1, a.eval x.2))).run P w = .ok (.slice (some ⟨w.heap.size, 0, none⟩) len len) (w.alloc (.cells cells' e)) := by
     unfold Instr.buildSlice
     simp only [e1]
     simp [Go.run_underlying hu.ud, sizeOf, typeInfo, hi, hsz, h0, newRow, run_newObj_alloc, Result.andThen, Sem.run_bind]
     simp at g1
     rw [g1]
     simp
    have e2 : execOp a.eval o = (do pure (.value (← Instr.buildSlice t len (ps.toArray.map fun x => (x.1, a.eval x.2))))) := by simp only [execOp, ho]
    rw [e2, Sem.run_bind, hrun]
    rfl
   ·have hz0 : z0 = z.cells := if_neg h0
    rw [hz0] at g1
    have hrun : (Instr.buildSlice t len (ps.toArray.map fun x => (x.1, a.eval x.2))).run P w = .ok (.slice (some ⟨w.heap.size, 0, none⟩) len len) (w.alloc (.cells cells' e)) := by
     unfold Instr.buildSlice
     simp only [e1]
     simp [Go.run_underlying hu.ud, sizeOf, typeInfo, zeroValue, hi, hz, hsz, h0, hbig2, newRow, run_newObj_alloc, Result.andThen, Sem.run_bind, -getElem!_pos]
     rw [g1]
     simp
    have e2 : execOp a.eval o = (do pure (.value (← Instr.buildSlice t len (ps.toArray.map fun x => (x.1, a.eval x.2))))) := by simp only [execOp, ho]
    rw [e2, Sem.run_bind, hrun]
    rfl
  ·have := VR.own (C := C.bind id w.heap.size (len * size)) id size 0 len w.heap.size (len * size) len (Ctx.bind_m ..) List.mem_cons_self (by simp) (Nat.le_refl _) (by
    have : len ≤ len * size := Nat.le_mul_of_pos_right _ hpos
    simp only [maxLen]; omega)
   simpa using this
  ·refine ⟨?_, .inr ⟨w.heap.size, len * size, cells', Ctx.bind_m .., heap_alloc_new w _, by rw [g2]; simp, by simp [hxl], ?_⟩⟩
   ·intro l hl'
    obtain ⟨x, hx, rfl⟩ := List.mem_map.1 hl'
    exact hcl x hx
   ·intro i' l j c hl' hc
    rw [List.getElem?_map] at hl'
    cases hx : xs[i']? with
    | none => rw [hx] at hl'; cases hl'
    | some x =>
     rw [hx] at hl'
     simp only [Option.map_some, Option.some.injEq] at hl'
     subst hl'
     obtain ⟨u, a1, a2, a3⟩ := g4 i' x j c hx hc
     rw [Nat.zero_add] at a1
     have hone : one c = true := by
      have h2 := List.all_eq_true.1 h1 (cellsA x) (List.mem_map.2 ⟨x, List.mem_of_getElem? hx, rfl⟩)
      exact List.all_eq_true.1 h2 c (List.mem_of_getElem? hc)
     exact ⟨u, a1, a2.mono hle, a3 hone⟩
end
end Go.Sx
namespace Go.Sx
open Go
inductive CK where
 | int (k : IntKind)
 | bool
 | str
 deriving DecidableEq
mutual
def ckOf (P : Program) : Nat → TypeId → Option (List CK)
 | 0, _ => none
 | d + 1, t => match P.underlying t with
  | some (.int k) => some [.int k]
  | some .bool => some [.bool]
  | some .string => some [.str]
  | some (.struct fs) => if P.stoodInHeld t then none else ckFields P d fs.toList 0
  | _ => none
def ckFields (P : Program) : Nat → List Field → Nat → Option (List CK)
 | _, [], _ => some []
 | 0, _ :: _, _ => none
 | d + 1, f :: fs, off =>
  if (f.name == "_") = false ∧ f.offset = off then
   match ckOf P d f.type with
   | some ks => if (P.info? f.type).map (·.size) = some ks.length then
     match ckFields P d fs (off + ks.length) with
     | some r => some (ks ++ r)
     | none => none
    else none
   | none => none
  else none
end
def ck1 : Value → Option CK
 | .int k _ => some (.int k)
 | .bool _ => some .bool
 | .string _ => some .str
 | _ => none
def veq : Value → Value → Bool
 | .int _ a, .int _ b => a == b
 | .bool a, .bool b => a == b
 | .string a, .string b => a.toList == b.toList
 | _, _ => false
def vseq : List Value → List Value → Bool
 | [], [] => true
 | x :: xs, y :: ys => veq x y && vseq xs ys
 | _, _ => false
theorem Z5t : ∀ (a b c d : List Value), a.length = c.length → vseq (a ++ b) (c ++ d) = (vseq a c && vseq b d)
 | [], b, [], d, _ => by simp [vseq]
 | x :: a, b, y :: c, d, h => by simp only [List.cons_append, vseq]; rw [Z5t a b c d (by simpa using h), Bool.and_assoc]
theorem Z50 {x : Value} {k : IntKind} (h : ck1 x = some (.int k)) : ∃ n, x = .int k n := by cases x <;> simp [ck1] at h; subst h; exact ⟨_, rfl⟩
theorem Z37 {x : Value} (h : ck1 x = some .bool) : ∃ b, x = .bool b := by cases x <;> simp [ck1] at h; exact ⟨_, rfl⟩
theorem Z51 {x : Value} (h : ck1 x = some .str) : ∃ b, x = .string b := by cases x <;> simp [ck1] at h; exact ⟨_, rfl⟩
section
variable {P : Program}
def asV (agg : Bool) (l : List Value) : Value := if agg then .agg l.toArray else l.headD undef
def aggD : TypeDesc → Bool
 | .struct _ => true
 | .array _ _ => true
 | _ => false
theorem Zg7 {t : TypeId} {d : TypeDesc} {n : Nat} (h : P.underlying t = some d) (k : (P.info? t).map (·.size) = some n) : P.tk t = some (aggD d, n) := by
 cases hi : P.info? t with
 | none => rw [hi] at k; cases k
 | some i =>
  rw [hi] at k
  simp only [Option.map_some, Option.some.injEq] at k
  unfold Program.tk
  rw [h, hi]
  simp only [k]
  cases d <;> rfl
mutual
theorem Za6 (w : World) : ∀ (d : Nat) (t : TypeId) (ks : List CK) (D : Nat) (xs ys : List Value), ckOf P d t = some ks → d ≤ D → xs.map ck1 = ks.map some → ys.map ck1 = ks.map some →
  (Op.equalIn D t (asV (match P.underlying t with | some (.struct _) => true | _ => false) xs) (asV (match P.underlying t with | some (.struct _) => true | _ => false) ys)).run P w = .ok (vseq xs ys) w
 | 0, t, ks, D, xs, ys, h, _, _, _ => by simp [ckOf] at h
 | d + 1, t, ks, D, xs, ys, h, hD, hx, hy => by
  obtain ⟨D, rfl⟩ : ∃ D', D = D' + 1 := ⟨D - 1, by omega⟩
  simp only [ckOf] at h
  split at h
  ·rename_i k hu
   simp only [Option.some.injEq] at h; subst h
   simp only [List.map_cons, List.map_nil] at hx hy
   obtain ⟨x, rfl, hxk⟩ : ∃ x, xs = [x] ∧ ck1 x = some (.int k) := by
    cases xs with
    | nil => simp at hx
    | cons x r => cases r with | nil => exact ⟨x, rfl, by simpa using hx⟩ | cons => simp at hx
   obtain ⟨y, rfl, hyk⟩ : ∃ x, ys = [x] ∧ ck1 x = some (.int k) := by
    cases ys with
    | nil => simp at hy
    | cons x r => cases r with | nil => exact ⟨x, rfl, by simpa using hy⟩ | cons => simp at hy
   obtain ⟨_, rfl⟩ := Z50 hxk
   obtain ⟨_, rfl⟩ := Z50 hyk
   simp only [hu, asV, Bool.false_eq_true, if_false, List.headD]
   rw [run_equalIn_int w D t _ _ _ _ hu]
   simp [vseq, veq]
  ·rename_i hu
   simp only [Option.some.injEq] at h; subst h
   simp only [List.map_cons, List.map_nil] at hx hy
   obtain ⟨x, rfl, hxk⟩ : ∃ x, xs = [x] ∧ ck1 x = some .bool := by
    cases xs with
    | nil => simp at hx
    | cons x r => cases r with | nil => exact ⟨x, rfl, by simpa using hx⟩ | cons => simp at hx
   obtain ⟨y, rfl, hyk⟩ : ∃ x, ys = [x] ∧ ck1 x = some .bool := by
    cases ys with
    | nil => simp at hy
    | cons x r => cases r with | nil => exact ⟨x, rfl, by simpa using hy⟩ | cons => simp at hy
   obtain ⟨_, rfl⟩ := Z37 hxk
   obtain ⟨_, rfl⟩ := Z37 hyk
   simp only [hu, asV, Bool.false_eq_true, if_false, List.headD]
   rw [run_equalIn_bool' w D t _ _ hu]
   simp [vseq, veq]
  ·rename_i hu
   simp only [Option.some.injEq] at h; subst h
   simp only [List.map_cons, List.map_nil] at hx hy
   obtain ⟨x, rfl, hxk⟩ : ∃ x, xs = [x] ∧ ck1 x = some .str := by
    cases xs with
    | nil => simp at hx
    | cons x r => cases r with | nil => exact ⟨x, rfl, by simpa using hx⟩ | cons => simp at hx
   obtain ⟨y, rfl, hyk⟩ : ∃ x, ys = [x] ∧ ck1 x = some .str := by
    cases ys with
    | nil => simp at hy
    | cons x r => cases r with | nil => exact ⟨x, rfl, by simpa using hy⟩ | cons => simp at hy
   obtain ⟨_, rfl⟩ := Z51 hxk
   obtain ⟨_, rfl⟩ := Z51 hyk
   simp only [hu, asV, Bool.false_eq_true, if_false, List.headD]
   rw [run_equalIn_string w D t _ _ hu]
   simp [vseq, veq]
  ·rename_i fs hu
   split at h
   ·cases h
   ·rename_i hst
    simp only [hu, asV, if_true]
    have hst' : P.stoodInHeld t = false := by simpa using hst
    have hf : P.fieldsOf t = fs := by simp [Program.fieldsOf, hu]
    rw [run_equalIn_struct w D t _ _ (by rw [hf]; exact hu) hst', hf]
    have := Z4g w d fs.toList 0 ks D xs ys [] [] h (by omega) hx hy rfl rfl
    simpa using this
  ·cases h
theorem Z4g (w : World) : ∀ (d : Nat) (fs : List Field) (off : Nat) (ks : List CK) (D : Nat) (xs ys px py : List Value), ckFields P d fs off = some ks → d ≤ D → xs.map ck1 = ks.map some → ys.map ck1 = ks.map some → px.length = off → py.length = off →
  (Op.eqFields D (px ++ xs).toArray (py ++ ys).toArray fs).run P w = .ok (vseq xs ys) w
 | d, [], off, ks, D, xs, ys, px, py, h, _, hx, hy, _, _ => by
  have : ks = [] := by cases d <;> simpa [ckFields] using h.symm
  subst this
  simp at hx hy
  subst hx; subst hy
  simp [Op.eqFields, vseq]
 | 0, _ :: _, off, ks, D, xs, ys, px, py, h, _, _, _, _, _ => by simp [ckFields] at h
 | d + 1, f :: fs, off, ks, D, xs, ys, px, py, h, hD, hx, hy, hpx, hpy => by
  simp only [ckFields] at h
  split at h
  ·rename_i hc
   split at h
   ·rename_i ks1 hk1
    split at h
    ·rename_i hsz
     split at h
     ·rename_i r hr
      simp only [Option.some.injEq] at h
      subst h
      rw [List.map_append] at hx hy
      -- the field's own cells
      have hxl : xs.length = ks1.length + r.length := by have := congrArg List.length hx; simpa using this
      have hyl : ys.length = ks1.length + r.length := by have := congrArg List.length hy; simpa using this
      have hx1 : (xs.take ks1.length).map ck1 = ks1.map some := by have := congrArg (List.take ks1.length) hx; simpa using this
      have hy1 : (ys.take ks1.length).map ck1 = ks1.map some := by have := congrArg (List.take ks1.length) hy; simpa using this
      have hx2 : (xs.drop ks1.length).map ck1 = r.map some := by have := congrArg (List.drop ks1.length) hx; simpa using this
      have hy2 : (ys.drop ks1.length).map ck1 = r.map some := by have := congrArg (List.drop ks1.length) hy; simpa using this
      have hn : f.name ≠ "_" := by simpa using hc.1
      have he := Za6 w d f.type ks1 D (xs.take ks1.length) (ys.take ks1.length) hk1 (by omega) hx1 hy1
      have ih := Z4g w d fs (off + ks1.length) r D (xs.drop ks1.length) (ys.drop ks1.length) (px ++ xs.take ks1.length) (py ++ ys.take ks1.length) hr (by omega) hx2 hy2 (by simp; omega) (by simp; omega)
      rw [List.append_assoc, List.take_append_drop, List.append_assoc, List.take_append_drop] at ih
      have hu : ∃ dd, P.underlying f.type = some dd := by
       cases d with
       | zero => simp [ckOf] at hk1
       | succ d =>
        simp only [ckOf] at hk1
        cases hz : P.underlying f.type with
        | some dd => exact ⟨dd, rfl⟩
        | none => rw [hz] at hk1; cases hk1
      obtain ⟨dd, hu⟩ := hu
      have htk := Zg7 hu hsz
      have hpart : ∀ (p l : List Value), p.length = off → ks1.length ≤ l.length → (ks1.length = 1 ∨ (∃ fs, dd = .struct fs)) → (∀ fs' : Nat × TypeId, dd ≠ .array fs'.1 fs'.2) →
        (part f.type (p ++ l).toArray f.offset).run P w = .ok (asV (match P.underlying f.type with | some (.struct _) => true | _ => false) (l.take ks1.length)) w := by
       intro p l hp hl hone hna
       unfold part
       rw [Sem.run_bind, Z27 htk]
       simp only [Result.andThen]
       rcases hone with hone | ⟨fs', rfl⟩
       ·cases dd with
        | struct fs' =>
         simp only [hu, aggD, if_true, Sem.run_bind, Z0g htk, Result.andThen, Sem.run_pure, asV]
         congr 2
         apply Array.ext'
         simp [hc.2, ← hp]
        | array a b => exact absurd rfl (hna (a, b))
        | _ =>
         simp only [hu, aggD, Bool.false_eq_true, if_false, asV]
         obtain ⟨v, l', rfl⟩ : ∃ v l', l = v :: l' := by cases l with | nil => simp [hone] at hl | cons v l' => exact ⟨v, l', rfl⟩
         have : (p ++ v :: l').toArray[f.offset]? = some v := by rw [List.getElem?_toArray, hc.2, ← hp]; simp
         rw [this, hone]
         simp
       ·simp only [hu, aggD, if_true, Sem.run_bind, Z0g htk, Result.andThen, Sem.run_pure, asV]
        congr 2
        apply Array.ext'
        simp [hc.2, ← hp]
      have hshape : (ks1.length = 1 ∨ (∃ fs, dd = .struct fs)) ∧ (∀ fs' : Nat × TypeId, dd ≠ .array fs'.1 fs'.2) := by
       cases d with
       | zero => simp [ckOf] at hk1
       | succ d =>
        simp only [ckOf, hu] at hk1
        cases dd <;> simp at hk1 <;> first | (subst hk1; exact ⟨.inl rfl, by intro _; nofun⟩) | exact ⟨.inr ⟨_, rfl⟩, by intro _; nofun⟩
      simp only [Op.eqFields, if_pos hn, Sem.run_bind, hpart px xs hpx (by omega) hshape.1 hshape.2, hpart py ys hpy (by omega) hshape.1 hshape.2, Result.andThen, he]
      have hv : vseq xs ys = (vseq (xs.take ks1.length) (ys.take ks1.length) && vseq (xs.drop ks1.length) (ys.drop ks1.length)) := by
       rw [← Z5t _ _ _ _ (by simp; omega), List.take_append_drop, List.take_append_drop]
      rw [hv]
      cases hb : vseq (xs.take ks1.length) (ys.take ks1.length)
      ·simp
      ·simpa using ih
     ·cases h
    ·cases h
   ·cases h
  ·cases h
end
class EQ (P : Program) (t : TypeId) (ks : outParam (List CK)) : Prop where
 ck : ckOf P 20 t = some ks
 gd : P.eqGuardType P.depth t = false
 st : ∃ fs, P.underlying t = some (.struct fs)
def ckA : AV → Option CK
 | .v x => ck1 x
 | _ => none
def ceq : AV → AV → Bool
 | .v (.int _ a), .v (.int _ b) => a == b
 | .v (.bool a), .v (.bool b) => a == b
 | .v (.string a), .v (.string b) => a.toList == b.toList
 | _, _ => false
def ceqs : List AV → List AV → Bool
 | [], [] => true
 | [x], [y] => ceq x y
 | x :: xs, y :: ys => ceq x y && ceqs xs ys
 | _, _ => false
theorem Zdf {C : Ctx} {x : AV} {v : Value} {k : CK} (h : ckA x = some k) (hv : VR C x v) : x = .v v ∧ ck1 v = some k := by
 cases x with
 | v y => have := VR.val hv; subst this; exact ⟨rfl, h⟩
 | _ => simp [ckA] at h
theorem Z6g {C : Ctx} : ∀ (xs : List AV) (vs : List Value) (ks : List CK), xs.map ckA = ks.map some → xs.length = vs.length → (∀ (i : Nat) (c : AV) (u : Value), xs[i]? = some c → vs[i]? = some u → VR C c u) → xs = vs.map .v ∧ vs.map ck1 = ks.map some
 | [], [], ks, h, _, _ => by simp at h; subst h; exact ⟨rfl, rfl⟩
 | [], _ :: _, _, _, h, _ => by simp at h
 | _ :: _, [], _, _, h, _ => by simp at h
 | x :: xs, v :: vs, ks, h, hl, hv => by
  cases ks with
  | nil => simp at h
  | cons k ks =>
   simp only [List.map_cons, List.cons.injEq] at h
   obtain ⟨h1, h2⟩ := Zdf h.1 (hv 0 x v rfl rfl)
   obtain ⟨h3, h4⟩ := Z6g xs vs ks h.2 (by simpa using hl) (fun i c u a b => hv (i + 1) c u (by simpa using a) (by simpa using b))
   subst h1; subst h3
   simp [h2, h4]
theorem Z7c : ∀ (xs ys : List Value), xs.length = ys.length → ceqs (xs.map .v) (ys.map .v) = vseq xs ys
 | [], [], _ => rfl
 | [], _ :: _, h => by simp at h
 | _ :: _, [], h => by simp at h
 | x :: xs, y :: ys, h => by
  have e : ceq (.v x) (.v y) = veq x y := by cases x <;> cases y <;> rfl
  cases xs with
  | nil =>
   cases ys with
   | nil => simp [ceqs, vseq, e]
   | cons => simp at h
  | cons x2 xs =>
   cases ys with
   | nil => simp at h
   | cons y2 ys =>
    have := Z7c (x2 :: xs) (y2 :: ys) (by simpa using h)
    simp only [List.map_cons] at this
    simp only [List.map_cons, ceqs, vseq, e]
    rw [this]; rfl
theorem Zcs {C : Ctx} {t : TypeId} {ks : List CK} {xs ys : List AV} {v u : Value} [h : EQ P t ks] (hx : xs.map ckA = ks.map some) (hy : ys.map ckA = ks.map some) (hv : VR C (.agg xs) v) (hu : VR C (.agg ys) u) (w : World) :
  ∃ vs us, v = .agg vs ∧ u = .agg us ∧ ∀ D, 20 ≤ D → (Op.equalIn D t (.agg vs) (.agg us)).run P w = .ok (ceqs xs ys) w := by
 obtain ⟨vs, rfl, hl, hvv⟩ := hv.aggInv
 obtain ⟨us, rfl, hl', huu⟩ := hu.aggInv
 refine ⟨vs, us, rfl, rfl, fun D hD => ?_⟩
 obtain ⟨e1, e2⟩ := Z6g xs vs.toList ks hx (by simpa using hl) (fun i c u a b => hvv i c u a (by rw [← Array.getElem?_toList]; exact b))
 obtain ⟨e3, e4⟩ := Z6g ys us.toList ks hy (by simpa using hl') (fun i c u a b => huu i c u a (by rw [← Array.getElem?_toList]; exact b))
 obtain ⟨fs, hfs⟩ := h.st
 have := Za6 (P := P) w 20 t ks D vs.toList us.toList h.ck hD e2 e4
 simp only [hfs, asV, if_true] at this
 have hlen : vs.toList.length = us.toList.length := by
  have a := congrArg List.length e2
  have b := congrArg List.length e4
  simp only [List.length_map] at a b
  omega
 rw [e1, e3, Z7c _ _ hlen]
 simpa using this
variable {T : List (Nat × AV)} {o : Oper}
theorem Z13 {t t' : TypeId} {p q : Operand} {ks : List CK} {xs ys : List AV} [h : EQ P t ks] (ho : o.op = .binOp .eql t p q t') (hp : ev T p = some (.agg xs)) (hq : ev T q = some (.agg ys))
  (hx : xs.map ckA = ks.map some) (hy : ys.map ckA = ks.map some) : Eff P o T [] (.v (.bool (ceqs xs ys))) [] :=
 Z01 (by intro c; rw [ho]; nofun) fun C H a w hw hn hv => by
  obtain ⟨vs, us, h1, h2, h3⟩ := Zcs (P := P) (t := t) hx hy (hv p (by rw [ho]; simp [Op.operands]) _ hp) (hv q (by rw [ho]; simp [Op.operands]) _ hq) w
  refine ⟨_, ?_, .v _⟩
  simp [execOp, ho, h1, h2, run_eqGuard_agg _ _ _ _ _ _ _ h.gd, run_eql_struct, h3 10000 (by omega), Result.andThen, Sem.run_bind]
theorem Z49 {t t' : TypeId} {p q : Operand} {ks : List CK} {xs ys : List AV} [h : EQ P t ks] (ho : o.op = .binOp .neq t p q t') (hp : ev T p = some (.agg xs)) (hq : ev T q = some (.agg ys))
  (hx : xs.map ckA = ks.map some) (hy : ys.map ckA = ks.map some) : Eff P o T [] (.v (.bool (!(ceqs xs ys)))) [] :=
 Z01 (by intro c; rw [ho]; nofun) fun C H a w hw hn hv => by
  obtain ⟨vs, us, h1, h2, h3⟩ := Zcs (P := P) (t := t) hx hy (hv p (by rw [ho]; simp [Op.operands]) _ hp) (hv q (by rw [ho]; simp [Op.operands]) _ hq) w
  refine ⟨_, ?_, .v _⟩
  simp [execOp, ho, h1, h2, run_eqGuard_agg _ _ _ _ _ _ _ h.gd, run_neq_struct, h3 10000 (by omega), Result.andThen, Sem.run_bind]
theorem Zf8 {b : BinOp} {t t' : TypeId} {p q : Operand} {x y z : Bool} [h : UD P t .bool] (ho : o.op = .binOp b t p q t') (hp : ev T p = some (.v (.bool x))) (hq : ev T q = some (.v (.bool y)))
  (hb : (match b with | .eql => some (x == y) | .neq => some (!(x == y)) | _ => none) = some z) : Eff P o T [] (.v (.bool z)) [] :=
 Z01 (by intro c; rw [ho]; nofun) fun C H a w hw hn hv => by
  have h2 := VR.val (hv p (by rw [ho]; simp [Op.operands]) _ hp)
  have h3 := VR.val (hv q (by rw [ho]; simp [Op.operands]) _ hq)
  refine ⟨.bool z, ?_, .v _⟩
  cases b <;> simp only [Option.some.injEq, reduceCtorEq] at hb <;> subst hb <;>
   simp [execOp, ho, h2, h3, eqGuard, binOp, Op.equal, Op.maxDepth, run_equalIn_bool' w _ t _ _ h.ud, Result.andThen, Sem.run_bind]
def _root_.Go.Program.places (P : Program) (t : TypeId) : Option (List (Nat × Nat)) :=
 match P.underlying t with
 | some (.struct fs) => fs.toList.mapM fun f => (P.info? f.type).map fun i => (f.offset, i.size)
 | _ => none
class PL (P : Program) (t : TypeId) (pl : outParam (List (Nat × Nat))) : Prop where
 pl : P.places t = some pl
def fillA (place : Nat → Option (Nat × Nat)) (cs : List AV) : List (Nat × AV) → Option (List AV)
 | [] => some cs
 | (i, x) :: r => match place i with
  | none => none
  | some (off, size) => bif Nat.beq (cellsA x).length size && Nat.ble (off + size) cs.length then fillA place (cs.take off ++ cellsA x ++ cs.drop (off + size)) r else none
theorem Z7s {C : Ctx} (place : Nat → Option (Nat × Nat)) : ∀ (ps : List (Nat × AV)) (qs : List (Nat × Value)) (cs cs' : List AV) (vs : Array Value), fillA place cs ps = some cs' → ps.length = qs.length →
  (∀ (k : Nat) (p : Nat × AV) (q : Nat × Value), ps[k]? = some p → qs[k]? = some q → p.1 = q.1 ∧ VR C p.2 q.2) → cs.length = vs.size → (∀ (i : Nat) (c : AV) (u : Value), cs[i]? = some c → vs[i]? = some u → VR C c u) →
  ∃ vs', Instr.fill place vs qs = some vs' ∧ cs'.length = vs'.size ∧ ∀ (i : Nat) (c : AV) (u : Value), cs'[i]? = some c → vs'[i]? = some u → VR C c u
 | [], [], cs, cs', vs, h, _, _, hl, hv => by simp only [fillA, Option.some.injEq] at h; subst h; exact ⟨vs, rfl, hl, hv⟩
 | [], _ :: _, _, _, _, _, h, _, _, _ => by simp at h
 | _ :: _, [], _, _, _, _, h, _, _, _ => by simp at h
 | (i, x) :: ps, (j, v) :: qs, cs, cs', vs, h, hlen, hpq, hl, hv => by
  obtain ⟨e, hxv⟩ := hpq 0 _ _ rfl rfl
  simp only at e hxv
  subst e
  simp only [fillA] at h
  split at h
  ·cases h
  ·rename_i off size hpl
   cases hb : (Nat.beq (cellsA x).length size && Nat.ble (off + size) cs.length) with
   | false => rw [hb] at h; cases h
   | true =>
    rw [hb, cond_true] at h
    simp only [Bool.and_eq_true] at hb
    have h1 := Nat.eq_of_beq_eq_true hb.1
    have h2 := Nat.le_of_ble_eq_true hb.2
    obtain ⟨c1, c2⟩ := Z1o hxv
    obtain ⟨f1, f2⟩ := Z4f v off vs
    have hsz : v.cells.size = size := by rw [← c1, h1]
    have key : ∀ (k : Nat) (c : AV) (u : Value), (cs.take off ++ cellsA x ++ cs.drop (off + size))[k]? = some c → (v.cells.zipIdx.foldl (fun cs (x : Value × Nat) => cs.setIfInBounds (off + x.2) x.1) vs)[k]? = some u → VR C c u := by
     intro k c u hc hu
     rw [← h1, Z0x _ _ _ _ (by omega), h1] at hc
     rw [f2, hsz] at hu
     by_cases hk : off ≤ k ∧ k < off + size
     ·rw [if_neg (by omega), if_pos (by omega)] at hc
      rw [if_pos (by omega)] at hu
      exact c2 _ c u hc hu
     ·rw [if_neg (by omega)] at hu
      by_cases hk1 : k < off
      ·rw [if_pos hk1] at hc; exact hv k c u hc hu
      ·rw [if_neg hk1, if_neg (by omega)] at hc; exact hv k c u hc hu
    obtain ⟨vs', g1, g2⟩ := Z7s (C := C) place ps qs _ cs' _ h (by simpa using hlen) (fun k p q a b => hpq (k + 1) p q (by simpa using a) (by simpa using b)) (by rw [f1]; simp; omega) key
    refine ⟨vs', ?_, g2⟩
    simp only [Instr.fill, hpl]
    rw [if_neg (by simp; omega)]
    exact g1
theorem Zay {t : TypeId} {pl : List (Nat × Nat)} (h : P.places t = some pl) (w : World) : ∃ fs, P.underlying t = some (.struct fs) ∧ (fs.mapM (m := Sem) fun f => do pure (f.offset, ← sizeOf f.type)).run P w = .ok pl.toArray w := by
 unfold Program.places at h
 split at h
 ·rename_i fs hu
  refine ⟨fs, hu, ?_⟩
  rw [Array.mapM_eq_mapM_toList]
  have key : ∀ (l : List Field) (pl : List (Nat × Nat)), (l.mapM fun f => (P.info? f.type).map fun i => (f.offset, i.size)) = some pl → (l.mapM (m := Sem) fun f => do pure (f.offset, ← sizeOf f.type)).run P w = .ok pl w := by
   intro l
   induction l with
   | nil => intro pl h; simp at h; subst h; simp [Sem.run_pure]
   | cons f l ih =>
    intro pl h
    simp only [List.mapM_cons] at h
    cases hi : P.info? f.type with
    | none => rw [hi] at h; simp at h
    | some i =>
     rw [hi] at h
     cases hr : (l.mapM fun f => (P.info? f.type).map fun i => (f.offset, i.size)) with
     | none => rw [hr] at h; simp at h
     | some r =>
      rw [hr] at h
      simp at h
      subst h
      have e3 : (sizeOf f.type).run P w = .ok i.size w := by simp [sizeOf, typeInfo, hi]
      rw [List.mapM_cons]
      simp only [Sem.run_bind, e3, Result.andThen, Sem.run_pure, ih r hr]
  have := key fs.toList pl h
  rw [map_eq_pure_bind]
  simp only [Sem.run_bind, this, Result.andThen, Sem.run_pure]
 ·cases h
theorem Z03 {t : TypeId} {pl : List (Nat × Nat)} {zs : List Value} {ps : Array (Nat × Operand)} {xs cs : List AV} [h : PL P t pl] [z : ZC P t zs] (ho : o.op = .build t ps) (hxs : evs T (ps.toList.map Prod.snd) = some xs)
  (hf : fillA (pl[·]?) (zs.map .v) ((ps.toList.map Prod.fst).zip xs) = some cs) : Eff P o T [] (.agg cs) [] :=
 Z01 (by intro c; rw [ho]; nofun) fun C H a w hw hn hv => by
  have hops : ∀ p, p ∈ ps.toList.map Prod.snd → p ∈ o.op.operands := by
   intro p hp; rw [ho]; simpa [Op.operands] using hp
  obtain ⟨hl, hvv⟩ := Z2t (ρ := a.eval) _ _ hxs (fun p hp => hv p (hops p hp))
  obtain ⟨fs, hu, hpl⟩ := Zay h.pl w
  have hz := z.zc
  unfold Program.zc at hz
  split at hz
  ·rename_i i hi
   cases hz2 : i.zero with
   | none => rw [hz2] at hz; cases hz
   | some zv =>
    rw [hz2] at hz
    simp only [Option.map_some, Option.some.injEq] at hz
    have hxl : xs.length = ps.toList.length := by simpa using hl
    obtain ⟨vs', g1, g2, g3⟩ := Z7s (C := C) (pl[·]?) ((ps.toList.map Prod.fst).zip xs) (ps.toList.map fun x => (x.1, a.eval x.2)) (zs.map .v) cs zv.cells hf (by simp [hxl]) (by
     intro k p q hp hq
     rw [List.getElem?_zip_eq_some] at hp
     rw [List.getElem?_map] at hp hq
     cases hk : ps.toList[k]? with
     | none => rw [hk] at hq; cases hq
     | some x =>
      rw [hk] at hp hq
      simp only [Option.map_some, Option.some.injEq] at hp hq
      subst hq
      refine ⟨hp.1.symm, hvv k p.2 _ hp.2 ?_⟩
      simp [hk]) (by rw [← hz]; simp) (by
     intro i c u h1 h2
     rw [← hz, List.getElem?_map, Array.getElem?_toList, h2] at h1
     cases h1; exact .v u)
    refine ⟨.agg vs', ?_, .agg _ _ g2 g3⟩
    have e1 : (ps.map fun x => (x.1, a.eval x.2)).toList = ps.toList.map fun x => (x.1, a.eval x.2) := by simp
    have e2 : execOp a.eval o = (do pure (.value (← Instr.build t (ps.map fun x => (x.1, a.eval x.2))))) := by simp only [execOp, ho]
    have hpa : (fun x => pl.toArray[x]? : Nat → Option (Nat × Nat)) = (fun x => pl[x]?) := by funext x; simp
    rw [e2, Sem.run_bind]
    have hrun : (Instr.build t (ps.map fun x => (x.1, a.eval x.2))).run P w = .ok (.agg vs') w := by
     unfold Instr.build
     simp only [Sem.run_bind, zeroValue, typeInfo, program, Sem.run, hi, hz2, Sem.run_pure, Result.andThen, Go.run_underlying hu, hpl, e1, hpa, g1]
    rw [hrun]
    rfl
  ·cases hz
end
end Go.Sx
namespace Go.Sx
open Go
def beqS (a b : ByteArray) : Bool := a.toList == b.toList
theorem beqS_iff {a b : ByteArray} : beqS a b = true ↔ a = b := by
 unfold beqS
 rw [ByteArray.toList_eq, ByteArray.toList_eq]
 constructor
 ·intro h
  have h : a.data.toList = b.data.toList := by simpa using h
  cases a; cases b
  simp only [ByteArray.mk.injEq]
  exact Array.ext' h
 ·rintro rfl; simp
theorem Z76 (a : ByteArray) : beqS a a = true := beqS_iff.2 rfl
theorem Z6f (a b : ByteArray) : (a == b) = beqS a b := beq_toListBytes a b
def skey (s : ByteArray) (v : Value) : Bool := match v with | .string t => beqS s t | _ => false
def _root_.Go.Program.zv (P : Program) (t : TypeId) : Option Value := (P.info? t).bind (·.zero)
class ZV (P : Program) (t : TypeId) (v : outParam Value) : Prop where
 zv : P.zv t = some v
theorem Z2z {P : Program} {t : TypeId} {v : Value} (h : P.zv t = some v) (w : World) : (zeroValue t).run P w = .ok v w := by
 unfold Program.zv at h
 cases hi : P.info? t with
 | none => rw [hi] at h; cases h
 | some i =>
  rw [hi] at h
  simp only [Option.bind_some] at h
  simp [zeroValue, typeInfo, hi, h]
def mget : List (Value × AV) → ByteArray → Option AV
 | [], _ => none
 | (k, x) :: r, s => bif skey s k then some x else mget r s
def mput : List (Value × AV) → ByteArray → AV → List (Value × AV)
 | [], s, x => [(.string s, x)]
 | (k, y) :: r, s, x => bif skey s k then (.string s, x) :: r else (k, y) :: mput r s x
def strKeys (es : List (Value × AV)) : Prop := ∀ k x, (k, x) ∈ es → ∃ s, k = .string s
section
variable {P : Program} {ro : Option Nat} {Q : Exit → St → Prop} {s : St} {ops : Array Oper} {o : Oper} {rest : List Oper} {T : List (Nat × AV)}
theorem Z55 (id : Nat) {t : TypeId} (ho : o.op = .makeMap t none) : Eff P o T [] (.map id) [(id, .mp [])] :=
 Z56 (N := 0) (by intro c; rw [ho]; nofun) fun C H a w hw _ hv hid => by
  refine ⟨.map (some w.heap.size), .map #[] 0, ?_, .map id _ 0 (Ctx.bind_m ..) List.mem_cons_self, ?_⟩
  ·simp [execOp, ho, Instr.makeMap, run_newObj_alloc, Result.andThen, Sem.run_bind]
  ·refine ⟨w.heap.size, 0, #[], 0, Ctx.bind_m .., heap_alloc_new w _, rfl, ?_, ?_, ?_⟩
   ·intro i e h; simp at h
   ·intro i j e e' h; simp at h
   ·intro i k x h; simp at h
end
end Go.Sx
namespace Go.Sx
open Go
def YCalls (P : Program) (id : Nat) (xs : List AV) (H : AHeap) (R : AEnd → AHeap → Prop) : Prop :=
 ∀ Z C w vs l N, C.m id = some (l, N) → WR C H w → VRs C xs vs →
  ∃ fn tmps assign body, (Instr.yield l vs).run P w = .ok (.round l fn tmps assign body) w ∧
   RoundIn (Wd none) 0 P l fn tmps assign body w (fun e w' => ∃ C' H' x, R x H' ∧ WR C' H' w' ∧ Ext Z C H w C' H' w' ∧ ER C' x e)
theorem Zb0 {P : Program} {ro : Option Nat} {s : St} {o : Oper} {fo : Operand} {args : Array Operand} {ats : Array TypeId} {id : Nat} {xs : List AV} {K : St → Prop} {KP : List PanicEntry → St → Prop} {R : AEnd → AHeap → Prop} (Hf Fr : AHeap)
  (ho : o.op = .call { callee := .value fo, args := args, argTypes := ats }) (hfo : ev s.T fo = some (.yld id)) (hxs : evs s.T args.toList = some xs) (hp : s.H.Perm (Hf ++ Fr))
  (hd : dok o.dst s.n = true) (hc : YCalls P id xs Hf R)
  (hk : ∀ x H', R (.ret x) H' → K { s with T := put s.T o.dst x, H := H' ++ Fr }) (hkp : ∀ ch H', ¬ R (.panic ch) H') : Step P ro o K KP s := by
 intro Z C0 H0 w0 C a w he hs
 have hmem : ∀ p, p ∈ args.toList → p ∈ o.op.operands := fun p hp => by
  rw [ho]; simp only [Op.operands, Call.operands]; exact Array.mem_append.2 (.inr (by simpa using hp))
 have h1 := Z2t (C := C) (ρ := a.eval) args.toList xs hxs (fun p _ y hy => hs.ev hy)
 have h2 := hs.ev hfo
 have hw1 : WR C (Hf ++ Fr) w := hs.wr.perm hp
 generalize hf : a.eval fo = u at h2
 cases h2 with
 | yld _ l N hid hu =>
  obtain ⟨fn, tmps, assign, body, hy, hR⟩ := hc Z C w _ l N hid hw1.left h1
  have hrun : (o.semAt ro a.eval).run P w = .ok (.round l fn tmps assign body) w := by
   rw [Oper.semAt_eq _ _ _ (by intro c; rw [ho]; nofun)]
   have e : Array.map a.eval args = (args.toList.map a.eval).toArray := by apply Array.ext'; simp
   simp only [execOp, ho, Sem.run_bind, resolve, Deferred.ofValue, hf, Sem.run_pure, Result.andThen, invoke, e]
   simpa using hy
  rw [hrun]
  refine ⟨nofun, ?_⟩
  refine RoundIn.mono (F := Wd ro) hR ?_
  rintro e w' ⟨C', H', x, r, hw', he', hx⟩
  obtain ⟨h3, h4⟩ := he'.frame hw1 hw'
  cases e with
  | returned v =>
   cases x with
   | ret x => exact ⟨C', _, hk x H' r, hs.put he'.le h3 (Z0k hd) hx, he.trans (h4.permL hp.symm)⟩
   | panic ch => exact hx.elim
  | panicked ch =>
   cases x with
   | ret x => exact hx.elim
   | panic ch' => exact (hkp ch' H' r).elim
  | outgrown => cases x <;> exact hx.elim
def SeqR {α : Type} (J Jx : List α → AHeap → Prop) (xs : List α) : AEnd → AHeap → Prop :=
 fun e H' => (∃ v, e = .ret v) ∧ ((∃ H'', H'.Perm H'' ∧ J xs H'') ∨ (∃ pre H'', H'.Perm H'' ∧ Jx pre H''))
structure SeqA {α : Type} (P : Program) (gf : Nat) (caps : List AV) (Hit : AHeap) (enc : α → List AV) (xs : List α) : Prop where
 ok : Callable P gf
 run : ∀ (id : Nat) (J Jx : List α → AHeap → Prop),
  (∀ pre x suf H, xs = pre ++ x :: suf → J pre H → YCalls P id (enc x) H (fun e H' => (e = .ret (.v (.bool true)) ∧ J (pre ++ [x]) H') ∨ (e = .ret (.v (.bool false)) ∧ Jx (pre ++ [x]) H'))) →
  ∀ H, J [] H → ACalls P gf (.yld id :: caps) (Hit ++ H) (SeqR J Jx xs)
def prm (T : List (Nat × AV)) : List Tmp → List AV → List (Nat × AV)
 | t :: ps, x :: xs => prm ((t, x) :: T) ps xs
 | _, _ => T
theorem Z6s {C : Ctx} {n : Nat} : ∀ (ps : List Tmp) (xs : List AV) (T : List (Nat × AV)) (tmps : Array Value) (vs : List Value), ps.length = xs.length → xs.length = vs.length → (∀ t, t ∈ ps → t < n) → tmps.size = n →
  (∀ t x, lk T t = some x → ∃ v, tmps[t]? = some v ∧ VR C x v) → (∀ (i : Nat) (x : AV) (v : Value), xs[i]? = some x → vs[i]? = some v → VR C x v) →
  ((ps.zip vs).foldl (fun tmps (x : Tmp × Value) => tmps.setIfInBounds x.1 x.2) tmps).size = n ∧
   ∀ t x, lk (prm T ps xs) t = some x → ∃ v, ((ps.zip vs).foldl (fun tmps (x : Tmp × Value) => tmps.setIfInBounds x.1 x.2) tmps)[t]? = some v ∧ VR C x v
 | [], [], T, tmps, vs, _, _, _, hs, hT, _ => by simpa using ⟨hs, hT⟩
 | [], _ :: _, _, _, _, h, _, _, _, _, _ => by simp at h
 | _ :: _, [], _, _, _, h, _, _, _, _, _ => by simp at h
 | t :: ps, x :: xs, T, tmps, [], _, h, _, _, _, _ => by simp at h
 | t :: ps, x :: xs, T, tmps, v :: vs, h1, h2, h3, hs, hT, hv => by
  simp only [List.zip_cons_cons, List.foldl_cons, prm]
  refine Z6s ps xs ((t, x) :: T) (tmps.setIfInBounds t v) vs (by simpa using h1) (by simpa using h2) (fun u hu => h3 u (List.mem_cons_of_mem _ hu)) (by simpa using hs) ?_ (fun i y u a b => hv (i + 1) y u (by simpa using a) (by simpa using b))
  intro u y hy
  simp only [lk] at hy
  cases hb : Nat.beq t u with
  | true =>
   have e := Nat.eq_of_beq_eq_true hb
   subst e
   simp only [hb, cond_true, Option.some.injEq] at hy
   subst hy
   have hlt : t < tmps.size := by rw [hs]; exact h3 t List.mem_cons_self
   exact ⟨v, by simp [hlt], hv 0 x v rfl rfl⟩
  | false =>
   simp only [hb, cond_false] at hy
   have hne : t ≠ u := fun e => by subst e; simp at hb
   obtain ⟨z, a, b⟩ := hT u y hy
   exact ⟨z, by rw [Array.getElem?_setIfInBounds_ne hne]; exact a, b⟩
def roundQ {α : Type} (I : List α → AHeap → Prop) (Ix : Code → List α → AHeap → Prop) (pre : List α) : Exit → St → Prop
 | .normal, s => ∃ s', Weak s s' ∧ I pre s'.H
 | .ret, s => ∃ s', Weak s s' ∧ Ix .ret pre s'.H
 | .exit i, s => ∃ s', Weak s s' ∧ Ix (.exit i) pre s'.H
 | .goto i, s => ∃ s', Weak s s' ∧ Ix (.goto i) pre s'.H
 | _, _ => False
theorem Z1x {C : Ctx} {id : Nat} {w : World} {T : List (Nat × AV)} {n : Nat} {ps : Array Tmp} {assign body : Code} {st : LoopState} {pend : Option Code} (h : OR C id w (.loop T n ps assign body st pend)) {l N : Nat} (hm : C.m id = some (l, N)) :
  ∃ r, w.heap[l]? = some (.loop r) ∧ r.state = st ∧ r.pending = pend ∧ r.params = ps ∧ r.assign = assign ∧ r.body = body ∧ r.tmps.size = n ∧ ∀ (t : Nat) (x : AV), lk T t = some x → ∃ v, r.tmps[t]? = some v ∧ VR C x v := by
 obtain ⟨b, N', r, hm', rest⟩ := h
 rw [hm] at hm'; cases hm'
 exact ⟨r, rest⟩
theorem Z5g {Z : List Nat} {C : Ctx} {R : AHeap} {w : World} {id l N : Nat} {r : Loop} {T : List (Nat × AV)} {n : Nat} {ps : Array Tmp} {assign body : Code} {st st' : LoopState} {pend pend' : Option Code}
  (hw : WR C ((id, .loop T n ps assign body st pend) :: R) w) (hm : C.m id = some (l, N)) (hr : w.heap[l]? = some (.loop r)) :
  WR C ((id, .loop T n ps assign body st' pend') :: R) (w.putObj l (.loop { r with state := st', pending := pend' })) ∧
   Ext Z C ((id, .loop T n ps assign body st pend) :: R) w C ((id, .loop T n ps assign body st' pend') :: R) (w.putObj l (.loop { r with state := st', pending := pend' })) := by
 obtain ⟨hu, hor⟩ := hw.ids _ _ List.mem_cons_self
 obtain ⟨r', h1, h2, h3, h4, h5, h6, h7, h8⟩ := Z1x hor hm
 rw [hr] at h1; cases h1
 refine Z83 hw (.refl C) rfl (.inl rfl) hu (fun _ _ h => h) rfl rfl rfl (by simp) (fun b N' h => .inl ⟨N', h⟩) (fun b hb hne => World.putObj_heap_other (by rintro rfl; exact hne N hm)) ?_
 exact ⟨l, N, _, hm, World.putObj_heap_same (Array.getElem?_eq_some_iff.1 hr).1, rfl, rfl, h4, h5, h6, h7, h8⟩
end Go.Sx
namespace Go.Sx
open Go
def Cov (C : Ctx) (xs : List AV) (cs : List Value) : Prop := xs.length = cs.length ∧ ∀ (i : Nat) (x : AV) (c : Value), xs[i]? = some x → cs[i]? = some c → VR C x c ∧ c.oneCell' = true
theorem Cov.nil {C : Ctx} : Cov C [] [] := ⟨rfl, by intro i x c h; simp at h⟩
theorem Cov.one {C : Ctx} {x : AV} {c : Value} (h : VR C x c) (h1 : c.oneCell' = true) : Cov C [x] [c] :=
 ⟨rfl, fun i y d hy hd => by
  cases i with
  | zero => simp at hy hd; subst hy; subst hd; exact ⟨h, h1⟩
  | succ i => simp at hy⟩
theorem Cov.append {C : Ctx} {xs ys : List AV} {cs ds : List Value} (h : Cov C xs cs) (k : Cov C ys ds) : Cov C (xs ++ ys) (cs ++ ds) := by
 refine ⟨by simp [h.1, k.1], fun i x c hx hc => ?_⟩
 rcases Nat.lt_or_ge i xs.length with hlt | hge
 ·rw [List.getElem?_append_left hlt] at hx
  rw [List.getElem?_append_left (by rw [← h.1]; exact hlt)] at hc
  exact h.2 i x c hx hc
 ·rw [List.getElem?_append_right hge] at hx
  rw [List.getElem?_append_right (by rw [← h.1]; exact hge), ← h.1] at hc
  exact k.2 _ x c hx hc
inductive TV (P : Program) : TypeId → List AV → Prop
 | bool {t : TypeId} (b : Bool) (h : P.underlying t = some .bool) : TV P t [.v (.bool b)]
 | int {t : TypeId} {k : IntKind} (n : Int) (h : P.underlying t = some (.int k)) (hn : (Lit.int k n).wf = true) : TV P t [.v (.int k n)]
 | string {t : TypeId} (s : ByteArray) (h : P.underlying t = some .string) (hs : s.size ≤ reachBytes) : TV P t [.v (.string s)]
 | slice {t e : TypeId} (es : List (List AV)) (h : P.underlying t = some (.slice e)) (hl : es.length * P.bytesOf e ≤ reachBytes) (hm : es.length ≤ maxLen) (he : ∀ x : List AV, x ∈ es → TV P e x) : TV P t [.lst es]
 | struct {t : TypeId} {fs : Array Field} (parts : List (List AV)) (h : P.underlying t = some (.struct fs)) (hl : parts.length = fs.size) (hp : ∀ (i : Nat) (f : Field) (x : List AV), fs[i]? = some f → parts[i]? = some x → TV P f.type x) : TV P t parts.flatten
 | array {t e : TypeId} {n : Nat} (parts : List (List AV)) (h : P.underlying t = some (.array n e)) (hl : parts.length = n) (hp : ∀ x : List AV, x ∈ parts → TV P e x) : TV P t parts.flatten
def tight (P : Program) : List Field → Nat → Nat → Bool
 | [], off, to => off == to
 | f :: fs, off, to => f.offset == off && tight P fs (off + P.cellsOf f.type) to
def okT (P : Program) : Nat → TypeId → Bool
 | 0, _ => false
 | n + 1, t => match P.underlying t with
  | some .bool => true
  | some (.int _) => true
  | some .string => true
  | some (.slice e) => Nat.blt 0 (P.cellsOf e) && okT P n e
  | some (.struct fs) => tight P fs.toList 0 (P.cellsOf t) && fs.toList.all fun f => okT P n f.type
  | some (.array k e) => Nat.beq (P.cellsOf t) (k * P.cellsOf e) && okT P n e
  | _ => false
section
variable {H : Type} {P : Program}
theorem Z3h {e : TypeId} {M : Nat} : ∀ {l : List (DataW H)}, (∀ n ∈ DataW.weightsAll P e l, n ≤ M) → ∀ d ∈ l, ∀ n ∈ d.weights P e, n ≤ M
 | [], _, d, hd, _, _ => by cases hd
 | x :: l, h, d, hd, n, hn => by
  simp only [DataW.weightsAll, List.mem_append] at h
  rcases List.mem_cons.1 hd with rfl | hd
  ·exact h n (.inl hn)
  ·exact Z3h (fun n hn => h n (.inr hn)) d hd n hn
end
def baseC (w : World) : Ctx := ⟨fun b => w.heap[b]?, fun _ => none, [], fun _ => none⟩
theorem Z9d (w : World) : WR (baseC w) [] w := ⟨fun _ _ h => h, List.nodup_nil, nofun, nofun, fun b ⟨i, o, N, h, _⟩ => by cases h⟩
theorem cells?_get {w : World} {a : Addr} {n : Nat} {cs : List Value} (h : w.cells? 0 a n = some cs) : cs.length = n ∧ ∀ (j : Nat) (c : Value), cs[j]? = some c → w.cell? (a.add j) = some c := by
 unfold World.cells? at h
 rw [if_pos (Nat.zero_le _)] at h
 have hl := mapM_some_length h
 rw [List.length_range] at hl
 refine ⟨hl, fun j c hc => ?_⟩
 have hj : j < n := by rw [← hl]; exact (List.getElem?_eq_some_iff.1 hc).1
 have := mapM_some_get h j j (by rw [List.getElem?_range hj])
 rw [this]; exact hc
theorem Zb4 (a : Addr) (k : Nat) : (a.add k).block = a.block ∧ (a.add k).off = a.off + k ∧ (a.spot = none → (a.add k).spot = none) := by
 unfold Addr.add
 split
 ·rename_i h; subst h; exact ⟨rfl, rfl, id⟩
 ·exact ⟨rfl, rfl, fun _ => rfl⟩
theorem cell?_at {w : World} {a : Addr} {c : Value} (h : w.cell? a = some c) : ∃ cells el fz, w.heap[a.block]? = some (.cells cells el fz) ∧ a.spot = none ∧ cells[a.off]? = some c := by
 unfold World.cell? at h
 split at h
 ·rename_i cells el fz hh
  split at h
  ·cases h
  ·rename_i hs
   exact ⟨cells, el, fz, hh, by simpa using hs, h⟩
 ·cases h
section
variable {H : Type} {enc : TypeId × Value → H} {P : Program} {w : World}
theorem Ze4 (M : Nat) (hM : M = reachBytes) : ∀ (n : Nat) (t : TypeId), okT P n t = true → ∀ (fuel : Nat) (cs : List Value) (d : DataW H) (ps : List MemPlace),
  DataW.trod enc P w 0 (fun _ => true) true fuel t cs = some (d, ps) → (∀ k ∈ d.weights P t, k ≤ M) → ∃ xs, Cov (baseC w) xs cs ∧ TV P t xs := by
 intro n
 induction n with
 | zero => intro t h; cases h
 | succ n ih =>
  intro t hok fuel cs d ps h hw
  cases fuel with
  | zero => simp [DataW.trod] at h
  | succ fuel =>
  unfold okT at hok
  cases hu : P.underlying t with
  | none => rw [hu] at hok; cases hok
  | some u =>
  rw [hu] at hok
  cases u with
  | bool =>
   unfold DataW.trod at h
   rw [hu] at h
   split at h <;> simp_all
   exact ⟨_, .one (.v _) rfl, .bool _ hu⟩
  | int k =>
   unfold DataW.trod at h
   rw [hu] at h
   split at h <;> simp_all
   exact ⟨_, .one (.v _) rfl, .int _ hu h.1.2⟩
  | string =>
   unfold DataW.trod at h
   rw [hu] at h
   split at h
   all_goals try (rename_i h1; simp at h1; done)
   all_goals try (simp at h; done)
   rename_i s h1
   split at h
   ·simp only [Option.some.injEq, Prod.mk.injEq] at h
    obtain ⟨rfl, rfl⟩ := h
    refine ⟨_, .one (.v _) rfl, .string _ hu ?_⟩
    have := hw s.data.toList.length (by simp [DataW.weights])
    rw [hM] at this
    simpa using this
   ·cases h
  | slice e =>
   simp only [Bool.and_eq_true] at hok
   obtain ⟨hpos, hoke⟩ := hok
   have hpos : 0 < P.cellsOf e := Nat.blt_eq ▸ hpos
   unfold DataW.trod at h
   rw [hu] at h
   split at h
   all_goals try (rename_i h1; simp at h1; done)
   all_goals try (simp at h; done)
   ·simp only [Option.some.injEq, Prod.mk.injEq] at h
    exact ⟨[.lst []], .one .lstNil rfl, .slice [] hu (by simp) (by simp) nofun⟩
   ·rename_i e' a len cap h1
    simp only [Option.some.injEq, TypeDesc.slice.injEq] at h1
    subst h1
    split at h
    ·rename_i hb
     obtain ⟨elems, hel, h⟩ := Option.bind_eq_some_iff.1 h
     rw [if_pos rfl] at h
     obtain ⟨rest, hrest, h⟩ := Option.map_eq_some_iff.1 h
     simp only [Prod.mk.injEq] at h
     obtain ⟨rfl, rfl⟩ := h
     have hlen : elems.length = len := by rw [mapM_some_length hel, List.length_range]
     simp only [DataW.weights, hu, List.mem_cons, List.mem_append, forall_eq_or_imp] at hw
     obtain ⟨hw1, hw2⟩ := hw
     have each : ∀ i, i < len → ∃ cs' xs, w.cells? 0 (a.add (i * P.cellsOf e)) (P.cellsOf e) = some cs' ∧ Cov (baseC w) xs cs' ∧ TV P e xs := by
      intro i hi
      have hg := mapM_some_get hel i i (by rw [List.getElem?_range hi])
      have hi' : i < elems.length := by omega
      rw [List.getElem?_eq_getElem hi'] at hg
      obtain ⟨cs', hc, hd⟩ := Option.bind_eq_some_iff.1 hg
      obtain ⟨xs, hx, ht⟩ := ih e hoke fuel cs' elems[i].1 elems[i].2 hd (Z3h (fun n hn => hw2 n (.inl hn)) elems[i].1 (List.mem_map.2 ⟨elems[i], List.getElem_mem hi', rfl⟩))
      exact ⟨cs', xs, hc, hx, ht⟩
     classical
     let f : Nat → List Value := fun i => if hi : i < len then (each i hi).choose else []
     let g : Nat → List AV := fun i => if hi : i < len then (each i hi).choose_spec.choose else []
     have hfg : ∀ i, i < len → w.cells? 0 (a.add (i * P.cellsOf e)) (P.cellsOf e) = some (f i) ∧ Cov (baseC w) (g i) (f i) ∧ TV P e (g i) := by
      intro i hi
      simp only [f, g, dif_pos hi]
      exact (each i hi).choose_spec.choose_spec
     let es := (List.range len).map g
     have hes : es.length = len := by simp [es]
     have hget : ∀ (i : Nat) (x : List AV), es[i]? = some x → i < len ∧ x = g i := by
      intro i x hx
      have hi : i < len := by rw [← hes]; exact (List.getElem?_eq_some_iff.1 hx).1
      refine ⟨hi, ?_⟩
      simp only [es, List.getElem?_map, List.getElem?_range hi, Option.map_some, Option.some.injEq] at hx
      exact hx.symm
     have hz : ∀ x : List AV, x ∈ es → x.length = P.cellsOf e := by
      intro x hx
      obtain ⟨i, hi, rfl⟩ := List.mem_map.1 hx
      have hi := List.mem_range.1 hi
      rw [(hfg i hi).2.1.1, (cells?_get (hfg i hi).1).1]
     refine ⟨[.lst es], .one ?_ rfl, .slice es hu ?_ (by omega) ?_⟩
     ·have hcell : ∀ (i j : Nat) (c : Value), i < len → (f i)[j]? = some c → w.cell? ((a.add (i * P.cellsOf e)).add j) = some c := fun i j c hi hc => (cells?_get (hfg i hi).1).2 j c hc
      have first : ∀ i j c, i < len → (f i)[j]? = some c → ∃ cells el fz, w.heap[a.block]? = some (.cells cells el fz) ∧ (a.spot = none ∨ i * P.cellsOf e + j ≠ 0) ∧ cells[a.off + i * P.cellsOf e + j]? = some c := by
       intro i j c hi hc
       obtain ⟨cells, el, fz, hh, hs, hcc⟩ := cell?_at (hcell i j c hi hc)
       obtain ⟨b1, o1, s1⟩ := Zb4 a (i * P.cellsOf e)
       obtain ⟨b2, o2, s2⟩ := Zb4 (a.add (i * P.cellsOf e)) j
       rw [b2, b1] at hh
       rw [o2, o1] at hcc
       refine ⟨cells, el, fz, hh, ?_, hcc⟩
       rcases Nat.eq_zero_or_pos (i * P.cellsOf e + j) with h0 | h0
       ·have e1 : i * P.cellsOf e = 0 := by omega
        have e2 : j = 0 := by omega
        rw [e1, e2] at hs
        left
        simpa [Addr.add] using hs
       ·right; omega
      have start : es ≠ [] → a.spot = none ∧ ∃ cells el fz, w.heap[a.block]? = some (.cells cells el fz) := by
       intro hne
       have hl : 0 < len := by
        rcases Nat.eq_zero_or_pos len with h0 | h0
        ·exact absurd (List.eq_nil_of_length_eq_zero (by rw [hes, h0])) hne
        ·exact h0
       have hf0 : 0 < (f 0).length := by rw [(cells?_get (hfg 0 hl).1).1]; exact hpos
       obtain ⟨cells, el, fz, hh, hs, _⟩ := first 0 0 _ hl (List.getElem?_eq_getElem hf0)
       refine ⟨?_, cells, el, fz, hh⟩
       rcases hs with hs | hs
       ·exact hs
       ·simp at hs
      have hcells : ∃ cells el fz, (es ≠ [] → w.heap[a.block]? = some (.cells cells el fz)) := by
       by_cases hne : es = []
       ·exact ⟨#[], 0, (0, 0), fun h => absurd hne h⟩
       ·obtain ⟨_, c, el, fz, hh⟩ := start hne
        exact ⟨c, el, fz, fun _ => hh⟩
      obtain ⟨cells, el, fz, hh⟩ := hcells
      rw [← hes]
      have key : ∀ (i : Nat) (x : List AV) (j : Nat) (c : AV), es[i]? = some x → x[j]? = some c → ∃ v, (f i)[j]? = some v ∧ cells[a.off + i * P.cellsOf e + j]? = some v ∧ VR (baseC w) c v ∧ v.oneCell' = true := by
       intro i x j c hx hc
       obtain ⟨hi, rfl⟩ := hget i x hx
       have hj : j < (f i).length := by rw [← (hfg i hi).2.1.1]; exact (List.getElem?_eq_some_iff.1 hc).1
       have hv := List.getElem?_eq_getElem hj
       obtain ⟨cells', el', fz', h1, _, h2⟩ := first i j _ hi hv
       have hne : es ≠ [] := by intro h0; rw [h0] at hx; simp at hx
       rw [hh hne] at h1
       cases h1
       obtain ⟨h3, h4⟩ := (hfg i hi).2.1.2 j c _ hc hv
       exact ⟨_, hv, h2, h3, h4⟩
      refine .lst es a (P.cellsOf e) cap cells el fz (fun i j => ((f i)[j]?).getD default) (fun hne => (start hne).1) hh hz ?_ ?_ ?_ (by omega)
      ·intro i x j c hx hc
       obtain ⟨v, h1, h2, _⟩ := key i x j c hx hc
       rw [h2, h1]; rfl
      ·intro i x j c hx hc
       obtain ⟨v, h1, _, h3, _⟩ := key i x j c hx hc
       rw [h1]; exact h3
      ·intro i x j c hx hc
       obtain ⟨v, h1, _, _, h4⟩ := key i x j c hx hc
       rw [h1]; exact h4
     ·rw [hes]
      have : len * P.bytesOf e ≤ ((elems.map (·.1)).length + (rest.map (·.1)).length) * P.bytesOf e := Nat.mul_le_mul_right _ (by simp; omega)
      omega
     ·intro x hx
      obtain ⟨i, hi, rfl⟩ := List.mem_map.1 hx
      exact (hfg i (List.mem_range.1 hi)).2.2
    ·cases h
  | struct fs =>
   simp only [Bool.and_eq_true] at hok
   obtain ⟨htight, hall⟩ := hok
   simp only [DataW.trod, hu] at h
   split at h
   ·rename_i hlen
    obtain ⟨ys, hys, h⟩ := Option.map_eq_some_iff.1 h
    simp only [Prod.mk.injEq] at h
    obtain ⟨rfl, rfl⟩ := h
    simp only [DataW.weights, hu] at hw
    have claim : ∀ (fl : List Field) (off : Nat) (ys : List (DataW H × List MemPlace)), tight P fl off cs.length = true → (fl.all fun f => okT P n f.type) = true →
      fl.mapM (fun f => DataW.trod enc P w 0 (fun _ => true) true fuel f.type ((cs.drop f.offset).take (P.cellsOf f.type))) = some ys →
      (∀ k ∈ DataW.weightsEach P (fl.map (·.type)) (ys.map (·.1)), k ≤ M) →
      ∃ parts : List (List AV), parts.length = fl.length ∧ Cov (baseC w) parts.flatten (cs.drop off) ∧ ∀ (i : Nat) (f : Field) (x : List AV), fl[i]? = some f → parts[i]? = some x → TV P f.type x := by
     intro fl
     induction fl with
     | nil =>
      intro off ys ht _ _ _
      simp only [tight, beq_iff_eq] at ht
      refine ⟨[], rfl, ?_, by intro i f x h; simp at h⟩
      subst ht
      simpa using (Cov.nil (C := baseC w))
     | cons f fl ihf =>
      intro off ys ht ha hm hwt
      simp only [tight, Bool.and_eq_true, beq_iff_eq] at ht
      simp only [List.all_cons, Bool.and_eq_true] at ha
      simp only [List.mapM_cons, Option.pure_def, Option.bind_eq_bind] at hm
      obtain ⟨y, hy, hm⟩ := Option.bind_eq_some_iff.1 hm
      obtain ⟨yr, hyr, hm⟩ := Option.bind_eq_some_iff.1 hm
      cases hm
      simp only [List.map_cons, DataW.weightsEach, List.mem_append] at hwt
      obtain ⟨xs, hx, hxt⟩ := ih f.type ha.1 fuel _ y.1 y.2 hy (fun k hk => hwt k (.inl hk))
      obtain ⟨parts, hpl, hpc, hpt⟩ := ihf _ yr ht.2 ha.2 hyr (fun k hk => hwt k (.inr hk))
      refine ⟨xs :: parts, by simp [hpl], ?_, ?_⟩
      ·rw [List.flatten_cons]
       have e1 : cs.drop off = (cs.drop f.offset).take (P.cellsOf f.type) ++ cs.drop (off + P.cellsOf f.type) := by
        rw [ht.1, ← List.drop_drop, List.take_append_drop]
       rw [e1]
       exact hx.append hpc
      ·intro i g x hg hxx
       cases i with
       | zero => simp at hg hxx; subst hg; subst hxx; exact hxt
       | succ i => simp at hg hxx; exact hpt i g x hg hxx
    obtain ⟨parts, hpl, hpc, hpt⟩ := claim fs.toList 0 ys (by rw [hlen]; exact htight) hall hys hw
    rw [List.drop_zero] at hpc
    exact ⟨_, hpc, .struct parts hu (by simpa using hpl) (fun i f x hf hx => hpt i f x (by simpa using hf) hx)⟩
   ·cases h
  | array k' e' =>
   simp only [Bool.and_eq_true] at hok
   obtain ⟨hsz, hoke⟩ := hok
   have hsz := Nat.eq_of_beq_eq_true hsz
   simp only [DataW.trod, hu] at h
   split at h
   ·rename_i hlen
    obtain ⟨ys, hys, h⟩ := Option.map_eq_some_iff.1 h
    simp only [Prod.mk.injEq] at h
    obtain ⟨rfl, rfl⟩ := h
    simp only [DataW.weights, hu] at hw
    have hyl : ys.length = k' := by rw [mapM_some_length hys, List.length_range]
    have claim : ∀ m, m ≤ k' → ∃ parts : List (List AV), parts.length = m ∧ Cov (baseC w) parts.flatten (cs.drop ((k' - m) * P.cellsOf e')) ∧ ∀ x : List AV, x ∈ parts → TV P e' x := by
     intro m
     induction m with
     | zero =>
      intro _
      refine ⟨[], rfl, ?_, nofun⟩
      have : cs.drop ((k' - 0) * P.cellsOf e') = [] := by rw [Nat.sub_zero, ← hsz, ← hlen]; simp
      rw [this]; exact .nil
     | succ m ihm =>
      intro hm
      obtain ⟨parts, hpl, hpc, hpt⟩ := ihm (by omega)
      have hi : k' - (m + 1) < k' := by omega
      have hg := mapM_some_get hys (k' - (m + 1)) (k' - (m + 1)) (by rw [List.getElem?_range hi])
      have hi' : k' - (m + 1) < ys.length := by omega
      rw [List.getElem?_eq_getElem hi'] at hg
      obtain ⟨xs, hx, hxt⟩ := ih e' hoke fuel _ ys[k' - (m + 1)].1 ys[k' - (m + 1)].2 hg (Z3h hw _ (List.mem_map.2 ⟨_, List.getElem_mem hi', rfl⟩))
      refine ⟨xs :: parts, by simp [hpl], ?_, ?_⟩
      ·rw [List.flatten_cons]
       have e1 : cs.drop ((k' - (m + 1)) * P.cellsOf e') = (cs.drop ((k' - (m + 1)) * P.cellsOf e')).take (P.cellsOf e') ++ cs.drop ((k' - m) * P.cellsOf e') := by
        have : (k' - m) * P.cellsOf e' = (k' - (m + 1)) * P.cellsOf e' + P.cellsOf e' := by
         rw [show k' - m = (k' - (m + 1)) + 1 from by omega, Nat.succ_mul]
        rw [this, ← List.drop_drop, List.take_append_drop]
       rw [e1]
       exact hx.append hpc
      ·intro x hx
       rcases List.mem_cons.1 hx with rfl | hx
       ·exact hxt
       ·exact hpt x hx
    obtain ⟨parts, hpl, hpc, hpt⟩ := claim k' (Nat.le_refl _)
    rw [Nat.sub_self, Nat.zero_mul, List.drop_zero] at hpc
    exact ⟨_, hpc, .array parts hu hpl hpt⟩
   ·cases h
  | _ => cases hok
end
end Go.Sx
namespace Go.Sx
open Go Go.ChangeShapes Go.RowKit
inductive TX (P : Program) (t : TypeId) : AV → Prop
 | one {x : AV} (h : TV P t [x]) : TX P t x
 | agg {xs : List AV} (h : TV P t xs) : TX P t (.agg xs)
def isAggT (P : Program) (t : TypeId) : Bool := match P.underlying t with
 | some (.struct _) => true
 | some (.array _ _) => true
 | _ => false
inductive TXs (P : Program) : List TypeId → List AV → Prop
 | nil : TXs P [] []
 | one {t : TypeId} {ts : List TypeId} {x : AV} {xs : List AV} (hn : isAggT P t = false) (h : TV P t [x]) (r : TXs P ts xs) : TXs P (t :: ts) (x :: xs)
 | agg {t : TypeId} {ts : List TypeId} {cs : List AV} {xs : List AV} (hn : isAggT P t = true) (h : TV P t cs) (r : TXs P ts xs) : TXs P (t :: ts) (.agg cs :: xs)
section
variable {H : Type} {enc : TypeId × Value → H} {P : Program} {W : World}
theorem Ze5 {n : Nat} {t : TypeId} {v : Value} {d : DataW H} {ps : List MemPlace} {base : Nat} (hok : okT P n t = true) (h : DataW.Trod enc P W 0 (fun _ => true) true t v d ps) (hv : Value.okWide P W .any base t v)
  (hw : ∀ k ∈ d.weights P t, k ≤ reachBytes) : (isAggT P t = false ∧ ∃ x, VR (baseC W) x v ∧ TV P t [x]) ∨ (isAggT P t = true ∧ ∃ cs, VR (baseC W) (.agg cs) v ∧ TV P t cs) := by
 obtain ⟨fuel, hf⟩ := h
 obtain ⟨xs, hc, ht⟩ := Ze4 reachBytes rfl n t hok fuel _ d ps hf hw
 cases n with
 | zero => cases hok
 | succ n =>
 unfold okT at hok
 have one : v.cells.toList = [v] → isAggT P t = false → (isAggT P t = false ∧ ∃ x, VR (baseC W) x v ∧ TV P t [x]) ∨ (isAggT P t = true ∧ ∃ cs, VR (baseC W) (.agg cs) v ∧ TV P t cs) := by
  intro h1 h2
  rw [h1] at hc
  left
  refine ⟨h2, ?_⟩
  have hl := hc.1
  match xs, hl, hc, ht with
  | [x], _, hc, ht => exact ⟨x, (hc.2 0 x v rfl rfl).1, ht⟩
 have agg : (∃ cs, v = .agg cs) → isAggT P t = true → (isAggT P t = false ∧ ∃ x, VR (baseC W) x v ∧ TV P t [x]) ∨ (isAggT P t = true ∧ ∃ cs, VR (baseC W) (.agg cs) v ∧ TV P t cs) := by
  rintro ⟨cs, rfl⟩ h2
  right
  refine ⟨h2, xs, .agg xs cs ?_ ?_, ht⟩
  ·simpa [Value.cells] using hc.1
  ·intro i x c hx hcc
   exact (hc.2 i x c hx (by simpa [Value.cells] using hcc)).1
 cases hu : P.underlying t with
 | none => rw [hu] at hok; cases hok
 | some u =>
  rw [hu] at hok
  simp only [Value.okWide, hu, Cell.okWide, Cell.ok] at hv
  cases u with
  | bool => exact one (by clear hc hf one agg; cases v with | agg cs => simp at hv | _ => rfl) (by simp [isAggT, hu])
  | int k => exact one (by clear hc hf one agg; cases v with | agg cs => simp at hv | _ => rfl) (by simp [isAggT, hu])
  | string => exact one (by clear hc hf one agg; cases v with | agg cs => simp at hv | _ => rfl) (by simp [isAggT, hu])
  | slice e => exact one (by clear hc hf one agg; cases v with | agg cs => simp at hv | _ => rfl) (by simp [isAggT, hu])
  | struct fs => exact agg (by obtain ⟨cs, h1, _⟩ := hv; exact ⟨cs, h1⟩) (by simp [isAggT, hu])
  | array k e => exact agg (by obtain ⟨cs, h1, _⟩ := hv; exact ⟨cs, h1⟩) (by simp [isAggT, hu])
  | _ => cases hok
theorem Z7z {n : Nat} {base : Nat} : ∀ {ts : List TypeId} {vs : List Value} {ds : List (DataW H)} {ps : List MemPlace}, ts.all (okT P n) = true → DataW.TrodAll enc P W 0 (fun _ => true) true ts vs ds ps →
  (∀ (j : Nat) t v, ts[j]? = some t → vs[j]? = some v → Value.okWide P W .any base t v) → (∀ k ∈ DataW.weightsEach P ts ds, k ≤ reachBytes) →
  ∃ xs, TXs P ts xs ∧ xs.length = vs.length ∧ ∀ (i : Nat) (x : AV) (v : Value), xs[i]? = some x → vs[i]? = some v → VR (baseC W) x v
 | [], vs, ds, ps, _, h, _, _ => by
  obtain ⟨rfl, rfl, rfl⟩ := trodAll_nil h
  exact ⟨[], .nil, rfl, by intro i x v h; simp at h⟩
 | t :: ts, vs, ds, ps, hok, h, hv, hw => by
  obtain ⟨v, vs', d, ds', p, q, rfl, rfl, rfl, h1, h2⟩ := trodAll_cons h
  simp only [List.all_cons, Bool.and_eq_true] at hok
  simp only [DataW.weightsEach, List.mem_append] at hw
  obtain ⟨xs, g1, g2, g3⟩ := Z7z (ts := ts) hok.2 h2 (fun j t v ht hx => hv (j + 1) t v (by simpa using ht) (by simpa using hx)) (fun k hk => hw k (.inr hk))
  have cons : ∀ x, VR (baseC W) x v → (x :: xs).length = (v :: vs').length ∧ ∀ (i : Nat) (y : AV) (u : Value), (x :: xs)[i]? = some y → (v :: vs')[i]? = some u → VR (baseC W) y u := by
   intro x hx
   refine ⟨by simp [g2], fun i y u hy hu => ?_⟩
   cases i with
   | zero => simp at hy hu; subst hy; subst hu; exact hx
   | succ i => exact g3 i y u (by simpa using hy) (by simpa using hu)
  rcases Ze5 hok.1 h1 (hv 0 t v rfl rfl) (fun k hk => hw k (.inl hk)) with ⟨hn, x, hx, ht⟩ | ⟨hn, cs, hx, ht⟩
  ·exact ⟨x :: xs, .one hn ht g1, cons x hx⟩
  ·exact ⟨.agg cs :: xs, .agg hn ht g1, cons _ hx⟩
theorem Z74 (hl : laidOutB P = true) {W' : World} (hb : Below W.heap.size W W') : ∀ {ts : List TypeId} {vs : List Value} {ds : List (DataW H)} {ps : List MemPlace}, (ts.all fun t => P.readableRec t && Nat.blt t P.types.size) = true →
  DataW.TrodAll enc P W 0 (fun _ => true) true ts vs ds ps → DataW.TrodAll enc P W' 0 (fun b => decide (b < W.heap.size)) true ts vs ds ps
 | [], vs, ds, ps, _, h => by
  obtain ⟨rfl, rfl, rfl⟩ := trodAll_nil h
  exact trodAll_mk0
 | t :: ts, vs, ds, ps, hok, h => by
  obtain ⟨v, vs', d, ds', p, q, rfl, rfl, rfl, h1, h2⟩ := trodAll_cons h
  simp only [List.all_cons, Bool.and_eq_true] at hok
  have hlt : t < P.types.size := Nat.blt_eq ▸ hok.1.2
  refine trodAll_cons_mk (Below.trod hl hok.1.1 hlt h1 hb ?_) (Z74 hl hb hok.2 h2)
  obtain ⟨m, hm⟩ := h1
  exact DataW.trod_lt m _ _ _ hm
theorem Zc3 {f : Nat} {xs : List AV} {args : Array Value} (hx : xs.length = args.toList.length) (hr : ∀ (i : Nat) (x : AV) (v : Value), xs[i]? = some x → args.toList[i]? = some v → VR (baseC W) x v)
  (hc : ACalls P f xs [] (fun e _ => e = .ret (.v (.bool true)))) : Calls P f args W fun e W' => e = .returned (.bool true) ∧ Below W.heap.size W W' := by
 refine (callsIn_wide (n := 0)).1 ?_
 refine (hc.run [] (baseC W) W args (Z9d W) ⟨by simpa using hx, fun i x v h1 h2 => hr i x v h1 (by simpa using h2)⟩).mono ?_
 rintro e W' ⟨C', H', x, rfl, hw', he, hx⟩
 cases e with
 | returned v =>
  cases hx
  refine ⟨rfl, he.os, he.tape, he.output, he.size, fun k hk => he.fr k hk ?_⟩
  rintro ⟨i, o, N, h, _⟩
  cases h
 | panicked ch => exact hx.elim
 | outgrown => exact hx.elim
end
theorem Z5s {H : Type} {enc : TypeId × Value → H} {P : Program} {W : World} : ∀ {ts : List TypeId} {vs : List Value} {ds : List (DataW H)} {ps : List MemPlace}, DataW.TrodAll enc P W 0 (fun _ => true) true ts vs ds ps → ds.length = ts.length
 | [], vs, ds, ps, h => by obtain ⟨_, rfl, _⟩ := trodAll_nil h; rfl
 | t :: ts, vs, ds, ps, h => by
  obtain ⟨v, vs', d, ds', p, q, rfl, rfl, rfl, h1, h2⟩ := trodAll_cons h
  simp [Z5s h2]
theorem law_post {H : Type} {enc : TypeId × Value → H} {P : Program} {f : Nat} {fn : Func} {s : ChangeSpec} {W : World} {base : Nat} {args : Array Value} {ds gs : List (DataW H)} {before : List MemPlace} {tb : TypeId}
  (n : Nat) (ts : List TypeId) (hts : fn.params.toList = ts) (hrt : fn.resultTypes = #[tb]) (hub : P.underlying tb = some .bool) (hvars : s.vars = [])
  (hl : laidOutB P = true) (hok : ts.all (okT P n) = true) (hrd : (ts.all fun t => P.readableRec t && Nat.blt t P.types.size) = true)
  (hs : ∀ ds : List (DataW H), ds.length = ts.length → (s.fn H ds).results = [.lit (.bool true)] ∧ (s.fn H ds).args = ds ∧ (s.fn H ds).vars = [])
  (hval : ∀ (j : Nat) t v, fn.params[j]? = some t → args[j]? = some v → Value.okWide P W .any base t v)
  (hW : DataW.Whole enc P fn.params.toList s.vars false W args.toList ds gs before)
  (hsz : (DataW.weightsEach P (fn.params.toList ++ s.plain.varTypes P) (ds ++ gs)).all (· ≤ reachBytes) = true)
  (contract : ∀ xs, TXs P ts xs → ACalls P f xs [] (fun e _ => e = .ret (.v (.bool true)))) :
  Calls P f args W fun e W' => ∃ v, e = .returned v ∧ s.post enc P fn false true false false W args v W' := by
 subst hts
 have hW' := hW
 obtain ⟨p, q, hA, hV, rfl, hfz, hnd⟩ := hW
 rw [hvars] at hV
 obtain ⟨rfl, rfl⟩ := trodVars_none hV
 have hvt : s.plain.varTypes P = [] := by
  have : s.plain.vars = [] := hvars
  simp [DataSpec.varTypes, this]
 rw [hvt, List.append_nil, List.append_nil] at hsz
 have hsz' : ∀ k ∈ DataW.weightsEach P fn.params.toList ds, k ≤ reachBytes := fun k hk => by
  simpa using List.all_eq_true.1 hsz k hk
 obtain ⟨xs, h1, h2, h3⟩ := Z7z (n := n) hok hA (fun j t v ht hv => hval j t v (by simpa using ht) (by simpa using hv)) hsz'
 refine (Zc3 h2 h3 (contract xs h1)).mono ?_
 rintro e W' ⟨rfl, bel⟩
 have hlen : ds.length = fn.params.toList.length := by
  exact Z5s hA
 obtain ⟨e1, e2, e3⟩ := hs ds hlen
 refine ⟨_, rfl, ds, [], _, [], p, [], hW', ?_, ?_, ?_⟩
 ·rw [hrt, List.append_nil, e1]
  exact trodAll_mk1 (shut_bool hub _)
 ·rw [List.append_nil, e2]
  exact Z74 hl bel hrd hA
 ·rw [List.append_nil, e3, hvars]
  exact ⟨rfl, bel.frame _, fun h => by cases h⟩
end Go.Sx
namespace Go.Proofs.YtmnbbhcdjgofeaaGreat
open Go.ChangeShapes Go.WideShapes Go.ChangeAt Go.RowKit Go.Sx
theorem own : ownKnob Tryz.prog.godebug = none := by kernel_rfl
theorem laidOut : laidOutB Tryz.prog = true := by kernel_rfl
theorem pMaps : mapsRowed Tryz.prog = true := by kernel_rfl
theorem pStops : (Tryz.prog.stops == []) = true := by kernel_rfl
theorem pKnobs : (Tryz.prog.stopKnobs == []) = true := by kernel_rfl
theorem pHeard : Tryz.prog.stopsHeard = true := by kernel_rfl
theorem pEnter : Tryz.prog.mayEnter = true := by kernel_rfl
theorem and2 {a b : Bool} (h : a = true) (k : b = true) : (a && b) = true := by rw [h, k]; rfl
end Go.Proofs.YtmnbbhcdjgofeaaGreat
