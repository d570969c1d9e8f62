/- Fixed calls: values that are written out, told as data. -/
import Derived.Test.YtkdnaiaacohfhaaSxScope
set_option linter.unusedVariables false
namespace Go.Sx
open Go
variable {P : Program} {ro : Option Nat} {Q : Exit → St → Prop} {s : St} {ops : Array Oper} {o : Oper} {rest : List Oper} {T : List (Nat × AV)}

/-- Whatever is seen so may be seen so, too. -/
def Sub (x y : AV) : Prop := ∀ C v, VR C x v → VR C y v
theorem Sub.refl (x : AV) : Sub x x := fun _ _ h => h
theorem Sub.z : Sub (.v (.slice none 0 0)) (.lst []) := fun C v h => by cases h; exact .lstNil
inductive Subs : List AV → List AV → Prop
  | nil : Subs [] []
  | keep {x : AV} {xs ys : List AV} (h : Subs xs ys) : Subs (x :: xs) (x :: ys)
  | z {xs ys : List AV} (h : Subs xs ys) : Subs (.v (.slice none 0 0) :: xs) (.lst [] :: ys)
  | to {x y : AV} {xs ys : List AV} (h0 : Sub x y) (h : Subs xs ys) : Subs (x :: xs) (y :: ys)
theorem Subs.len : ∀ {xs ys : List AV}, Subs xs ys → xs.length = ys.length
  | _, _, .nil => rfl
  | _, _, .keep h => by simp [h.len]
  | _, _, .z h => by simp [h.len]
  | _, _, .to _ h => by simp [h.len]
theorem Subs.get {C : Ctx} : ∀ {xs ys : List AV}, Subs xs ys → ∀ (i : Nat) (y : AV), ys[i]? = some y → ∃ x, xs[i]? = some x ∧ Sub x y
  | _, _, .nil, i, y, h => by simp at h
  | _, _, .keep h, 0, y, hy => by simp at hy; subst hy; exact ⟨_, rfl, .refl _⟩
  | _, _, .z h, 0, y, hy => by simp at hy; subst hy; exact ⟨_, rfl, .z⟩
  | _, _, .to h0 h, 0, y, hy => by simp at hy; subst hy; exact ⟨_, rfl, h0⟩
  | _, _, .keep h, i + 1, y, hy => by simpa using h.get (C := C) i y (by simpa using hy)
  | _, _, .z h, i + 1, y, hy => by simpa using h.get (C := C) i y (by simpa using hy)
  | _, _, .to _ h, i + 1, y, hy => by simpa using h.get (C := C) i y (by simpa using hy)
theorem Sub.agg {xs ys : List AV} (h : Subs xs ys) : Sub (.agg xs) (.agg ys) := fun C v hv => by
  cases hv with
  | agg _ vs hl hh =>
    refine .agg ys vs (h.len.symm.trans hl) fun i y x h1 h2 => ?_
    obtain ⟨z, h3, h4⟩ := h.get (C := C) i y h1
    exact h4 C x (hh i z x h3 h2)
theorem eff_sub {x y : AV} {Hn On : AHeap} (h : Eff P o T Hn x On) (hs : Sub x y) : Eff P o T Hn y On :=
  fun Z C H a w h1 h2 h3 h4 h5 h6 ro next R hk => h Z C H a w h1 h2 h3 h4 h5 h6 ro next R fun v w1 C1 hv => hk v w1 C1 (hs _ _ hv)
theorem eff_to {x y : AV} {Hn On : AHeap} (h : Eff P o T Hn x On) (hs : x = y) : Eff P o T Hn y On := hs ▸ h
theorem acalls_sub {f : Nat} {xs ys : List AV} {H : AHeap} {R : AEnd → AHeap → Prop} (hs : Subs xs ys) (h : ACalls P f ys H R) : ACalls P f xs H R :=
  ⟨h.ok, fun Z C w vs hw hv => h.run Z C w vs hw ⟨hs.len.symm.trans hv.1, fun i y v h1 h2 => by
    obtain ⟨z, h3, h4⟩ := hs.get (C := C) i y h1
    exact h4 C v (hv.2 i z v h3 h2)⟩⟩

/-- A new row that nobody writes any more is a list that stays. -/
theorem eff_frz {el sz len : Nat} {es : List (List AV)} (h : ∀ id, Eff P o T [] (.own id sz 0 len) [(id, .rows el sz es)]) (hl : len = es.length) : Eff P o T [] (.lst es) [] := by
  intro Z C H a w hw hn hv _ _ _ ro next R hk
  obtain ⟨id, hid⟩ := fresh (C.U ++ Z)
  rw [List.mem_append, not_or] at hid
  refine h id Z C H a w hw nofun hv (by intro p hp; simp at hp; subst hp; exact hid.1) (by simp) (fun z hz => by simp; rintro rfl; exact hid.2 hz) ro next R ?_
  intro v w1 C1 hx hw1 he1
  obtain ⟨b, ob, h1, h2, h3, h4, h5, h6⟩ := frz hw1
  refine hk v w1 _ (h6 v len hl hx) h4 (he1.trans ⟨h5, fun _ _ h => h, rfl, rfl, rfl, Nat.le_refl _, fun _ _ _ => rfl, ?_, ?_, ?_⟩)
  · intro x o hx
    simp only [Ctx.hpSet] at hx
    split at hx
    · rename_i e
      obtain ⟨_, N, hm⟩ := h2 x e
      exact .inr (.inr ⟨id, _, N, List.mem_cons_self, hm⟩)
    · exact .inl ⟨o, hx⟩
  · rintro x ⟨i, o, N, hi, hm⟩
    exact .inl ⟨i, o, N, List.mem_cons_of_mem _ hi, hm⟩
  · intro i o hi
    exact .inl ⟨o, List.mem_cons_of_mem _ hi⟩

/-! ### A region whose order is drawn, by a table of what waits for what -/
def bitOf (ms : List Nat) (i j : Nat) : Bool := Nat.testBit (ms.getD i 0) j
def okCert (ops : Array Oper) (ms : List Nat) : Bool := (List.range ops.size).all fun i => match ops[i]? with
  | some o => (List.range i).all fun j => !bitOf ms i j || o.after.any fun e => Region.binds .any e && (e.on == j || (Nat.blt j e.on && bitOf ms e.on j))
  | none => true
def okLooksM (ops : Array Oper) (ms : List Nat) (np : Nat) : Bool := (List.range np).all fun i => match ops[i]? with
  | some o => (o.looksAt ops).all fun t => (List.range np).all fun j => !((ops[j]?).bind (·.dst) == some t) || (Nat.blt j i && bitOf ms i j)
  | none => false
def okTailM (ops : Array Oper) (ms : List Nat) (np : Nat) : Bool := (List.range (ops.size - np)).all fun d => (List.range (np + d)).all fun i => bitOf ms (np + d) i
def tidyM (ops : Array Oper) (ms : List Nat) (np : Nat) : Bool := Nat.ble np ops.size && okEdges ops && okDst ops np && okCert ops ms && okLooksM ops ms np && okTailM ops ms np

theorem anc_mono {ops : Array Oper} : ∀ {f g i j : Nat}, f ≤ g → anc ops f i j = true → anc ops g i j = true
  | 0, _, _, _, _, h => by cases h
  | f + 1, 0, _, _, hl, _ => by omega
  | f + 1, g + 1, i, j, hl, h => by
    unfold anc at h ⊢
    cases ho : ops[i]? with
    | none => rw [ho] at h; cases h
    | some o =>
      rw [ho] at h
      simp only [Array.any_eq_true, Bool.and_eq_true, Bool.or_eq_true] at h ⊢
      obtain ⟨k, hk, hb, h1⟩ := h
      exact ⟨k, hk, hb, h1.imp id fun h2 => anc_mono (by omega) h2⟩

theorem cert_anc {ops : Array Oper} {ms : List Nat} (he : okEdges ops = true) (hc : okCert ops ms = true) : ∀ i, i < ops.size → ∀ j, j < i → bitOf ms i j = true → anc ops i i j = true := by
  intro i
  induction i using Nat.strongRecOn with
  | _ i ih =>
    intro hi j hj hb
    have h1 := List.all_eq_true.1 hc i (List.mem_range.2 hi)
    have h2 := List.all_eq_true.1 he i (List.mem_range.2 hi)
    rw [Array.getElem?_eq_getElem hi] at h1 h2
    simp only at h1 h2
    have h1 := List.all_eq_true.1 h1 j (List.mem_range.2 hj)
    rw [hb] at h1
    simp only [Bool.not_true, Bool.false_or, Array.any_eq_true, Bool.and_eq_true, Bool.or_eq_true] at h1
    obtain ⟨k, hk, hbn, h3⟩ := h1
    obtain ⟨i', rfl⟩ : ∃ i', i = i' + 1 := ⟨i - 1, by omega⟩
    have h4 : Nat.blt (ops[i' + 1].after[k]).on (i' + 1) = true := by
      have := Array.all_eq_true.1 h2 k hk
      exact this
    have h4 : (ops[i' + 1].after[k]).on < i' + 1 := Nat.blt_eq ▸ h4
    unfold anc
    rw [Array.getElem?_eq_getElem hi]
    simp only [Array.any_eq_true, Bool.and_eq_true, Bool.or_eq_true]
    refine ⟨k, hk, hbn, h3.imp id fun h5 => ?_⟩
    have h6 : j < (ops[i' + 1].after[k]).on := Nat.blt_eq ▸ h5.1
    exact anc_mono (by omega) (ih _ h4 (by omega) j h6 h5.2)

theorem tidy_of {ops : Array Oper} {ms : List Nat} {np : Nat} (h : tidyM ops ms np = true) : tidy ops np = true := by
  simp only [tidyM, Bool.and_eq_true] at h
  obtain ⟨⟨⟨⟨⟨h1, h2⟩, h3⟩, h4⟩, h5⟩, h6⟩ := h
  have hle : np ≤ ops.size := Nat.le_of_ble_eq_true h1
  simp only [tidy, Bool.and_eq_true]
  refine ⟨⟨⟨⟨h1, h2⟩, h3⟩, ?_⟩, ?_⟩
  · refine List.all_eq_true.2 fun i hi => ?_
    have h7 := List.all_eq_true.1 h5 i hi
    have hi' : i < ops.size := by have := List.mem_range.1 hi; omega
    rw [Array.getElem?_eq_getElem hi'] at h7 ⊢
    refine List.all_eq_true.2 fun t ht => List.all_eq_true.2 fun j hj => ?_
    have h8 := List.all_eq_true.1 (List.all_eq_true.1 h7 t ht) j hj
    simp only [Bool.or_eq_true, Bool.and_eq_true] at h8 ⊢
    exact h8.imp id fun h9 => ⟨h9.1, cert_anc h2 h4 i hi' j (Nat.blt_eq ▸ h9.1) h9.2⟩
  · refine List.all_eq_true.2 fun d hd => List.all_eq_true.2 fun i hi => ?_
    have h7 := List.all_eq_true.1 (List.all_eq_true.1 h6 d hd) i hi
    have hd' := List.mem_range.1 hd
    exact cert_anc h2 h4 (np + d) (by omega) i (List.mem_range.1 hi) h7

theorem awp_drawM {id : Nat} {l : List Oper} (ms : List Nat) (np : Nat) (hm : P.follows .mixedOrders = true) (ht : tidyM l.toArray ms (l.take np).length = true)
    (h : Calm P l.toArray s.H (AOps P ro l.toArray (l.drop np) Q) 0 (l.take np) [] s) : AWp P ro (.region id l.toArray true) Q s :=
  awp_drawN np hm (tidy_of ht) h
end Go.Sx
