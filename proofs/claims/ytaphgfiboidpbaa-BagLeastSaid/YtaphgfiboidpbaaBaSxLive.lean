/- Fixed calls: values that are written out, told as data. -/
import Derived.Test.YtaphgfiboidpbaaBaSxScope
import Derived.Test.YtaphgfiboidpbaaBaSxData
set_option linter.unusedVariables false
set_option linter.unusedSimpArgs false
namespace Go.Sx
open Go
variable {P : Program} {ro : Option Nat} {Q : Exit → St → Prop} {s : St} {ops : Array Oper} {o : Oper} {rest : List Oper} {T : List (Nat × AV)}

/-- Whatever is seen so may be seen so, too. -/
def Sub (x y : AV) : Prop := ∀ C v, VR C x v → VR C y v
theorem Sub.refl (x : AV) : Sub x x := fun _ _ h => h
theorem Sub.z : Sub (.v (.slice none 0 0)) (.lst []) := fun C v h => by cases h; exact .lstNil
inductive Subs : List AV → List AV → Prop
  | nil : Subs [] []
  | keep {x : AV} {xs ys : List AV} (h : Subs xs ys) : Subs (x :: xs) (x :: ys)
  | z {xs ys : List AV} (h : Subs xs ys) : Subs (.v (.slice none 0 0) :: xs) (.lst [] :: ys)
  | to {x y : AV} {xs ys : List AV} (h0 : Sub x y) (h : Subs xs ys) : Subs (x :: xs) (y :: ys)
theorem Subs.len : ∀ {xs ys : List AV}, Subs xs ys → xs.length = ys.length
  | _, _, .nil => rfl
  | _, _, .keep h => by simp [h.len]
  | _, _, .z h => by simp [h.len]
  | _, _, .to _ h => by simp [h.len]
theorem Subs.get {C : Ctx} : ∀ {xs ys : List AV}, Subs xs ys → ∀ (i : Nat) (y : AV), ys[i]? = some y → ∃ x, xs[i]? = some x ∧ Sub x y
  | _, _, .nil, i, y, h => by simp at h
  | _, _, .keep h, 0, y, hy => by simp at hy; subst hy; exact ⟨_, rfl, .refl _⟩
  | _, _, .z h, 0, y, hy => by simp at hy; subst hy; exact ⟨_, rfl, .z⟩
  | _, _, .to h0 h, 0, y, hy => by simp at hy; subst hy; exact ⟨_, rfl, h0⟩
  | _, _, .keep h, i + 1, y, hy => by simpa using h.get (C := C) i y (by simpa using hy)
  | _, _, .z h, i + 1, y, hy => by simpa using h.get (C := C) i y (by simpa using hy)
  | _, _, .to _ h, i + 1, y, hy => by simpa using h.get (C := C) i y (by simpa using hy)
theorem Sub.agg {xs ys : List AV} (h : Subs xs ys) : Sub (.agg xs) (.agg ys) := fun C v hv => by
  cases hv with
  | agg _ vs hl hh =>
    refine .agg ys vs (h.len.symm.trans hl) fun i y x h1 h2 => ?_
    obtain ⟨z, h3, h4⟩ := h.get (C := C) i y h1
    exact h4 C x (hh i z x h3 h2)
theorem eff_sub {x y : AV} {Hn On : AHeap} (h : Eff P o T Hn x On) (hs : Sub x y) : Eff P o T Hn y On :=
  fun Z C H a w h1 h2 h3 h4 h5 h6 ro next R hk => h Z C H a w h1 h2 h3 h4 h5 h6 ro next R fun v w1 C1 hv => hk v w1 C1 (hs _ _ hv)
theorem eff_to {x y : AV} {Hn On : AHeap} (h : Eff P o T Hn x On) (hs : x = y) : Eff P o T Hn y On := hs ▸ h
/-- A new row that nobody writes any more is a list that stays. -/
theorem eff_frz {el sz len : Nat} {es : List (List AV)} (h : ∀ id, Eff P o T [] (.own id sz 0 len) [(id, .rows el sz es)]) (hl : len = es.length) : Eff P o T [] (.lst es) [] := by
  intro Z C H a w hw hn hv _ _ _ ro next R hk
  obtain ⟨id, hid⟩ := fresh (C.U ++ Z)
  rw [List.mem_append, not_or] at hid
  refine h id Z C H a w hw nofun hv (by intro p hp; simp at hp; subst hp; exact hid.1) (by simp) (fun z hz => by simp; rintro rfl; exact hid.2 hz) ro next R ?_
  intro v w1 C1 hx hw1 he1
  obtain ⟨b, ob, h1, h2, h3, h4, h5, h6⟩ := frz hw1
  refine hk v w1 _ (h6 v len hl hx) h4 (he1.trans ⟨h5, fun _ _ h => h, rfl, rfl, rfl, Nat.le_refl _, fun _ _ _ => rfl, ?_, ?_, ?_⟩)
  · intro x o hx
    simp only [Ctx.hpSet] at hx
    split at hx
    · rename_i e
      obtain ⟨_, N, hm⟩ := h2 x e
      exact .inr (.inr ⟨id, _, N, List.mem_cons_self, hm⟩)
    · exact .inl ⟨o, hx⟩
  · rintro x ⟨i, o, N, hi, hm⟩
    exact .inl ⟨i, o, N, List.mem_cons_of_mem _ hi, hm⟩
  · intro i o hi
    exact .inl ⟨o, List.mem_cons_of_mem _ hi⟩

/-! ### A region whose order is drawn, by a table of what waits for what -/
def bitOf (ms : List Nat) (i j : Nat) : Bool := Nat.testBit (ms.getD i 0) j
def okCert (ops : Array Oper) (ms : List Nat) : Bool := (List.range ops.size).all fun i => match ops[i]? with
  | some o => (List.range i).all fun j => !bitOf ms i j || o.after.any fun e => Region.binds .any e && (e.on == j || (Nat.blt j e.on && bitOf ms e.on j))
  | none => true
def okLooksM (ops : Array Oper) (ms : List Nat) (np : Nat) : Bool := (List.range np).all fun i => match ops[i]? with
  | some o => (o.looksAt ops).all fun t => (List.range np).all fun j => !((ops[j]?).bind (·.dst) == some t) || (Nat.blt j i && bitOf ms i j)
  | none => false
def okTailM (ops : Array Oper) (ms : List Nat) (np : Nat) : Bool := (List.range (ops.size - np)).all fun d => (List.range (np + d)).all fun i => bitOf ms (np + d) i
def tidyM (ops : Array Oper) (ms : List Nat) (np : Nat) : Bool := Nat.ble np ops.size && okEdges ops && okDst ops np && okCert ops ms && okLooksM ops ms np && okTailM ops ms np

theorem anc_mono {ops : Array Oper} : ∀ {f g i j : Nat}, f ≤ g → anc ops f i j = true → anc ops g i j = true
  | 0, _, _, _, _, h => by cases h
  | f + 1, 0, _, _, hl, _ => by omega
  | f + 1, g + 1, i, j, hl, h => by
    unfold anc at h ⊢
    cases ho : ops[i]? with
    | none => rw [ho] at h; cases h
    | some o =>
      rw [ho] at h
      simp only [Array.any_eq_true, Bool.and_eq_true, Bool.or_eq_true] at h ⊢
      obtain ⟨k, hk, hb, h1⟩ := h
      exact ⟨k, hk, hb, h1.imp id fun h2 => anc_mono (by omega) h2⟩

theorem cert_anc {ops : Array Oper} {ms : List Nat} (he : okEdges ops = true) (hc : okCert ops ms = true) : ∀ i, i < ops.size → ∀ j, j < i → bitOf ms i j = true → anc ops i i j = true := by
  intro i
  induction i using Nat.strongRecOn with
  | _ i ih =>
    intro hi j hj hb
    have h1 := List.all_eq_true.1 hc i (List.mem_range.2 hi)
    have h2 := List.all_eq_true.1 he i (List.mem_range.2 hi)
    rw [Array.getElem?_eq_getElem hi] at h1 h2
    simp only at h1 h2
    have h1 := List.all_eq_true.1 h1 j (List.mem_range.2 hj)
    rw [hb] at h1
    simp only [Bool.not_true, Bool.false_or, Array.any_eq_true, Bool.and_eq_true, Bool.or_eq_true] at h1
    obtain ⟨k, hk, hbn, h3⟩ := h1
    obtain ⟨i', rfl⟩ : ∃ i', i = i' + 1 := ⟨i - 1, by omega⟩
    have h4 : Nat.blt (ops[i' + 1].after[k]).on (i' + 1) = true := by
      have := Array.all_eq_true.1 h2 k hk
      rw [hbn, Bool.not_true, Bool.false_or] at this
      exact this
    have h4 : (ops[i' + 1].after[k]).on < i' + 1 := Nat.blt_eq ▸ h4
    unfold anc
    rw [Array.getElem?_eq_getElem hi]
    simp only [Array.any_eq_true, Bool.and_eq_true, Bool.or_eq_true]
    refine ⟨k, hk, hbn, h3.imp id fun h5 => ?_⟩
    have h6 : j < (ops[i' + 1].after[k]).on := Nat.blt_eq ▸ h5.1
    exact anc_mono (by omega) (ih _ h4 (by omega) j h6 h5.2)

theorem tidy_of {ops : Array Oper} {ms : List Nat} {np : Nat} (h : tidyM ops ms np = true) : tidy ops np = true := by
  simp only [tidyM, Bool.and_eq_true] at h
  obtain ⟨⟨⟨⟨⟨h1, h2⟩, h3⟩, h4⟩, h5⟩, h6⟩ := h
  have hle : np ≤ ops.size := Nat.le_of_ble_eq_true h1
  simp only [tidy, Bool.and_eq_true]
  refine ⟨⟨⟨⟨h1, h2⟩, h3⟩, ?_⟩, ?_⟩
  · refine List.all_eq_true.2 fun i hi => ?_
    have h7 := List.all_eq_true.1 h5 i hi
    have hi' : i < ops.size := by have := List.mem_range.1 hi; omega
    rw [Array.getElem?_eq_getElem hi'] at h7 ⊢
    refine List.all_eq_true.2 fun t ht => List.all_eq_true.2 fun j hj => ?_
    have h8 := List.all_eq_true.1 (List.all_eq_true.1 h7 t ht) j hj
    simp only [Bool.or_eq_true, Bool.and_eq_true] at h8 ⊢
    exact h8.imp id fun h9 => ⟨h9.1, cert_anc h2 h4 i hi' j (Nat.blt_eq ▸ h9.1) h9.2⟩
  · refine List.all_eq_true.2 fun d hd => List.all_eq_true.2 fun i hi => ?_
    have h7 := List.all_eq_true.1 (List.all_eq_true.1 h6 d hd) i hi
    have hd' := List.mem_range.1 hd
    exact cert_anc h2 h4 (np + d) (by omega) i (List.mem_range.1 hi) h7

theorem awp_drawM {id : Nat} {l : List Oper} (ms : List Nat) (np : Nat) (hm : P.follows .mixedOrders = true) (ht : tidyM l.toArray ms (l.take np).length = true)
    (h : Calm P l.toArray s.H (AOps P ro l.toArray (l.drop np) Q) 0 (l.take np) [] s) : AWp P ro (.region id l.toArray true) Q s :=
  awp_drawN np hm (tidy_of ht) h

/-! ### Parts of texts -/
/-! ### A call that gives some value -/
def GSome {α : Type} (f : α → AV) (φ : α → Prop) : AEnd → AHeap → Prop := fun e H => ∃ a, φ a ∧ e = .ret (f a) ∧ H = []
theorem aops_callS {fo : Operand} {args : Array Operand} {ats : Array TypeId} {g : Nat} {caps xs : List AV} {α : Type} {f : α → AV} {φ : α → Prop} (hw : Wanted ops s.T o true) (hd : dok o.dst s.n = true)
    (ho : o.op = .call { callee := .value fo, args := args, argTypes := ats }) (hfo : ev s.T fo = some (.fn (.func g) caps)) (hxs : evs s.T args.toList = some xs) (hc : ACalls P g (xs ++ caps) [] (GSome f φ))
    (h : ∀ a, φ a → AOps P ro ops rest Q { s with T := put s.T o.dst (f a) }) : AOps P ro ops (o :: rest) Q s :=
  aops_callR hw hd ho hfo hxs hc (fun ch H' hR => by obtain ⟨_, _, h, _⟩ := hR; cases h) (fun x H' hR => by obtain ⟨a, h1, h2, rfl⟩ := hR; cases h2; exact h a h1)
abbrev SomeB : AEnd → AHeap → Prop := GSome bA (fun _ => True)
abbrev SomeI : AEnd → AHeap → Prop := GSome iA (fun _ => True)
abbrev SomeS : AEnd → AHeap → Prop := GSome sA (fun _ => True)
theorem gsome {α : Type} {f : α → AV} {φ : α → Prop} {xs : List AV} (a : α) (h : φ a) (hx : mkRes xs = f a) : GSome f φ (.ret (mkRes xs)) [] := ⟨a, h, congrArg _ hx, rfl⟩
/-! ### A text's byte -/
def byteAt (u : ByteArray) (k : Int) : Int := match u[k.toNat]? with | some c => c.toNat | none => 0
theorem eff_sidx {t : Nat} {p q : Operand} {u : ByteArray} {kd : IntKind} {k : Int} [h : UD P t .string] (ho : o.op = .index t p q)
    (hp : ev T p = some (.v (.string u))) (hq : ev T q = some (.v (.int kd k))) (h0 : 0 ≤ k) (h1 : k < u.size) : Eff P o T [] (.v (.int .u8 (byteAt u k))) [] := by
  have hl : k.toNat < u.size := by omega
  have e : u[k.toNat]? = some u[k.toNat] := getElem?_pos u k.toNat hl
  have := eff_index_str (P := P) (T := T) ho hp hq h0 e
  unfold byteAt; rw [e]; exact this

/-! ### A slot's value under a name of its own -/
theorem weak_put {t : Nat} {x : AV} (ht : lk s.T t = some x) : Weak s { s with T := (t, x) :: s.T } := fun Z C a w hs =>
  ⟨C, ⟨hs.wr, fun t' y hy => by
    simp only [lk] at hy
    cases hb : Nat.beq t t' with
    | true => simp only [hb, cond_true] at hy; have e := Nat.eq_of_beq_eq_true hb; subst e; exact hs.sl t y (ht.trans hy)
    | false => simp only [hb, cond_false] at hy; exact hs.sl t' y hy, hs.df, hs.du, hs.sz⟩, .refl ..⟩
theorem awp_genB {c : Code} {b : Bool} (t : Nat) (ht : lk s.T t = some (.v (.bool b))) (h : ∀ d, d = b → AWp P ro c Q { s with T := (t, .v (.bool d)) :: s.T }) : AWp P ro c Q s := awp_weak (weak_put ht) (h b rfl)
theorem awp_genI {c : Code} {k : IntKind} {b : Int} (t : Nat) (ht : lk s.T t = some (.v (.int k b))) (h : ∀ d, d = b → AWp P ro c Q { s with T := (t, .v (.int k d)) :: s.T }) : AWp P ro c Q s := awp_weak (weak_put ht) (h b rfl)
/-! ### A text put into a row of texts -/
theorem own_get {l : List ByteArray} {i : Nat} (h : i < l.length) : (l.map fun x => [AV.v (.string x)])[i]? = some [.v (.string (l.getD i default))] := by simp [h, List.getD]
theorem aops_storeS {t n id el i : Nat} {b : Bool} {p q : Operand} {l : List ByteArray} {x : ByteArray} (k : Nat) [kt : TK P t b n] (hn1 : n = 1) (hw : Wanted ops s.T o true) (hd : dok o.dst s.n = true)
    (ho : o.op = .store t p q) (hp : ev s.T p = some (.ptr id 1 i 0)) (hH : s.H[k]? = some (id, .rows el 1 (l.map fun x => [AV.v (.string x)]))) (hi : i < l.length) (hq : ev s.T q = some (.v (.string x)))
    (h : AOps P ro ops rest Q { s with T := put s.T o.dst (.v undef), H := s.H.set k (id, .rows el 1 ((l.set i x).map fun x => [AV.v (.string x)])) }) : AOps P ro ops (o :: rest) Q s := by
  subst hn1
  refine aops_store k hw hd ho hp hH (own_get hi) hq rfl rfl rfl ?_
  have e : (l.map fun x => [AV.v (.string x)]).set i ([AV.v (.string (l.getD i default))].take 0 ++ cellsA (.v (.string x)) ++ [AV.v (.string (l.getD i default))].drop (0 + (cellsA (.v (.string x))).length)) = (l.set i x).map fun x => [AV.v (.string x)] := by
    rw [List.map_set]; rfl
  rw [e]; exact h

theorem eff_rem {t t' : TypeId} {p q : Operand} {k : IntKind} {x y : Int} (ho : o.op = .binOp .rem t p q t') (hp : ev T p = some (.v (.int k x))) (hq : ev T q = some (.v (.int k y))) (hy : y ≠ 0) : Eff P o T [] (.v (.int k (x.tmod y))) [] :=
  eff_val (by intro c; rw [ho]; nofun) fun C H a w hw hn hv => by
    have h2 := VR.val (hv p (by rw [ho]; simp [Op.operands]) _ hp)
    have h3 := VR.val (hv q (by rw [ho]; simp [Op.operands]) _ hq)
    refine ⟨_, ?_, .v _⟩
    simp [execOp, ho, h2, h3, eqGuard, binOp, Op.intDiv, hy, Sem.run_bind, Result.andThen]
theorem ld_to {t : TypeId} {r : List AV} {x y : AV} (h : Ld P t r x) (e : x = y) : Ld P t r y := e ▸ h

/-! ### A call that is handed things and hands them back changed -/
def GP {β : Type} (f : β → AV) (Hb : β → AHeap) (φ : β → Prop) : AEnd → AHeap → Prop := fun e H => ∃ b, φ b ∧ e = .ret (f b) ∧ H = Hb b
theorem perm_get2 {H : AHeap} {k j : Nat} {p q : Nat × AObj} (h : H[k]? = some p) (h2 : (H.eraseIdx k)[j]? = some q) : H.Perm ([p, q] ++ (H.eraseIdx k).eraseIdx j) := (perm_get h).trans ((perm_get h2).cons p)
theorem aops_callP {fo : Operand} {args : Array Operand} {ats : Array TypeId} {g : Nat} {caps xs : List AV} {β : Type} {f : β → AV} {Hb : β → AHeap} {φ : β → Prop} (Hf Fr : AHeap) (hw : Wanted ops s.T o true) (hd : dok o.dst s.n = true)
    (ho : o.op = .call { callee := .value fo, args := args, argTypes := ats }) (hfo : ev s.T fo = some (.fn (.func g) caps)) (hxs : evs s.T args.toList = some xs) (hp : s.H.Perm (Hf ++ Fr)) (hc : ACalls P g (xs ++ caps) Hf (GP f Hb φ))
    (h : ∀ b, φ b → AOps P ro ops rest Q { s with T := put s.T o.dst (f b), H := Hb b ++ Fr }) : AOps P ro ops (o :: rest) Q s :=
  aops_callA Hf Fr hw hd ho hfo hxs hp hc (fun ch H' hR => by obtain ⟨_, _, h, _⟩ := hR; cases h) (fun x H' hR => by obtain ⟨b, h1, h2, rfl⟩ := hR; cases h2; exact h b h1)
theorem gp {β : Type} {f : β → AV} {Hb : β → AHeap} {φ : β → Prop} {xs : List AV} {H : AHeap} (b : β) (h : φ b) (hx : mkRes xs = f b) (hH : H = Hb b) : GP f Hb φ (.ret (mkRes xs)) H := ⟨b, h, congrArg _ hx, hH⟩
theorem arith_mul {x y : Int} (h : -9223372036854775808 ≤ x * y ∧ x * y ≤ 9223372036854775807) : arith .mul .i64 x y = some (x * y) := by simp [arith, i64_wrap h]
theorem eff_quo {t t' : TypeId} {p q : Operand} {x y : Int} (ho : o.op = .binOp .quo t p q t') (hp : ev T p = some (.v (.int .i64 x))) (hq : ev T q = some (.v (.int .i64 y))) (hy : y ≠ 0) (hr : -9223372036854775808 ≤ x.tdiv y ∧ x.tdiv y ≤ 9223372036854775807) : Eff P o T [] (.v (.int .i64 (x.tdiv y))) [] :=
  eff_val (by intro c; rw [ho]; nofun) fun C H a w hw hn hv => by
    have h2 := VR.val (hv p (by rw [ho]; simp [Op.operands]) _ hp)
    have h3 := VR.val (hv q (by rw [ho]; simp [Op.operands]) _ hq)
    refine ⟨_, ?_, .v _⟩
    simp [execOp, ho, h2, h3, eqGuard, binOp, Op.intDiv, hy, i64_wrap hr, Sem.run_bind, Result.andThen]

theorem awp_eqI {c : Code} {k : IntKind} {b d : Int} (t : Nat) (ht : lk s.T t = some (.v (.int k b))) (e : b = d) (h : AWp P ro c Q { s with T := (t, .v (.int k d)) :: s.T }) : AWp P ro c Q s := by subst e; exact awp_weak (weak_put ht) h
theorem tdiv2 {a b : Nat} (h : a ≤ b) : (((b - a : Nat) : Int) - 1).tdiv 2 = (((b - a - 1) / 2 : Nat) : Int) := by
  cases e : b - a with
  | zero => decide
  | succ k =>
    rw [show ((k + 1 : Nat) : Int) - 1 = (k : Int) from by omega, show k + 1 - 1 = k from by omega]
    exact (Int.ofNat_tdiv k 2).symm

/-! ### Numbers, bit by bit -/
theorem tdivN (a b : Nat) : ((a : Int)).tdiv b = ((a / b : Nat) : Int) := (Int.ofNat_tdiv a b).symm
theorem tdivN_ok (a b : Nat) (h : a ≤ 9223372036854775807) : -9223372036854775808 ≤ ((a : Int)).tdiv b ∧ ((a : Int)).tdiv b ≤ 9223372036854775807 := by
  rw [tdivN]
  have := Nat.div_le_self a b
  generalize a / b = c at *
  omega
def bitsI (op : BinOp) (k : IntKind) (x y : Int) : Int := match op with
  | .and => k.wrap (BitVec.ofInt k.bits x &&& BitVec.ofInt k.bits y).toNat
  | .or => k.wrap (BitVec.ofInt k.bits x ||| BitVec.ofInt k.bits y).toNat
  | .xor => k.wrap (BitVec.ofInt k.bits x ^^^ BitVec.ofInt k.bits y).toNat
  | _ => k.wrap (BitVec.ofInt k.bits x &&& ~~~BitVec.ofInt k.bits y).toNat
theorem eff_bits {b : BinOp} {t t' : TypeId} {p q : Operand} {k : IntKind} {x y : Int} (ho : o.op = .binOp b t p q t') (hb : b = .and ∨ b = .or ∨ b = .xor) (hp : ev T p = some (.v (.int k x))) (hq : ev T q = some (.v (.int k y))) : Eff P o T [] (.v (.int k (bitsI b k x y))) [] :=
  eff_val (by intro c; rw [ho]; nofun) fun C H a w hw hn hv => by
    have h2 := VR.val (hv p (by rw [ho]; simp [Op.operands]) _ hp)
    have h3 := VR.val (hv q (by rw [ho]; simp [Op.operands]) _ hq)
    refine ⟨_, ?_, .v _⟩
    rcases hb with rfl | rfl | rfl <;> simp [execOp, ho, h2, h3, eqGuard, binOp, Op.intBits, bitsI, Sem.run_bind, Result.andThen]
theorem eff_shl {t t' : TypeId} {p q : Operand} {k k' : IntKind} {x y : Int} (ho : o.op = .binOp .shl t p q t') (hp : ev T p = some (.v (.int k x))) (hq : ev T q = some (.v (.int k' y))) (hy : 0 ≤ y) : Eff P o T [] (.v (.int k (k.wrap (x * 2 ^ (min y.toNat k.bits))))) [] :=
  eff_val (by intro c; rw [ho]; nofun) fun C H a w hw hn hv => by
    have h2 := VR.val (hv p (by rw [ho]; simp [Op.operands]) _ hp)
    have h3 := VR.val (hv q (by rw [ho]; simp [Op.operands]) _ hq)
    refine ⟨_, ?_, .v _⟩
    have : ¬ y < 0 := by omega
    simp [execOp, ho, h2, h3, eqGuard, binOp, Op.shift, this, Sem.run_bind, Result.andThen]
theorem eff_shr {t t' : TypeId} {p q : Operand} {k k' : IntKind} {x y : Int} (ho : o.op = .binOp .shr t p q t') (hp : ev T p = some (.v (.int k x))) (hq : ev T q = some (.v (.int k' y))) (hy : 0 ≤ y) : Eff P o T [] (.v (.int k (x.fdiv (2 ^ (min y.toNat k.bits))))) [] :=
  eff_val (by intro c; rw [ho]; nofun) fun C H a w hw hn hv => by
    have h2 := VR.val (hv p (by rw [ho]; simp [Op.operands]) _ hp)
    have h3 := VR.val (hv q (by rw [ho]; simp [Op.operands]) _ hq)
    refine ⟨_, ?_, .v _⟩
    have : ¬ y < 0 := by omega
    simp [execOp, ho, h2, h3, eqGuard, binOp, Op.shift, this, Sem.run_bind, Result.andThen]

/-- The first ones of a list that stays. -/
theorem eff_sliceTo_lst {t e n : Nat} {b : Bool} {p q : Operand} {es : List (List AV)} {kd : IntKind} {k : Int} [h : UD P t (.slice e)] [k1 : TK P e b n] (ho : o.op = .slice t p none (some q) none)
    (hp : ev T p = some (.lst es)) (hq : ev T q = some (.v (.int kd k))) (h0 : 0 ≤ k) (h1 : k ≤ es.length) : Eff P o T [] (.lst (es.take k.toNat)) [] :=
  eff_val (by intro c; rw [ho]; nofun) fun C H a w hw hn hv => by
    have h2 := hv p (by rw [ho]; simp [Op.operands]) _ hp
    have h3 := VR.val (hv q (by rw [ho]; simp [Op.operands]) _ hq)
    generalize hpv : a.eval p = u at h2
    cases h2 with
    | lstNil =>
      have hk : k = 0 := by simp at h1; omega
      subst hk
      refine ⟨.slice none 0 0, ?_, by simpa using VR.lstNil⟩
      have hb : ∀ code, (Instr.sliceBound (.int kd 0) 0 code).run P w = .ok 0 w := fun code => run_bound rfl (by omega) (by omega) w
      simp [execOp, ho, hpv, h3, Instr.sliceAt, Instr.slice, Instr.sliceBounds, run_underlying (d := .slice e), run_sizeOf k1.tk, hb, Sem.run_bind, Result.andThen, Sem.run_pure]
    | lst _ ad sz cap cells elem fz xs hs hb hz hc hvv ho' hcap =>
      have hkc : k ≤ (cap : Int) := by omega
      refine ⟨.slice (some ad) k.toNat cap, ?_, ?_⟩
      · have e0 : ad.add 0 = ad := by simp [Addr.add]
        simp [execOp, ho, hpv, h3, Instr.sliceAt, Instr.slice, Instr.sliceBounds, run_underlying (d := .slice e), run_sizeOf k1.tk, run_bound rfl h0 hkc, Sem.run_bind, Result.andThen, Sem.run_pure, e0]
      · have hl : (es.take k.toNat).length = k.toNat := by rw [List.length_take]; omega
        have hne : es.take k.toNat ≠ [] → es ≠ [] := fun h e => h (by rw [e]; simp)
        have hget : ∀ (i : Nat) (e : List AV), (es.take k.toNat)[i]? = some e → es[i]? = some e := fun i e h => by
          rw [List.getElem?_take] at h; split at h <;> simp_all
        have hfin := VR.lst (C := C) (es.take k.toNat) ad sz cap cells elem fz xs (fun h => hs (hne h)) (fun h => hb (hne h)) (fun e he => hz e (List.mem_of_mem_take he)) (fun i e j c h1 h2 => hc i e j c (hget i e h1) h2)
          (fun i e j c h1 h2 => hvv i e j c (hget i e h1) h2) (fun i e j c h1 h2 => ho' i e j c (hget i e h1) h2) (by omega)
        rw [hl] at hfin
        exact hfin
end Go.Sx
