/- YtmnbbhcdjgofeaaGreatRaB4: texts of this claim, one behind the other. -/
import Derived.RecoverIn
import Derived.LoopNIn
import Derived.Laws.BytesString
import Derived.Laws.Cells
import Derived.Test.YtmnbbhcdjgofeaaGreatRaB3
set_option linter.unusedVariables false
set_option linter.unusedSimpArgs false
set_option linter.unusedSectionVars false
set_option linter.unnecessarySimpa false
namespace Go.Sx
open Go
def evSl (H : Hp) (sz : Nat) : AV → Option (List (List AV))
 | .lst es => bif es.all (fun e => Nat.beq e.length sz) then some es else none
 | .own id sz' off len => match H.get id with
  | some (.rows _ sz'' es) => if sz' = sz ∧ sz'' = sz ∧ off + len ≤ es.length then some ((es.drop off).take len) else none
  | _ => none
 | .v (.slice none 0 0) => some []
 | _ => none
theorem Z5c {H : Hp} {Hl : AHeap} {sz : Nat} {y : AV} {ys : List (List AV)} (h : evSl H sz y = some ys) (hs : SubH H Hl) : SlA Hl sz y ys := by
 unfold evSl at h
 split at h
 ·rename_i es
  cases hb : es.all (fun e => Nat.beq e.length sz) with
  | false => rw [hb] at h; cases h
  | true => rw [hb] at h; cases h; exact ⟨rfl, fun e he => Nat.eq_of_beq_eq_true (List.all_eq_true.1 hb e he)⟩
 ·rename_i id sz' off len
  split at h
  ·rename_i el sz'' es hg
   split at h
   ·rename_i hc
    obtain ⟨rfl, rfl, h1⟩ := hc
    cases h
    exact ⟨rfl, el, es, hs _ _ hg, h1, rfl⟩
   ·cases h
  ·cases h
 ·cases h; rfl
 ·cases h
section
variable {P : Program} {o : Oper} {e : ES}
theorem Z95 {id el sz m : Nat} {es : List (List AV)} {x : AV} {H' : Hp} {k' : Nat} (hg0 : e.H.own id = some (.rows el sz es)) (h : OpOk P o { e with H := e.H.put id (some (.rows el sz (es.take m))) } x H' k') : OpOk P o e x H' k' := by
 obtain ⟨hfree, hg⟩ := Hp.own_spec hg0
 refine ⟨h.1, ?_⟩
 intro C Hl n a w hs ro next R hc
 obtain ⟨j, hj⟩ := Z1k (hs.hs id _ hg)
 obtain ⟨C', h1, h2⟩ := Z5u (s := ⟨e.T.ls, Hl, e.D, n⟩) (m := m) j hj (Zx e.k e.k) C a w hs.sr
 refine h.2 C' _ n a w ⟨h1, hs.hs.put hfree (Z1n hj) ?_, (h2.ex (Nat.le_refl _)).fr hs.fr⟩ ro next R ?_
 ·intro i o' hne hm
  obtain ⟨m', hm⟩ := Z1k hm
  exact Z1b hm (Z3b hs.sr.wr hj hm hne)
 ·intro v w1 C1 Hl1 a1 a2 a3 a4 a5
  exact hc v w1 C1 Hl1 a1 a2 a3 a4 ((h2.ex (Nat.le_refl _)).trans a5)
theorem Z8s {T : List (Nat × AV)} {t el size bytes id : Nat} {p q : Operand} {y : AV} {xs ys : List (List AV)} {Hl : AHeap} (id' j : Nat) [hu : UD P t (.slice el)] [ha : AP P el size bytes]
  (ho : o.op = .call { callee := .builtin .append, args := #[p, q], argTypes := #[t, t] }) (hp : ev T p = some (.own id size 0 xs.length)) (hH : Hl[j]? = some (id, .rows el size xs)) (hq : ev T q = some y) (hy : SlA Hl size y ys)
  (hml : (xs.length + ys.length) * bytes ≤ 140737488355328) (hm : xs.length + ys.length ≤ maxLen) : EffA P o T Hl (.own id' size 0 (xs.length + ys.length)) (Hl.set j (id', .rows el size (xs ++ ys))) id' := by
 intro Z C a w hs hops hid hidz ro next R hnext
 have hmp : p ∈ o.op.operands := by rw [ho]; simp [Op.operands, Call.operands]
 have hmq : q ∈ o.op.operands := by rw [ho]; simp [Op.operands, Call.operands]
 obtain ⟨v', w', C', h1, h2, h3, h4⟩ := Z46 (P := P) (ty := o.type) (t := t) hs hH (hops p hmp _ hp) (hops q hmq _ hq) hy hml hm hid hidz
 have hr : (o.semAt ro a.eval).run P w = .ok (.value v') w' := by
  rw [Oper.semAt_eq _ _ _ (by intro c; rw [ho]; nofun)]
  simp [execOp, ho, resolve, invoke, builtin, h1, Result.andThen, Sem.run_bind]
 rw [hr]
 exact hnext v' w' C' h2 h3 h4
theorem Z7g {T : List (Nat × AV)} {t tx el bytes id : Nat} {p q : Operand} {x : ByteArray} {xs : List (List AV)} {Hl : AHeap} (id' j : Nat) [hu : UD P t (.slice el)] [hux : UD P tx .string] [ha : AP P el 1 bytes]
  (ho : o.op = .call { callee := .builtin .append, args := #[p, q], argTypes := #[t, tx] }) (hp : ev T p = some (.own id 1 0 xs.length)) (hH : Hl[j]? = some (id, .rows el 1 xs)) (hq : ev T q = some (.v (.string x)))
  (hml : (xs.length + x.size) * bytes ≤ 140737488355328) (hm : xs.length + x.size ≤ maxLen) : EffA P o T Hl (.own id' 1 0 (xs.length + x.size)) (Hl.set j (id', .rows el 1 (xs ++ byteRows x))) id' := by
 intro Z C a w hs hops hid hidz ro next R hnext
 have hmp : p ∈ o.op.operands := by rw [ho]; simp [Op.operands, Call.operands]
 have hmq : q ∈ o.op.operands := by rw [ho]; simp [Op.operands, Call.operands]
 have hqv := VR.val (hops q hmq _ hq)
 obtain ⟨v', w', C', h1, h2, h3, h4⟩ := Z4t (P := P) (ty := o.type) (t := t) (tx := tx) (x := x) hs hH (hops p hmp _ hp) hml hm hid hidz
 have hr : (o.semAt ro a.eval).run P w = .ok (.value v') w' := by
  rw [Oper.semAt_eq _ _ _ (by intro c; rw [ho]; nofun)]
  simp [execOp, ho, resolve, invoke, builtin, hqv, h1, Result.andThen, Sem.run_bind]
 rw [hr]
 exact hnext v' w' C' h2 h3 h4
theorem Za0 (id el sz : Nat) {Z : List Nat} {C : Ctx} {H : AHeap} {w : World} (hw : WR C H w) (hid' : id ∉ C.U) (hZ : id ∉ Z) :
  WR (C.bindO id none) ((id, .rows el sz []) :: H) w ∧ Ext Z C H w (C.bindO id none) ((id, .rows el sz []) :: H) w := by
 have hle := Ctx.le_bindO (x := none) hid'
 have hother : ∀ i o, (i, o) ∈ H → i ≠ id := by rintro i o hi rfl; exact hid' (hw.ids i o hi).1
 have hm : ∀ i, i ≠ id → (C.bindO id none).m i = C.m i := fun i hi => if_neg hi
 have hblk : ∀ b, blk (C.bindO id none) ((id, .rows el sz []) :: H) b → blk C H b := by
  rintro b ⟨i, o, N, hi, hmi⟩
  rcases List.mem_cons.1 hi with h2 | h2
  ·cases h2; rw [Ctx.bindO_m] at hmi; cases hmi
  ·rw [hm i (hother i o h2)] at hmi; exact ⟨i, o, N, h2, hmi⟩
 refine ⟨⟨hw.hp, ?_, ?_, ?_, fun b hb => hw.dis b (hblk b hb)⟩, ⟨hle, ?_, rfl, rfl, rfl, Nat.le_refl _, fun _ _ _ => rfl, fun _ o h => .inl ⟨o, h⟩, fun b hb => .inl (hblk b hb), ?_⟩⟩
 ·simp only [List.map_cons, List.nodup_cons]
  refine ⟨fun hmem => ?_, hw.nd⟩
  obtain ⟨⟨i, o⟩, hi, he⟩ := List.mem_map.1 hmem
  exact hother i o hi he
 ·intro i o hi
  rcases List.mem_cons.1 hi with h2 | h2
  ·cases h2; exact ⟨List.mem_cons_self, nofun, .inl ⟨Ctx.bindO_m .., rfl⟩⟩
  ·obtain ⟨h3, h4⟩ := hw.ids i o h2
   exact ⟨hle.U i h3, h4.keep hle h3 (fun _ _ _ => rfl)⟩
 ·intro i j o o' b N N' hi hj h2 h3
  rcases List.mem_cons.1 hi with h4 | h4
  ·cases h4; rw [Ctx.bindO_m] at h2; cases h2
  ·rcases List.mem_cons.1 hj with h5 | h5
   ·cases h5; rw [Ctx.bindO_m] at h3; cases h3
   ·rw [hm i (hother i o h4)] at h2; rw [hm j (hother j o' h5)] at h3
    exact hw.inj i j o o' b N N' h4 h5 h2 h3
 ·intro z hz hzu hmem
  rcases List.mem_cons.1 hmem with h2 | h2
  ·exact hZ (h2 ▸ hz)
  ·exact hzu h2
 ·intro i o hi
  rcases List.mem_cons.1 hi with h2 | h2
  ·cases h2; exact .inr hid'
  ·exact .inl ⟨o, h2⟩
theorem SlA.more {H H' : AHeap} {sz : Nat} {y : AV} {ys : List (List AV)} (h : SlA H sz y ys) (hs : ∀ p, p ∈ H → p ∈ H') : SlA H' sz y ys := by
 unfold SlA at h ⊢
 split at h
 ·exact h
 ·obtain ⟨h1, el, es, h2, h3⟩ := h; exact ⟨h1, el, es, hs _ h2, h3⟩
 ·exact h
 ·exact h.elim
theorem Zcl {t el size bytes : Nat} {p q : Operand} {y : AV} {ys : List (List AV)} [hu : UD P t (.slice el)] [ha : AP P el size bytes] (hk : Nat.blt (e.k + 1) MM = true)
  (ho : o.op = .call { callee := .builtin .append, args := #[p, q], argTypes := #[t, t] }) (hp : evT e.T p = some (.v (.slice none 0 0))) (hq : evT e.T q = some y) (hy : evSl e.H size y = some ys)
  (hml : ys.length * bytes ≤ 140737488355328) (hm : ys.length ≤ maxLen) : OpOk P o e (.own (e.k + 1) size 0 ys.length) (e.H.put (e.k + 1) (some (.rows el size ys))) (e.k + 2) := by
 refine ⟨rfl, ?_⟩
 intro C Hl n a w hs ro next R hc
 have hk : e.k + 1 < MM := by rwa [Nat.blt_eq] at hk
 have f0 := hs.fr e.k (Nat.le_refl _) (by omega)
 have hZ : ∀ j, e.k ≤ j → j < e.k + 2 → j ∉ Zx e.k (e.k + 2) := fun j hj0 hj h => by have := (mem_Zx.1 h).2; omega
 obtain ⟨w1, x1⟩ := Za0 (Z := Zx e.k (e.k + 2)) e.k el size hs.sr.wr f0 (hZ _ (by omega) (by omega))
 have f1 : e.k + 1 ∉ (C.bindO e.k none).U := by
  intro h
  rcases List.mem_cons.1 h with h | h
  ·omega
  ·exact hs.fr (e.k + 1) (by omega) hk h
 have hmp : p ∈ o.op.operands := by rw [ho]; simp [Op.operands, Call.operands]
 have hmq : q ∈ o.op.operands := by rw [ho]; simp [Op.operands, Call.operands]
 have vp := VR.val (hs.sr.ev (by rw [Z0f]; exact hp))
 have vq := (hs.sr.ev (show ev e.T.ls q = some y by rw [Z0f]; exact hq)).mono x1.le
 have hown : VR (C.bindO e.k none) (.own e.k size 0 ([] : List (List AV)).length) (.slice none 0 0) := .ownNil e.k size (Ctx.bindO_m ..) List.mem_cons_self
 obtain ⟨v', w', C', h1, h2, h3, h4⟩ := Z46 (P := P) (ty := o.type) (t := t) (k := 0) (xs := []) w1 rfl hown vq ((Z5c hy hs.hs).more fun _ h => List.mem_cons_of_mem _ h) (by simpa using hml) (by simpa using hm) f1 (hZ _ (by omega) (by omega))
 simp only [List.length_nil, Nat.zero_add, List.nil_append, List.set_cons_zero] at h2 h3 h4
 have hr : (o.semAt ro a.eval).run P w = .ok (.value v') w' := by
  rw [Oper.semAt_eq _ _ _ (by intro c; rw [ho]; nofun)]
  simp [execOp, ho, resolve, invoke, builtin, vp, h1, Result.andThen, Sem.run_bind]
 rw [hr]
 have hx := (x1.trans h4).ex (by omega)
 exact hc v' w' C' _ h2 h3 (hs.hs.put (hs.hs.free hs.sr.wr hs.fr (Nat.le_succ _) hk) List.mem_cons_self fun i o' _ h => List.mem_cons_of_mem _ h) (hx.fr hs.fr) hx
theorem Zav {t tx el bytes : Nat} {p q : Operand} {x : ByteArray} [hu : UD P t (.slice el)] [hux : UD P tx .string] [ha : AP P el 1 bytes] (hk : Nat.blt (e.k + 1) MM = true)
  (ho : o.op = .call { callee := .builtin .append, args := #[p, q], argTypes := #[t, tx] }) (hp : evT e.T p = some (.v (.slice none 0 0))) (hq : evT e.T q = some (.v (.string x)))
  (hml : x.size * bytes ≤ 140737488355328) (hm : x.size ≤ maxLen) : OpOk P o e (.own (e.k + 1) 1 0 x.size) (e.H.put (e.k + 1) (some (.rows el 1 (byteRows x)))) (e.k + 2) := by
 refine ⟨rfl, ?_⟩
 intro C Hl n a w hs ro next R hc
 have hk : e.k + 1 < MM := by rwa [Nat.blt_eq] at hk
 have f0 := hs.fr e.k (Nat.le_refl _) (by omega)
 have hZ : ∀ j, e.k ≤ j → j < e.k + 2 → j ∉ Zx e.k (e.k + 2) := fun j hj0 hj h => by have := (mem_Zx.1 h).2; omega
 obtain ⟨w1, x1⟩ := Za0 (Z := Zx e.k (e.k + 2)) e.k el 1 hs.sr.wr f0 (hZ _ (by omega) (by omega))
 have f1 : e.k + 1 ∉ (C.bindO e.k none).U := by
  intro h
  rcases List.mem_cons.1 h with h | h
  ·omega
  ·exact hs.fr (e.k + 1) (by omega) hk h
 have vp := VR.val (hs.sr.ev (by rw [Z0f]; exact hp))
 have vq := VR.val (hs.sr.ev (by rw [Z0f]; exact hq))
 have hown : VR (C.bindO e.k none) (.own e.k 1 0 ([] : List (List AV)).length) (.slice none 0 0) := .ownNil e.k 1 (Ctx.bindO_m ..) List.mem_cons_self
 obtain ⟨v', w', C', h1, h2, h3, h4⟩ := Z4t (P := P) (ty := o.type) (t := t) (tx := tx) (k := 0) (x := x) (xs := []) w1 rfl hown (by simpa using hml) (by simpa using hm) f1 (hZ _ (by omega) (by omega))
 simp only [List.length_nil, Nat.zero_add, List.nil_append, List.set_cons_zero] at h2 h3 h4
 have hr : (o.semAt ro a.eval).run P w = .ok (.value v') w' := by
  rw [Oper.semAt_eq _ _ _ (by intro c; rw [ho]; nofun)]
  simp [execOp, ho, resolve, invoke, builtin, vp, vq, h1, Result.andThen, Sem.run_bind]
 rw [hr]
 have hx := (x1.trans h4).ex (by omega)
 exact hc v' w' C' _ h2 h3 (hs.hs.put (hs.hs.free hs.sr.wr hs.fr (Nat.le_succ _) hk) List.mem_cons_self fun i o' _ h => List.mem_cons_of_mem _ h) (hx.fr hs.fr) hx
def evStore (P : Program) (e : ES) (t : TypeId) (p q : Operand) : Option Hp := match P.tk t, evT e.T p, evT e.T q with
 | some (_, n), some (.ptr id sz i c), some x => match e.H.own id with
  | some (.rows el sz' es) => if sz' = sz then (match es[i]? with
   | some ee => bif Nat.beq (cellsA x).length n && (cellsA x).all one && Nat.ble (c + n) sz then some (e.H.put id (some (.rows el sz (es.set i (ee.take c ++ cellsA x ++ ee.drop (c + (cellsA x).length)))))) else none
   | none => none) else none
  | _ => none
 | _, _, _ => none
theorem Zat {t : TypeId} {p q : Operand} {H' : Hp} (ho : o.op = .store t p q) (h : evStore P e t p q = some H') : OpOk P o e (.v undef) H' e.k := by
 unfold evStore at h
 split at h
 ·rename_i b n id sz i c x hk hp hq
  have : TK P t b n := ⟨hk⟩
  split at h
  ·rename_i el sz' es hg
   split at h
   ·rename_i hsz
    subst hsz
    split at h
    ·rename_i ee he
     cases hc : (Nat.beq (cellsA x).length n && (cellsA x).all one && Nat.ble (c + n) sz') with
     | false => rw [hc] at h; cases h
     | true =>
      rw [hc] at h
      simp only [Bool.and_eq_true] at hc
      obtain ⟨⟨c1, c2⟩, c3⟩ := hc
      cases h
      exact Zck hg fun Hl j _ hj => Z61 j ho (by rw [Z0f]; exact hp) hj he (by rw [Z0f]; exact hq) (Nat.eq_of_beq_eq_true c1) c2 c3
    ·cases h
   ·cases h
  ·cases h
 ·cases h
def isStrT (P : Program) (t : TypeId) : Bool := match P.underlying t with | some .string => true | _ => false
theorem Z5d {t : TypeId} (h : isStrT P t = true) : UD P t .string := by
 unfold isStrT at h
 split at h
 ·rename_i hu; exact ⟨hu⟩
 ·cases h
def evAppO (P : Program) (e : ES) (t t' el size bytes id len : Nat) (y : AV) : Option (AV × Hp × Nat) := match e.H.own id with
 | some (.rows el' sz' es) => bif Nat.blt e.k MM then (if el' = el ∧ sz' = size ∧ len = es.length then (match y with
  | .v (.string u) => if size = 1 ∧ (len + u.size) * bytes ≤ 140737488355328 ∧ len + u.size ≤ maxLen ∧ isStrT P t' = true then some (.own e.k 1 0 (len + u.size), ((e.H.put id none).put e.k (some (.rows el 1 (es ++ byteRows u)))), e.k + 1) else none
  | y => match evSl e.H size y with
   | some ys => if t' = t ∧ (len + ys.length) * bytes ≤ 140737488355328 ∧ len + ys.length ≤ maxLen then some (.own e.k size 0 (len + ys.length), ((e.H.put id none).put e.k (some (.rows el size (es ++ ys)))), e.k + 1) else none
   | none => none) else none) else none
 | _ => none
theorem Z7l {t t' el size bytes id len : Nat} {p q : Operand} {y z : AV} {H' : Hp} {k' : Nat} [hu : UD P t (.slice el)] [ha : AP P el size bytes] (ho : o.op = .call { callee := .builtin .append, args := #[p, q], argTypes := #[t, t'] })
  (hp : evT e.T p = some (.own id size 0 len)) (hq : evT e.T q = some y) (h : evAppO P e t t' el size bytes id len y = some (z, H', k')) : OpOk P o e z H' k' := by
 unfold evAppO at h
 split at h
 ·rename_i el' sz' es hg
  cases hk : Nat.blt e.k MM with
  | false => rw [hk] at h; cases h
  | true =>
   rw [hk, cond_true] at h
   split at h
   ·rename_i hc
    obtain ⟨rfl, rfl, rfl⟩ := hc
    split at h
    ·rename_i u
     split at h
     ·rename_i hc
      obtain ⟨h1, h2, h3, h4⟩ := hc
      subst h1
      have := Z5d h4
      cases h
      exact Zek hk hg fun Hl j _ hj => Z7g e.k j ho (by rw [Z0f]; exact hp) hj (by rw [Z0f]; exact hq) h2 h3
     ·cases h
    ·split at h
     ·rename_i ys hy
      split at h
      ·rename_i hc
       obtain ⟨h1, h2, h3⟩ := hc
       subst h1
       cases h
       exact Zek hk hg fun Hl j hs hj => Z8s e.k j ho (by rw [Z0f]; exact hp) hj (by rw [Z0f]; exact hq) (Z5c hy hs) h2 h3
      ·cases h
     ·cases h
   ·cases h
 ·cases h
def evApp (P : Program) (e : ES) (t t' : TypeId) (x y : AV) : Option (AV × Hp × Nat) := match P.underlying t with
 | some (.slice el) => match P.ap el with
  | some (size, bytes) => match x with
   | .v (.slice none 0 0) => bif Nat.blt (e.k + 1) MM then (match y with
    | .v (.string u) => if size = 1 ∧ u.size * bytes ≤ 140737488355328 ∧ u.size ≤ maxLen ∧ isStrT P t' = true then some (.own (e.k + 1) 1 0 u.size, e.H.put (e.k + 1) (some (.rows el 1 (byteRows u))), e.k + 2) else none
    | y => match evSl e.H size y with
     | some ys => if t' = t ∧ ys.length * bytes ≤ 140737488355328 ∧ ys.length ≤ maxLen then some (.own (e.k + 1) size 0 ys.length, e.H.put (e.k + 1) (some (.rows el size ys)), e.k + 2) else none
     | none => none) else none
   | .own id sz 0 len => if sz = size then (match e.H.own id with
    | some (.rows el' sz' es) => bif Nat.beq len es.length then evAppO P e t t' el size bytes id len y else evAppO P { e with H := e.H.put id (some (.rows el' sz' (es.take len))) } t t' el size bytes id len y
    | _ => none) else none
   | _ => none
  | none => none
 | _ => none
theorem Zdq {t t' : TypeId} {p q : Operand} {x y z : AV} {H' : Hp} {k' : Nat} (ho : o.op = .call { callee := .builtin .append, args := #[p, q], argTypes := #[t, t'] })
  (hp : evT e.T p = some x) (hq : evT e.T q = some y) (h : evApp P e t t' x y = some (z, H', k')) : OpOk P o e z H' k' := by
 unfold evApp at h
 split at h
 ·rename_i el hu
  have : UD P t (.slice el) := ⟨hu⟩
  split at h
  ·rename_i size bytes ha
   have : AP P el size bytes := ⟨ha⟩
   split at h
   ·cases hk : Nat.blt (e.k + 1) MM with
    | false => rw [hk] at h; cases h
    | true =>
     rw [hk, cond_true] at h
     split at h
     ·split at h
      ·rename_i hc
       obtain ⟨h1, h2, h3, h4⟩ := hc
       subst h1
       have := Z5d h4
       cases h
       exact Zav hk ho hp hq h2 h3
      ·cases h
     ·split at h
      ·rename_i ys hy
       split at h
       ·rename_i hc
        obtain ⟨h1, h2, h3⟩ := hc
        subst h1
        cases h
        exact Zcl hk ho hp hq hy h2 h3
       ·cases h
      ·cases h
   ·rename_i id sz len
    split at h
    ·rename_i hsz
     subst hsz
     split at h
     ·rename_i el' sz' es hg
      cases hb : Nat.beq len es.length with
      | true => rw [hb] at h; exact Z7l ho hp hq h
      | false => rw [hb] at h; exact Z95 hg (Z7l (e := { e with H := e.H.put id (some (.rows el' sz' (es.take len))) }) ho hp hq h)
     ·cases h
    ·cases h
   ·cases h
  ·cases h
 ·cases h
theorem Zcr {w : World} {dT sT ty el size : Nat} {g o dLen dCap sLen sCap : Nat} {a : Addr} {cur : Array Value} {t : TypeId} {cs : List Value} {i : TypeInfo} (hu : P.underlying dT = some (.slice el)) (hi : P.info? el = some i) (hs : i.size = size)
  (hg : w.heap[g]? = some (.cells cur t (0, 0))) (hn : cs.length = Nat.min sLen dLen * size) (hsrc : ∀ (j : Nat) (v : Value), cs[j]? = some v → w.cell? (a.add j) = some v) (hfit : o + cs.length ≤ cur.size) (h1 : ∀ v ∈ cs, v.oneCell' = true) :
  (Builtin.copy_ #[dT, sT] ty #[.slice (some ⟨g, o, none⟩) dLen dCap, .slice (some a) sLen sCap]).run P w = .ok (goInt (Nat.min sLen dLen)) (w.setRow g (cur.toList.take o ++ cs ++ cur.toList.drop (o + cs.length)).toArray) := by
 have hl := run_firstCells_some (P := P) (w := w) size (Nat.min sLen dLen) a sLen sCap cs hn hsrc
 have hst := run_storeCells_at P g o t cs 0 cur w hg (by simpa using hfit) h1
 simp [Builtin.copy_, Go.run_underlying hu, Builtin.lenOf, sizeOf, typeInfo, hi, hs, hl, hst, Sem.run_bind, Result.andThen]
theorem Zcm {t t' el size bytes id off dlen el' : Nat} {p q : Operand} {y : AV} {es ys : List (List AV)} [hu : UD P t (.slice el)] [ha : AP P el size bytes]
  (ho : o.op = .call { callee := .builtin .copy, args := #[p, q], argTypes := #[t, t'] }) (hp : evT e.T p = some (.own id size off dlen)) (hg0 : e.H.own id = some (.rows el' size es)) (hq : evT e.T q = some y) (hy : evSl e.H size y = some ys) (hd : off + dlen ≤ es.length) :
  OpOk P o e (.v (.int .i64 (Nat.min ys.length dlen))) (e.H.put id (some (.rows el' size (es.take off ++ ys.take (Nat.min ys.length dlen) ++ es.drop (off + Nat.min ys.length dlen))))) e.k := by
 obtain ⟨hfree, hg⟩ := Hp.own_spec hg0
 refine ⟨rfl, ?_⟩
 intro C Hl n a w hs ro next R hc
 obtain ⟨i, z, hi, hz, hsz, hby, hzs, hpos⟩ := AP.open ha.ap
 obtain ⟨j, hj⟩ := Z1k (hs.hs id _ hg)
 have vp := hs.sr.ev (show ev e.T.ls p = some _ by rw [Z0f]; exact hp)
 have vq := hs.sr.ev (show ev e.T.ls q = some y by rw [Z0f]; exact hq)
 obtain ⟨ad, c, hqv, hnil, hlen, hcells⟩ := (Z5c hy hs.hs).cells hs.sr.wr vq
 obtain ⟨hu', hlenx, hor⟩ := hs.sr.wr.ids _ _ (List.mem_of_getElem? hj)
 generalize hm : Nat.min ys.length dlen = m at *
 have hm1 : m ≤ ys.length := by rw [← hm]; exact Nat.min_le_left ..
 have hm2 : m ≤ dlen := by rw [← hm]; exact Nat.min_le_right ..
 -- where nothing is copied
 have none_copied : m = 0 → (o.semAt ro a.eval).run P w = .ok (.value (.int .i64 (m : Int))) w → o.uponIn (Wd ro) 0 P a next R ((o.semAt ro a.eval).run P w) := by
  intro h0 hr
  subst h0
  rw [hr]
  refine hc _ w C Hl (.v _) hs.sr.wr ?_ hs.fr (.refl ..)
  intro i' ob hg'
  rcases Hp.put_get hfree hg' with ⟨rfl, e1⟩ | ⟨_, e1⟩
  ·simp at e1; subst e1; exact hs.hs _ _ hg
  ·exact hs.hs _ _ e1
 generalize hav : a.eval p = u at vp
 have hsem : (o.semAt ro a.eval).run P w = ((Builtin.copy_ #[t, t'] o.type #[u, a.eval q]).run P w).andThen (fun v w => .ok (.value v) w) := by
  rw [Oper.semAt_eq _ _ _ (by intro c; rw [ho]; nofun)]
  simp [execOp, ho, resolve, invoke, builtin, hav, Sem.run_bind, Result.andThen]
 rw [hqv] at hsem
 have hgi : goInt (0 : Nat) = .int .i64 ((0 : Nat) : Int) := rfl
 cases vp with
 | ownNil _ _ hmn =>
  have h0 : m = 0 := by omega
  refine none_copied h0 ?_
  rw [hsem]
  subst h0
  have hmin : Nat.min ys.length 0 = 0 := Nat.min_zero _
  cases ad with
  | none => simp [Builtin.copy_, Go.run_underlying hu.ud, Builtin.lenOf, sizeOf, typeInfo, hi, hmin, Builtin.firstCells, goInt, Sem.run_bind, Result.andThen]
  | some ad => simp [Builtin.copy_, Go.run_underlying hu.ud, Builtin.lenOf, sizeOf, typeInfo, hi, hmin, Builtin.firstCells, loadCells, loadCellsFrom, goInt, Sem.run_bind, Result.andThen]
 | own _ _ _ _ b N cap hid _ hcap hlc hcm =>
  rcases hor with ⟨hm0, _⟩ | ⟨b', N', cells, hmb', hh, hsN, hfit, hrow⟩
  ·rw [hid] at hm0; cases hm0
  ·rw [hid] at hmb'; cases hmb'
   cases ad with
   | none =>
    have hy0 := hnil rfl
    subst hy0
    have h0 : m = 0 := by simpa using hm1
    refine none_copied h0 ?_
    rw [hsem]
    subst h0
    have hmin : Nat.min ([] : List (List AV)).length dlen = 0 := Nat.zero_min _
    simp [Builtin.copy_, Go.run_underlying hu.ud, Builtin.lenOf, sizeOf, typeInfo, hi, Builtin.firstCells, storeCells, goInt, Sem.run_bind, Result.andThen]
   | some ad =>
    obtain ⟨news, hn1, hn2, hn3, hn4⟩ := hcells ad rfl
    have hms : m * size ≤ news.length := by rw [hn1]; exact Nat.mul_le_mul_right _ hm1
    have hcs : (news.take (m * size)).length = m * size := by rw [List.length_take]; omega
    have hfits : off * size + m * size ≤ cells.size := by
     have h1 : (off + m) * size ≤ es.length * size := Nat.mul_le_mul_right _ (by omega)
     rw [Nat.add_mul] at h1; omega
    have hget : ∀ (j : Nat) (u : Value), (news.take (m * size))[j]? = some u → j < m * size ∧ news[j]? = some u := by
     intro j u hju
     have hlt := Z08 hju
     rw [hcs] at hlt
     rw [List.getElem?_take, if_pos hlt] at hju
     exact ⟨hlt, hju⟩
    have hrun := Zcr (P := P) (w := w) (dT := t) (sT := t') (ty := o.type) (o := off * size) (dCap := cap) (sCap := c) (sLen := ys.length) (dLen := dlen) (cs := news.take (m * size)) hu.ud hi hsz hh (by rw [hcs, hm]) (fun j u h => hn2 j u (hget j u h).2) (by rw [hcs]; exact hfits) (fun u h => hn3 u (List.mem_of_mem_take h))
    rw [hm] at hrun
    rw [hsem, hrun]
    obtain ⟨hw1, he1⟩ := Z0p (Z := []) (C' := C) (id' := id) (o' := .rows el' size (es.take off ++ ys.take m ++ es.drop (off + m))) (w' := w.setRow b (cells.toList.take (off * size) ++ news.take (m * size) ++ cells.toList.drop (off * size + (news.take (m * size)).length)).toArray) hs.sr.wr hj (.refl C) rfl (.inl rfl) hu' (fun _ _ h => h) rfl rfl rfl (by simp)
     (fun b N' hm' => .inl ⟨N', hm'⟩) (fun b2 hb2 hne => setRow_other w b b2 _ (by rintro rfl; exact hne _ hid)) (by
      have htl : (ys.take m).length = m := by rw [List.length_take]; omega
      refine ⟨?_, .inr ⟨b, _, _, hid, setRow_heap w b cells _ el' (0, 0) hh, ?_, ?_, ?_⟩⟩
      ·intro e' he'
       rcases List.mem_append.1 he' with h | h
       ·rcases List.mem_append.1 h with h | h
        ·exact hlenx e' (List.mem_of_mem_take h)
        ·exact hlen e' (List.mem_of_mem_take h)
       ·exact hlenx e' (List.mem_of_mem_drop h)
      ·simp only [List.size_toArray, List.length_append, List.length_take, List.length_drop, Array.length_toList]
       simp only [hn1] at hms ⊢
       omega
      ·have : (es.take off ++ ys.take m ++ es.drop (off + m)).length = es.length := by
        simp only [List.length_append, List.length_take, List.length_drop]; omega
       rw [this]; exact hfit
      ·intro i' e' jj cc he' hcc
       have hjl : jj < size := by
        have h1 := Z08 hcc
        have h2 : e' ∈ es.take off ++ ys.take m ++ es.drop (off + m) := List.mem_of_getElem? he'
        rcases List.mem_append.1 h2 with h | h
        ·rcases List.mem_append.1 h with h | h
         ·rw [hlenx e' (List.mem_of_mem_take h)] at h1; exact h1
         ·rw [hlen e' (List.mem_of_mem_take h)] at h1; exact h1
        ·rw [hlenx e' (List.mem_of_mem_drop h)] at h1; exact h1
       have hsp := Z0x es (ys.take m) off i' (by rw [htl]; omega)
       rw [htl] at hsp
       rw [hsp] at he'
       rw [List.getElem?_toArray, Z0x _ _ _ _ (by rw [hcs, Array.length_toList]; exact hfits), hcs]
       split at he'
       ·rename_i h1
        have := Z16 (k := jj) (sz := size) h1 hjl
        rw [if_pos this, Array.getElem?_toList]
        exact hrow i' e' jj cc he' hcc
       ·rename_i h1
        have g1 : off * size ≤ i' * size := Nat.mul_le_mul_right _ (by omega)
        rw [if_neg (by omega)]
        split at he'
        ·rename_i h2
         have g2 : (i' - off) * size + jj < m * size := Z16 (k := jj) (sz := size) (by omega) hjl
         have g3 : (i' - off) * size + off * size = i' * size := by rw [← Nat.add_mul]; congr 1; omega
         rw [if_pos (by omega)]
         rw [List.getElem?_take, if_pos (by omega)] at he'
         obtain ⟨u, h3, h4⟩ := hn4 (i' - off) e' jj cc he' hcc
         refine ⟨u, ?_, h4, hn3 u (List.mem_of_getElem? h3)⟩
         rw [List.getElem?_take, if_pos (by omega), ← h3]
         congr 1; omega
        ·rename_i h2
         have g2 : (off + m) * size ≤ i' * size := Nat.mul_le_mul_right _ (by omega)
         rw [Nat.add_mul] at g2
         rw [if_neg (by omega), Array.getElem?_toList]
         exact hrow i' e' jj cc he' hcc)
    have hsub := hs.hs.put (ob := .rows el' size (es.take off ++ ys.take m ++ es.drop (off + m))) hfree (Z1n hj) (Hl' := Hl.set j (id, .rows el' size (es.take off ++ ys.take m ++ es.drop (off + m)))) (by
     intro i' o' hne hmm
     obtain ⟨m', hm'⟩ := Z1k hmm
     exact Z1b hm' (Z3b hs.sr.wr hj hm' hne))
    exact hc _ _ C _ (.v _) hw1 hsub hs.fr he1.same
def evLook (P : Program) (H : Hp) (t : TypeId) (x y : AV) (ok : Bool) : Option AV := match P.underlying t with
 | some (.map kt et) => match ckOf P 20 kt, P.zv et, keyA y with
  | some ks, some z, some key => bif keyOk (aggT P kt) ks key then (match x with
   | .map id => match H.get id with
    | some (.mp es) => match mfind (aggT P kt) ks key es 0 with
     | some r => some (mres ok z r)
     | none => none
    | _ => none
   | .v (.map none) => some (mres ok z none)
   | _ => none) else none
  | _, _, _ => none
 | _ => none
theorem Z64 {T : Tr AV} {H : Hp} {t : TypeId} {p q : Operand} {x y z : AV} {ok : Bool} (ho : o.op = .lookup t p q ok) (hp : evT T p = some x) (hq : evT T q = some y) (h : evLook P H t x y ok = some z) : ∃ Hn : AHeap, Eff P o T.ls Hn z [] ∧ ∀ p, p ∈ Hn → H.get p.1 = some p.2 := by
 unfold evLook at h
 split at h
 ·rename_i kt et hu
  have : UD P t (.map kt et) := ⟨hu⟩
  split at h
  ·rename_i ks zv key hck hz hkey
   cases hko : keyOk (aggT P kt) ks key with
   | false => rw [hko] at h; cases h
   | true =>
    rw [hko, cond_true] at h
    split at h
    ·rename_i id
     split at h
     ·rename_i es hg
      split at h
      ·rename_i r hr
       cases h
       exact ⟨_, Z8u hck hz ho (by rw [Z0f]; exact hp) (by rw [Z0f]; exact hq) hkey hko hr, fun p hp => by rw [List.mem_singleton.1 hp]; exact hg⟩
      ·cases h
     ·cases h
    ·cases h
     exact ⟨_, Z54 hck hz ho (by rw [Z0f]; exact hp) (by rw [Z0f]; exact hq) hkey hko, nofun⟩
    ·cases h
  ·cases h
 ·cases h
theorem Zbz {t : TypeId} {p q : Operand} {x y z : AV} {ok : Bool} (ho : o.op = .lookup t p q ok) (hp : evT e.T p = some x) (hq : evT e.T q = some y) (h : evLook P e.H t x y ok = some z) : OpOk P o e z e.H e.k :=
 let ⟨_, h1, h2⟩ := Z64 ho hp hq h
 Z2d h1 h2
def evPureL (P : Program) (T : Tr AV) (H : Hp) (op : Op) : Option AV := match evPure P T H op with
 | some x => some x
 | none => match op with
  | .lookup t p q ok => match evT T p, evT T q with
   | some x, some y => evLook P H t x y ok
   | _, _ => none
  | _ => none
theorem Z8w {T : Tr AV} {H : Hp} {x : AV} (h : evPureL P T H o.op = some x) : ∃ Hn : AHeap, Eff P o T.ls Hn x [] ∧ ∀ p, p ∈ Hn → H.get p.1 = some p.2 := by
 unfold evPureL at h
 split at h
 ·rename_i y hy; cases h; exact Z2s hy
 ·split at h
  ·rename_i t p q ok ho
   split at h
   ·rename_i y z h1 h2; exact Z64 ho h1 h2 h
   ·cases h
  ·cases h
theorem Zc9 {T : Tr AV} {H : Hp} {x : AV} {t : TypeId} {q : Operand} (ho : o.op = .load t q) (h : evPureL P T H o.op = some x) :
  ∃ y, evT T q = some y ∧ ∃ Hn : AHeap, Eff P o T.ls Hn x [] ∧ ∀ p, p ∈ Hn → H.get p.1 = some p.2 ∧ ∃ sz i c, y = .ptr p.1 sz i c := by
 rw [ho] at h
 simp only [evPureL, evPure] at h
 cases hy : evT T q with
 | none => rw [hy] at h; simp at h
 | some y =>
  rw [hy] at h
  simp only at h
  refine ⟨y, rfl, ?_⟩
  have h2 : evLoad P H t y = some x := by
   cases hl : evLoad P H t y with
   | none => rw [hl] at h; simp at h
   | some z => rw [hl] at h; simpa using h
  unfold evLoad at h2
  split at h2
  ·rename_i id sz i c
   split at h2
   ·rename_i el sz' es hg
    split at h2
    ·rename_i e; subst e
     split at h2
     ·rename_i e he
      exact ⟨[(id, .rows el sz es)], Z1l (y := .ptr id sz i c) (l := e.drop c) ho (by rw [Z0f]; exact hy) ⟨el, es, e, List.mem_cons_self, he, rfl⟩ (Z2v h2), fun p hp => by rw [List.mem_singleton.1 hp]; exact ⟨hg, _, _, _, rfl⟩⟩
     ·cases h2
    ·cases h2
   ·cases h2
  ·rename_i es i c
   split at h2
   ·rename_i e he
    exact ⟨[], Z1l (y := .elt es i c) (l := e.drop c) ho (by rw [Z0f]; exact hy) ⟨e, he, rfl⟩ (Z2v h2), nofun⟩
   ·cases h2
  ·cases h2
def looseOp : Op → Bool
 | .move _ => true
 | .extract _ _ => true
 | .fieldAddr _ _ _ => true
 | .field _ _ _ => true
 | .pick _ _ _ => true
 | .nilCheck _ => true
 | .binOp _ _ _ _ _ => true
 | _ => false
theorem Z7o {T : Tr AV} {H : Hp} {op : Op} {x : AV} (hl : looseOp op = true) (h : evPureL P T H op = some x) : evPure P T ⟨.lf, []⟩ op = some x := by
 unfold evPureL at h
 split at h
 ·rename_i y hy
  cases h
  cases op <;> first | (unfold evPure at hy ⊢; exact hy) | (exact Bool.noConfusion hl)
 ·cases op <;> first | (cases h; done) | (exact Bool.noConfusion hl)
theorem Zca {T : Tr AV} {H : Hp} {x : AV} (hl : looseOp o.op = true) (h : evPureL P T H o.op = some x) : Eff P o T.ls [] x [] := by
 obtain ⟨Hn, h1, h2⟩ := Z2s (Z7o hl h)
 cases Hn with
 | nil => exact h1
 | cons p r =>
  have := h2 p List.mem_cons_self
  simp [Hp.get, getR, Tr.get, Tr.getF_lf] at this
def evUpd (P : Program) (e : ES) (t : TypeId) (x y z : AV) : Option Hp := match P.underlying t, x with
 | some (.map kt _), .map id => match ckOf P 20 kt, keyA y, e.H.own id with
  | some ks, some key, some (.mp es) => bif keyOk (aggT P kt) ks key then (match mfind (aggT P kt) ks key es 0 with
   | some r => some (e.H.put id (some (.mp (mupd es r key z))))
   | none => none) else none
  | _, _, _ => none
 | _, _ => none
theorem Z9n {t : TypeId} {p q q2 : Operand} {x y z : AV} {H' : Hp} (ho : o.op = .mapUpdate t p q q2 ∨ o.op = .insert t p q q2) (hp : evT e.T p = some x) (hq : evT e.T q = some y) (hr : evT e.T q2 = some z) (h : evUpd P e t x y z = some H') : OpOk P o e (.v undef) H' e.k := by
 unfold evUpd at h
 split at h
 ·rename_i kt et id hu
  have : UD P t (.map kt et) := ⟨hu⟩
  split at h
  ·rename_i ks key es hck hkey hg
   cases hko : keyOk (aggT P kt) ks key with
   | false => rw [hko] at h; cases h
   | true =>
    rw [hko, cond_true] at h
    split at h
    ·rename_i r hf
     cases h
     exact Zck hg fun Hl j _ hj => Zbm j hck ho (by rw [Z0f]; exact hp) hj (by rw [Z0f]; exact hq) hkey (by rw [Z0f]; exact hr) hko hf
    ·cases h
  ·cases h
 ·cases h
def evDel (P : Program) (e : ES) (t : TypeId) (x y : AV) : Option Hp := match P.underlying t, x with
 | some (.map kt _), .map id => match ckOf P 20 kt, keyA y, e.H.own id with
  | some ks, some key, some (.mp es) => bif keyOk (aggT P kt) ks key then (match mfind (aggT P kt) ks key es 0 with
   | some r => some (e.H.put id (some (.mp (mdel es r))))
   | none => none) else none
  | _, _, _ => none
 | _, _ => none
theorem Zdr {t tk : TypeId} {p q : Operand} {x y : AV} {H' : Hp} (ho : o.op = .call { callee := .builtin .delete, args := #[p, q], argTypes := #[t, tk] }) (hp : evT e.T p = some x) (hq : evT e.T q = some y) (h : evDel P e t x y = some H') : OpOk P o e (.v undef) H' e.k := by
 unfold evDel at h
 split at h
 ·rename_i kt et id hu
  have : UD P t (.map kt et) := ⟨hu⟩
  split at h
  ·rename_i ks key es hck hkey hg
   cases hko : keyOk (aggT P kt) ks key with
   | false => rw [hko] at h; cases h
   | true =>
    rw [hko, cond_true] at h
    split at h
    ·rename_i r hf
     cases h
     exact Zck hg fun Hl j _ hj => Zbl j hck ho (by rw [Z0f]; exact hp) hj (by rw [Z0f]; exact hq) hkey hko hf
    ·cases h
  ·cases h
 ·cases h
def evCopy (P : Program) (e : ES) (t : TypeId) (x y : AV) : Option (AV × Hp × Nat) := match P.underlying t, x with
 | some (.slice el), .own id sz off dlen => match P.ap el, e.H.own id with
  | some (size, _), some (.rows el' sz' es) => match evSl e.H size y with
   | some ys => if sz = size ∧ sz' = size ∧ off + dlen ≤ es.length then some (.v (.int .i64 (Nat.min ys.length dlen)), e.H.put id (some (.rows el' size (es.take off ++ ys.take (Nat.min ys.length dlen) ++ es.drop (off + Nat.min ys.length dlen)))), e.k) else none
   | none => none
  | _, _ => none
 | _, _ => none
theorem Zbv {t t' : TypeId} {p q : Operand} {x y z : AV} {H' : Hp} {k' : Nat} (ho : o.op = .call { callee := .builtin .copy, args := #[p, q], argTypes := #[t, t'] }) (hp : evT e.T p = some x) (hq : evT e.T q = some y) (h : evCopy P e t x y = some (z, H', k')) : OpOk P o e z H' k' := by
 unfold evCopy at h
 split at h
 ·rename_i el id sz off dlen hu
  have : UD P t (.slice el) := ⟨hu⟩
  split at h
  ·rename_i size bytes el' sz' es ha hg
   have : AP P el size bytes := ⟨ha⟩
   split at h
   ·rename_i ys hy
    split at h
    ·rename_i hc
     obtain ⟨h1, h2, h3⟩ := hc
     subst h1; subst h2
     cases h
     exact Zcm ho hp hg hq hy h3
    ·cases h
   ·cases h
  ·cases h
 ·cases h
theorem Zaw {t et id el off len n : Nat} {p : Operand} {z : Value} {es : List (List AV)} [hu : UD P t (.slice et)] [hz : ZV P et z] (hzc : z.cells.size = n) (hz1 : ∀ v, v ∈ z.cells.toList → v.oneCell' = true)
  (ho : o.op = .call { callee := .builtin .clear, args := #[p], argTypes := #[t] }) (hp : evT e.T p = some (.own id n off len)) (hg0 : e.H.own id = some (.rows el n es)) : OpOk P o e (.tup []) (e.H.put id (some (.rows el n (es.take off)))) e.k := by
 obtain ⟨hfree, hg⟩ := Hp.own_spec hg0
 refine ⟨rfl, ?_⟩
 intro C Hl nn a w hs ro next R hc
 obtain ⟨j, hj⟩ := Z1k (hs.hs id _ hg)
 obtain ⟨hu', hlenx, hor⟩ := hs.sr.wr.ids _ _ (List.mem_of_getElem? hj)
 have htup : ∀ C' : Ctx, VR C' (.tup []) (.tuple #[]) := fun C' => .tup _ _ rfl (fun i c x hc => by simp at hc)
 have fin : ∀ w1, WR C (Hl.set j (id, .rows el n (es.take off))) w1 → Ext (Zx e.k e.k) C Hl w C (Hl.set j (id, .rows el n (es.take off))) w1 → next (a.put o.dst (.tuple #[])) w1 := fun w1 hw1 he1 => by
  have hx := he1.ex (Nat.le_refl _)
  refine hc _ w1 C _ (htup C) hw1 (hs.hs.put hfree (Z1n hj) ?_) (hx.fr hs.fr) hx
  intro i o' hne hm
  obtain ⟨m, hm⟩ := Z1k hm
  exact Z1b hm (Z3b hs.sr.wr hj hm hne)
 have hle1 : ∀ e' : List AV, e' ∈ es.take off → e'.length = n := fun e' he => hlenx e' (List.mem_of_mem_take he)
 have hsem : ∀ (v : Value) (w' : World), (Builtin.clear_ #[t] o.type #[a.eval p]).run P w = .ok v w' → (o.semAt ro a.eval).run P w = .ok (.value v) w' := fun v w' hv => by
  rw [Oper.semAt_eq _ _ _ (by intro c; rw [ho]; nofun)]
  simp [execOp, ho, resolve, invoke, builtin, hv, Result.andThen, Sem.run_bind]
 have stay : (∀ b N cells, C.m id = some (b, N) → w.heap[b]? = some (.cells cells el (0, 0)) → True) → (o.semAt ro a.eval).run P w = .ok (.value (.tuple #[])) w →
   o.uponIn (Wd ro) 0 P a next R ((o.semAt ro a.eval).run P w) := by
  intro _ hr
  rw [hr]
  obtain ⟨hw1, he1⟩ := Z0p (Z := Zx e.k e.k) (C' := C) (id' := id) (o' := .rows el n (es.take off)) (w' := w) hs.sr.wr hj (.refl C) rfl (.inl rfl) hu' (fun _ _ h => h) rfl rfl rfl (Nat.le_refl _) (fun b N' hm' => .inl ⟨N', hm'⟩) (fun _ _ _ => rfl) (by
   refine ⟨hle1, ?_⟩
   rcases hor with ⟨hm0, rfl⟩ | ⟨b', N', cells, hmb', hh, hsN, hfit, hrow⟩
   ·exact .inl ⟨hm0, by simp⟩
   ·refine .inr ⟨b', N', cells, hmb', hh, hsN, ?_, ?_⟩
    ·rw [List.length_take]
     exact Nat.le_trans (Nat.mul_le_mul_right _ (Nat.min_le_right _ _)) hfit
    ·intro i e' j c he' hc
     rw [List.getElem?_take] at he'
     split at he'
     ·exact hrow i e' j c he' hc
     ·cases he')
  exact fin _ hw1 he1
 have hpv := hs.sr.ev (show ev e.T.ls p = some _ by rw [Z0f]; exact hp)
 generalize hav : a.eval p = u at hpv hsem
 cases hpv with
 | ownNil _ _ hid hiu =>
  exact stay (fun _ _ _ _ _ => trivial) (hsem _ _ (by simp [Builtin.clear_, Go.run_underlying hu.ud]))
 | own _ _ _ _ b N cap hid _ hcap hlc hcm =>
  cases len with
  | zero => exact stay (fun _ _ _ _ _ => trivial) (hsem _ _ (by simp [Builtin.clear_, Go.run_underlying hu.ud]))
  | succ m =>
   rcases hor with ⟨hm0, _⟩ | ⟨b', N', cells, hmb', hh, hsN, hfit, hrow⟩
   ·rw [hid] at hm0; cases hm0
   ·rw [hid] at hmb'; cases hmb'
    have hL1 : (Builtin.zeroCells z.cells (m + 1)).toList.length = (m + 1) * n := by simp [Builtin.zeroCells, hzc]
    have hL2 : ∀ v, v ∈ (Builtin.zeroCells z.cells (m + 1)).toList → v.oneCell' = true := by
     intro v hv'
     simp only [Builtin.zeroCells, Array.toList_map, Array.toList_range, List.mem_map, List.mem_range] at hv'
     obtain ⟨i, hi, rfl⟩ := hv'
     have hn0 : 0 < z.cells.size := by
      rcases Nat.eq_zero_or_pos z.cells.size with h0 | h0
      ·rw [h0] at hi; omega
      ·exact h0
     have hm := Nat.mod_lt i hn0
     rw [getElem!_pos z.cells (i % z.cells.size) hm]
     exact hz1 _ (Array.getElem_mem_toList hm)
    generalize hLL : (Builtin.zeroCells z.cells (m + 1)).toList = L at hL1 hL2
    have hfit' : off * n + (m + 1) * n ≤ N := by
     rw [← hcap, ← Nat.add_mul]; exact Nat.mul_le_mul_right _ (by omega)
    have hst := run_storeCells_at (P := P) b (off * n) el L 0 cells w hh (by omega) hL2
    simp only [Nat.add_zero] at hst
    have hr := hsem (.tuple #[]) (w.setRow b (cells.toList.take (off * n) ++ L ++ cells.toList.drop (off * n + L.length)).toArray) (by
     simp [Builtin.clear_, Go.run_underlying hu.ud, Z2z hz.zv, hLL, hst, Sem.run_bind, Result.andThen])
    rw [hr]
    obtain ⟨hw1, he1⟩ := Z0p (Z := Zx e.k e.k) (C' := C) (id' := id) (o' := .rows el n (es.take off)) (w' := w.setRow b (cells.toList.take (off * n) ++ L ++ cells.toList.drop (off * n + L.length)).toArray) hs.sr.wr hj (.refl C) rfl (.inl rfl) hu' (fun _ _ h => h) rfl rfl rfl (by simp [World.setRow])
     (fun b N' hm' => .inl ⟨N', hm'⟩) (fun b2 hb2 hne => setRow_other w b b2 _ (by rintro rfl; exact hne _ hid)) (by
      refine ⟨hle1, .inr ⟨b, N, _, hid, setRow_heap w b cells _ el (0, 0) hh, ?_, ?_, ?_⟩⟩
      ·simp only [List.size_toArray, List.length_append, List.length_take, List.length_drop, Array.length_toList]
       omega
      ·rw [List.length_take]
       exact Nat.le_trans (Nat.mul_le_mul_right _ (Nat.min_le_right _ _)) hfit
      ·intro i e' j c he' hc
       rw [List.getElem?_take] at he'
       split at he'
       ·rename_i hio
        obtain ⟨x, h3, h4⟩ := hrow i e' j c he' hc
        have hj : j < n := by have := hlenx e' (List.mem_of_getElem? he'); have := Z08 hc; omega
        have hij : i * n + j < off * n := by
         have : (i + 1) * n ≤ off * n := Nat.mul_le_mul_right _ (by omega)
         rw [Nat.add_mul] at this; omega
        refine ⟨x, ?_, h4⟩
        have hlt := (Array.getElem?_eq_some_iff.1 h3).1
        rw [List.getElem?_toArray, List.append_assoc, List.getElem?_append_left (by simp only [List.length_take, Array.length_toList]; omega), List.getElem?_take, if_pos (by omega), Array.getElem?_toList]
        exact h3
       ·cases he')
    exact fin _ hw1 he1
def evClear (P : Program) (e : ES) (t : TypeId) (x : AV) : Option Hp := match P.underlying t, x with
 | some (.slice et), .own id n off _ => match P.zv et, e.H.own id with
  | some z, some (.rows el n' es) => if n' = n ∧ z.cells.size = n then (bif z.cells.toList.all (·.oneCell') then some (e.H.put id (some (.rows el n (es.take off)))) else none) else none
  | _, _ => none
 | _, _ => none
theorem Zap {t : TypeId} {p : Operand} {x : AV} {H' : Hp} (ho : o.op = .call { callee := .builtin .clear, args := #[p], argTypes := #[t] }) (hp : evT e.T p = some x) (h : evClear P e t x = some H') : OpOk P o e (.tup []) H' e.k := by
 unfold evClear at h
 split at h
 ·rename_i et id n off ln hu
  have : UD P t (.slice et) := ⟨hu⟩
  split at h
  ·rename_i z el n' es hz hg
   have : ZV P et z := ⟨hz⟩
   split at h
   ·rename_i hc
    obtain ⟨h1, h2⟩ := hc
    subst h1
    cases hb : z.cells.toList.all (·.oneCell') with
    | false => rw [hb] at h; cases h
    | true =>
     rw [hb] at h
     cases h
     exact Zaw h2 (fun v hv => List.all_eq_true.1 hb v hv) ho hp hg
   ·cases h
  ·cases h
 ·cases h
def evMut (P : Program) (e : ES) (op : Op) : Option (AV × Hp × Nat) := match op with
 | .store t p q => match evStore P e t p q with
  | some H => some (.v undef, H, e.k)
  | none => none
 | .call ⟨.builtin b, args, ats⟩ => match b, args.toList, ats.toList with
  | .append, [p, q], [t, t'] => match evT e.T p, evT e.T q with
   | some x, some y => evApp P e t t' x y
   | _, _ => none
  | .delete, [p, q], [t, _] => match evT e.T p, evT e.T q with
   | some x, some y => match evDel P e t x y with
    | some H => some (.v undef, H, e.k)
    | none => none
   | _, _ => none
  | .copy, [p, q], [t, _] => match evT e.T p, evT e.T q with
   | some x, some y => evCopy P e t x y
   | _, _ => none
  | .clear, [p], [t] => match evT e.T p with
   | some x => match evClear P e t x with
    | some H => some (.tup [], H, e.k)
    | none => none
   | none => none
  | _, _, _ => none
 | .lookup t p q ok => match evT e.T p, evT e.T q with
  | some x, some y => match evLook P e.H t x y ok with
   | some z => some (z, e.H, e.k)
   | none => none
  | _, _ => none
 | .mapUpdate t p q r => match evT e.T p, evT e.T q, evT e.T r with
  | some x, some y, some z => match evUpd P e t x y z with
   | some H => some (.v undef, H, e.k)
   | none => none
  | _, _, _ => none
 | .insert t p q r => match evT e.T p, evT e.T q, evT e.T r with
  | some x, some y, some z => match evUpd P e t x y z with
   | some H => some (.v undef, H, e.k)
   | none => none
  | _, _, _ => none
 | _ => none
theorem Zdt {x : AV} {H' : Hp} {k' : Nat} (h : evMut P e o.op = some (x, H', k')) : OpOk P o e x H' k' := by
 unfold evMut at h
 split at h
 ·rename_i t p q ho
  split at h
  ·rename_i H hs; cases h; exact Zat ho hs
  ·cases h
 ·rename_i b args ats ho
  split at h
  ·rename_i p q t t' ha hb
   have e1 := Zeu ha
   have e2 := Zeu hb
   subst e1; subst e2
   split at h
   ·rename_i x y h1 h2; exact Zdq ho h1 h2 h
   ·cases h
  ·rename_i p q t t' ha hb
   have e1 := Zeu ha
   have e2 := Zeu hb
   subst e1; subst e2
   split at h
   ·rename_i x y h1 h2
    split at h
    ·rename_i H hs; cases h; exact Zdr ho h1 h2 hs
    ·cases h
   ·cases h
  ·rename_i p q t t' ha hb
   have e1 := Zeu ha
   have e2 := Zeu hb
   subst e1; subst e2
   split at h
   ·rename_i x y h1 h2; exact Zbv ho h1 h2 h
   ·cases h
  ·rename_i p t ha hb
   have e1 : args = #[p] := by apply Array.ext'; simpa using ha
   have e2 : ats = #[t] := by apply Array.ext'; simpa using hb
   subst e1; subst e2
   split at h
   ·rename_i x h1
    split at h
    ·rename_i H hs; cases h; exact Zap ho h1 hs
    ·cases h
   ·cases h
  ·cases h
 ·rename_i t p q ok ho
  split at h
  ·rename_i x y h1 h2
   split at h
   ·rename_i z hz; cases h; exact Zbz ho h1 h2 hz
   ·cases h
  ·cases h
 ·rename_i t p q r ho
  split at h
  ·rename_i x y z h1 h2 h3
   split at h
   ·rename_i H hs; cases h; exact Z9n (.inl ho) h1 h2 h3 hs
   ·cases h
  ·cases h
 ·rename_i t p q r ho
  split at h
  ·rename_i x y z h1 h2 h3
   split at h
   ·rename_i H hs; cases h; exact Z9n (.inr ho) h1 h2 h3 hs
   ·cases h
  ·cases h
 ·cases h
def evOp (P : Program) (e : ES) (op : Op) : Option (AV × Hp × Nat) := match evPure P e.T e.H op with
 | some x => some (x, e.H, e.k)
 | none => match evNew P e.T e.k op with
  | some (x, ob) => bif Nat.blt e.k MM then some (x, e.H.put e.k (some ob), e.k + 1) else none
  | none => evMut P e op
theorem Zfg {x : AV} {H' : Hp} {k' : Nat} (h : evOp P e o.op = some (x, H', k')) : OpOk P o e x H' k' := by
 unfold evOp at h
 split at h
 ·rename_i y hy
  cases h
  obtain ⟨Hn, h1, h2⟩ := Z2s hy
  exact Z2d h1 h2
 ·split at h
  ·rename_i y ob hy
   cases hk : Nat.blt e.k MM with
   | false => rw [hk] at h; cases h
   | true => rw [hk] at h; cases h; exact Ze6 hk (Z7n hy)
  ·exact Zdt h
end
end Go.Sx
namespace Go.Sx
open Go
def putT (T : Tr AV) : Option Nat → AV → Tr AV
 | none, _ => T
 | some d, x => T.put d (some x)
theorem Zc8 {T : Tr AV} {d : Option Nat} {x : AV} {t : Nat} {y : AV} (h : lk (putT T d x).ls t = some y) : lk (put T.ls d x) t = some y := by
 cases d with
 | none => exact h
 | some d =>
  rw [Tr.lk_ls] at h
  simp only [put, lk]
  rcases Tr.put_get h with ⟨rfl, e⟩ | ⟨hne, e⟩
  ·cases e; simp
  ·have hb : Nat.beq d t = false := by
    cases hb : Nat.beq d t with
    | true => exact absurd (Nat.eq_of_beq_eq_true hb).symm hne
    | false => rfl
   rw [hb, cond_false, Tr.lk_ls]; exact e
theorem SR.lks {C : Ctx} {s : St} {a : Act} {w : World} {T' : List (Nat × AV)} (hs : SR C s a w) (h : ∀ t y, lk T' t = some y → lk s.T t = some y) : SR C { s with T := T' } a w :=
 ⟨hs.wr, fun t x hx => hs.sl t x (h t x hx), hs.df, hs.du, hs.sz⟩
section
variable {P : Program} {o : Oper} {e : ES} {n : Nat}
theorem SE.next {C C1 : Ctx} {Hl Hl1 : AHeap} {a : Act} {w w1 : World} {H' : Hp} {k' : Nat} {d : Option Nat} {x : AV} {v : Value} (hs : SE C Hl e n a w) (hd : dok d n = true) (hle : C.Le C1) (hv : VR C1 x v) (hw : WR C1 Hl1 w1) (hh : SubH H' Hl1) (hf : Fr k' C1) :
  SE C1 Hl1 ⟨putT e.T d x, H', e.D, k'⟩ n (a.put d v) w1 :=
 ⟨(hs.sr.put hle hw (Z0k hd) hv).lks fun t y hy => Zc8 hy, hh, hf⟩
def wantG (ops : Array Oper) (T : Tr AV) : Option (Nat × Bool) → Option Bool
 | none => some true
 | some (g, c) => match ops[g]? with
  | some og => match og.dst with
   | some t => match T.get t with
    | some (.v (.bool d)) => some (d == c)
    | some (.v (.tuple vs)) => bif vs.isEmpty then some false else none
    | _ => none
   | none => none
  | none => none
theorem Z32 {ops : Array Oper} {T : Tr AV} {b : Bool} (h : wantG ops T o.guard = some b) : Wanted ops T.ls o b := by
 unfold wantG at h
 split at h
 ·rename_i hg; cases h; exact .inl ⟨hg, rfl⟩
 ·rename_i g c hg
  split at h
  ·rename_i og ho
   split at h
   ·rename_i t ht
    split at h
    ·rename_i d hd; cases h; exact .inr ⟨g, c, d, og, t, hg, ho, ht, .inl ⟨by rw [Tr.lk_ls]; exact hd, rfl⟩⟩
    ·rename_i vs hd
     cases hv : vs.isEmpty with
     | false => rw [hv] at h; cases h
     | true =>
      rw [hv] at h; cases h
      have : vs = #[] := by simpa using hv
      subst this
      exact .inr ⟨g, c, false, og, t, hg, ho, ht, .inr ⟨by rw [Tr.lk_ls]; exact hd, rfl⟩⟩
    ·cases h
   ·cases h
  ·cases h
theorem Z48 {T : List (Nat × AV)} {t : TypeId} {d : TypeDesc} {p : Operand} {x : AV} [hu : UD P t d] (hn : (match d with | .interface _ => false | _ => true) = true) (ho : o.op = .makeInterface t p) (hp : ev T p = some x) : Eff P o T [] (.ifc t x) [] :=
 Z01 (by intro c; rw [ho]; nofun) fun C H a w hw _ hv => by
  have h2 := hv p (by rw [ho]; simp [Op.operands]) _ hp
  refine ⟨.iface t (a.eval p), ?_, .ifc t x _ h2⟩
  cases d <;> first | (simp at hn; done) | simp [execOp, ho, Instr.makeInterface, Go.run_underlying hu.ud, Sem.run_bind, Result.andThen]
def valA : AV → Option Value
 | .ifc t x => match keyA x with | some v => some (.iface t v) | none => none
 | x => keyA x
theorem Zcz {C : Ctx} {x : AV} {k v : Value} (h : valA x = some k) (hv : VR C x v) : v = k := by
 unfold valA at h
 split at h
 ·rename_i t x
  split at h
  ·rename_i u hu
   cases h
   cases hv with
   | ifc _ _ v' h' => rw [Z25 hu h']
  ·cases h
 ·exact Z25 h hv
def ifNil : AV → Option Bool
 | .ifc _ _ => some false
 | .v (.iface _ _) => some false
 | .v .nilIface => some true
 | _ => none
def isIfT (P : Program) (t : TypeId) : Bool := match P.underlying t with | some (.interface _) => true | _ => false
def evAssert (P : Program) (ty : TypeId) (x : AV) : Option (Option AV) := match P.underlying ty with
 | some (.interface _) => none
 | some _ => match x with
  | .ifc t y => if t = ty then some (some y) else some none
  | .v (.iface t v) => if t = ty then some (some (avOf v)) else some none
  | .v .nilIface => some none
  | _ => none
 | none => none
theorem Z62 {T : List (Nat × AV)} {t ty : TypeId} {p : Operand} {x : AV} {r : Option AV} {z : Value} (hz : P.zv ty = some z) (ho : o.op = .typeAssert p t ty true) (hp : ev T p = some x) (h : evAssert P ty x = some r) :
  Eff P o T [] (match r with | some y => .tup [y, .v (.bool true)] | none => .tup [avOf z, .v (.bool false)]) [] :=
 Z01 (by intro c; rw [ho]; nofun) fun C H a w hw _ hv => by
  have h2 := hv p (by rw [ho]; simp [Op.operands]) _ hp
  unfold evAssert at h
  split at h
  ·cases h
  ·rename_i d hnd hu
   have hni : ∀ w', d ≠ .interface w' := fun w' e => hnd w' e
   have hit : ∀ v : Value, a.eval p = .iface ty v → (execOp a.eval o).run P w = .ok (.value (.tuple #[v, .bool true])) w := by
    intro v hv'
    cases d <;> first | exact absurd rfl (hni _) | simp [execOp, ho, Instr.typeAssert, hv', Go.run_underlying hu, Sem.run_bind, Result.andThen]
   have hmiss : (∃ t' v, a.eval p = .iface t' v ∧ t' ≠ ty) ∨ a.eval p = .nilIface → (execOp a.eval o).run P w = .ok (.value (.tuple #[z, .bool false])) w := by
    rintro (⟨t', v, hv', hne⟩ | hv') <;>
     cases d <;> first | exact absurd rfl (hni _) | simp [execOp, ho, Instr.typeAssert, hv', Go.run_underlying hu, Z2z hz, Sem.run_bind, Result.andThen, *]
   split at h
   ·rename_i t' y
    generalize he : a.eval p = u at h2
    cases h2 with
    | ifc _ _ v h3 =>
     split at h
     ·rename_i e; subst e; cases h; exact ⟨_, hit v he, Z2m h3 (.v _)⟩
     ·rename_i e; cases h; exact ⟨_, hmiss (.inl ⟨_, _, he, e⟩), Z2m (Z2f z) (.v _)⟩
   ·rename_i t' v0
    have he := VR.val h2
    split at h
    ·rename_i e; subst e; cases h; exact ⟨_, hit _ he, Z2m (Z2f _) (.v _)⟩
    ·rename_i e; cases h; exact ⟨_, hmiss (.inl ⟨_, _, he, e⟩), Z2m (Z2f z) (.v _)⟩
   ·have he := VR.val h2
    cases h; exact ⟨_, hmiss (.inr he), Z2m (Z2f z) (.v _)⟩
   ·cases h
  ·cases h
theorem Zfp {t : TypeId} {ms : Array (String × TypeId)} (h : P.underlying t = some (.interface ms)) (d : Nat) (x : Value) (z : Bool) (hx : (x = .nilIface ∧ z = true) ∨ ∃ ty v, x = .iface ty v ∧ z = false) (w : World) : (Op.equalIn (d + 1) t x .nilIface).run P w = .ok z w := by
 rcases hx with ⟨rfl, rfl⟩ | ⟨ty, v, rfl, rfl⟩ <;> simp [Op.equalIn, Go.run_underlying h, Result.andThen, Sem.run_bind]
theorem Zfa {T : List (Nat × AV)} {b : BinOp} {t t' : TypeId} {p : Operand} {x : AV} {z u : Bool} {ms : Array (String × TypeId)} [h : UD P t (.interface ms)] (ho : o.op = .binOp b t p (.const .nilIface) t') (hp : ev T p = some x) (hx : ifNil x = some z) (hb : pcmp b z = some u) :
  Eff P o T [] (.v (.bool u)) [] :=
 Z01 (by intro c; rw [ho]; nofun) fun C H a w hw hn hv => by
  have h2 := hv p (by rw [ho]; simp [Op.operands]) _ hp
  have hy : (a.eval p = .nilIface ∧ z = true) ∨ ∃ ty v, a.eval p = .iface ty v ∧ z = false := by
   unfold ifNil at hx
   split at hx
   ·cases hx
    generalize a.eval p = y at h2
    cases h2; exact .inr ⟨_, _, rfl, rfl⟩
   ·cases hx; exact .inr ⟨_, _, VR.val h2, rfl⟩
   ·cases hx; exact .inl ⟨VR.val h2, rfl⟩
   ·cases hx
  refine ⟨.bool u, ?_, .v _⟩
  have hr := fun d => Zfp h.ud d (a.eval p) z hy w
  have he : a.eval (.const .nilIface) = .nilIface := rfl
  generalize hpe : a.eval p = y at hy hr
  rcases hy with ⟨rfl, rfl⟩ | ⟨ty, v, rfl, rfl⟩ <;> cases b <;> simp only [pcmp, Option.some.injEq, reduceCtorEq] at hb <;> subst hb <;>
   simp [execOp, ho, hpe, he, eqGuard, binOp, Op.equal, Op.maxDepth, hr 9999, Result.andThen, Sem.run_bind]
inductive SRes where
 | val (x : AV) (H : Hp) (k : Nat)
 | pan (ch : List PanicEntry) (H : Hp) (k : Nat)
 | dfr (f : Nat) (cs xs : List AV)
abbrev CallF := Nat → List AV → Hp → Nat → Option (AEnd × Hp × Nat)
structure Ev where
 call : CallF
 rnd : CallF
def resOf : Option (AEnd × Hp × Nat) → Option SRes
 | some (.ret x, H, k) => some (.val x H k)
 | some (.panic ch, H, k) => some (.pan ch H k)
 | none => none
def evStep (E : Ev) (P : Program) (e : ES) (inR : Bool) (op : Op) : Option SRes := match op with
 | .call ⟨.value fo, args, ats⟩ => match evPure P e.T e.H (.call ⟨.value fo, args, ats⟩) with
  | some x => some (.val x e.H e.k)
  | none => match evT e.T fo, evTs e.T args.toList with
  | some (.fn (.func f) caps), some xs => resOf (E.call f (xs ++ caps) e.H e.k)
  | some (.yld id), some xs => resOf (E.rnd id xs e.H e.k)
  | _, _ => none
 | .panic p => match evT e.T p with
  | some x => match valA x with
   | some (.iface t v) => some (.pan [{ v := .iface t v, recovered := false }] e.H e.k)
   | _ => none
  | none => none
 | .defer ⟨.value fo, args, _⟩ => bif inR then none else match evT e.T fo, evTs e.T args.toList with
  | some (.fn (.func f) caps), some xs => some (.dfr f caps xs)
  | _, _ => none
 | .makeInterface t p => match P.underlying t, evT e.T p with
  | some d, some x => bif (match d with | .interface _ => false | _ => true) then some (.val (.ifc t x) e.H e.k) else none
  | _, _ => none
 | .typeAssert p _ ty true => match evT e.T p, P.zv ty with
  | some x, some z => match evAssert P ty x with
   | some (some y) => some (.val (.tup [y, .v (.bool true)]) e.H e.k)
   | some none => some (.val (.tup [avOf z, .v (.bool false)]) e.H e.k)
   | none => none
  | _, _ => none
 | .binOp b t p (.const .nilIface) t' => match P.underlying t, evT e.T p with
  | some (.interface _), some x => match ifNil x with
   | some z => match pcmp b z with
    | some u => some (.val (.v (.bool u)) e.H e.k)
    | none => none
   | none => none
  | _, _ => none
 | op => match evOp P e op with
  | some (x, H, k) => some (.val x H k)
  | none => none
def ECall (P : Program) (f : Nat) (xs : List AV) (H : Hp) (k : Nat) (r : AEnd) (H' : Hp) (k' : Nat) : Prop :=
 Callable P f ∧ H'.R = H.R ∧ ∀ C Hl w vs, WR C Hl w → SubH H Hl → Fr k C → VRs C xs vs →
  CallsIn (Wd none) 0 P f vs w (fun en w' => ∃ C' Hl', ER C' r en ∧ WR C' Hl' w' ∧ SubH H' Hl' ∧ Fr k' C' ∧ EX k C Hl w k' C' Hl' w')
def ERound (P : Program) (id : Nat) (xs : List AV) (H : Hp) (k : Nat) (r : AEnd) (H' : Hp) (k' : Nat) : Prop :=
 H'.R = H.R ∧ ∀ C Hl w vs l N, C.m id = some (l, N) → WR C Hl w → SubH H Hl → Fr k C → VRs C xs vs →
  ∃ fn tmps assign body, (Instr.yield l vs).run P w = .ok (.round l fn tmps assign body) w ∧
   RoundIn (Wd none) 0 P l fn tmps assign body w (fun en w' => ∃ C' Hl', ER C' r en ∧ WR C' Hl' w' ∧ SubH H' Hl' ∧ Fr k' C' ∧ EX k C Hl w k' C' Hl' w')
structure EvOk (P : Program) (E : Ev) : Prop where
 call : ∀ f xs H k r H' k', E.call f xs H k = some (r, H', k') → ECall P f xs H k r H' k'
 rnd : ∀ id xs H k r H' k', E.rnd id xs H k = some (r, H', k') → ERound P id xs H k r H' k'
def SRes.R (e : ES) : SRes → List (Tr AObj)
 | .val _ H _ => H.R
 | .pan _ H _ => H.R
 | .dfr _ _ _ => e.H.R
def StepOk (P : Program) (o : Oper) (e : ES) (r : SRes) : Prop :=
 r.R e = e.H.R ∧ ∀ C Hl n a w, SE C Hl e n a w → ∀ ro inR next R, (ro ≠ none → inR = true) →
  (match r with
   | .val x H' k' => ∀ v w1 C1 Hl1, VR C1 x v → WR C1 Hl1 w1 → SubH H' Hl1 → Fr k' C1 → EX e.k C Hl w k' C1 Hl1 w1 → next (a.put o.dst v) w1
   | .pan ch H' k' => ∀ w1 C1 Hl1, WR C1 Hl1 w1 → SubH H' Hl1 → Fr k' C1 → EX e.k C Hl w k' C1 Hl1 w1 → R (.panic ch) a w1
   | .dfr f cs xs => inR = false ∧ ∀ d cv, d.target = .fn (.func f) cv → VRs C cs cv → VRs C xs d.args → next ({ a with defers := d :: a.defers }.put o.dst undef) w) →
  o.uponIn (Wd ro) 0 P a next R ((o.semAt ro a.eval).run P w)
theorem Zeh {C : Ctx} {Hl : AHeap} {a : Act} {w : World} (hs : SE C Hl e n a w) {ps : List Operand} {xs : List AV} (h : evTs e.T ps = some xs) : VRs C xs (ps.map a.eval).toArray :=
 Z2t ps xs (by rw [Z3t]; exact h) fun p _ y hy => hs.sr.ev hy
theorem Z1q {E : Ev} {inR : Bool} {r : SRes} (hE : EvOk P E) (h : evStep E P e inR o.op = some r) (hro : ∀ f cs xs, r = .dfr f cs xs → inR = false) : StepOk P o e r := by
 have plain : ∀ {x : AV} {H' : Hp} {k' : Nat}, OpOk P o e x H' k' → StepOk P o e (.val x H' k') := fun hok => ⟨hok.1, fun C Hl n a w hs ro inR next R _ hk => hok.2 C Hl n a w hs ro next R hk⟩
 unfold evStep at h
 split at h
 ·-- a call
  rename_i fo args ats ho
  split at h
  ·rename_i x hx
   cases h
   obtain ⟨Hn, g1, g2⟩ := Z2s (o := o) (by rw [ho]; exact hx)
   exact plain (Z2d g1 g2)
  split at h
  ·rename_i f caps xs h1 h2
   cases hc : E.call f (xs ++ caps) e.H e.k with
   | none => rw [hc] at h; cases h
   | some res =>
    obtain ⟨en, H', k'⟩ := res
    have hcall := hE.call _ _ _ _ _ _ _ hc
    rw [hc] at h
    refine ⟨by cases en <;> (cases h; exact hcall.2.1), ?_⟩
    intro C Hl n a w hs ro inR next R _ hk
    obtain ⟨vs, v1, v2⟩ := Z2x (C := C) (T := e.T.ls) ho (by rw [Z0f]; exact h1) (by rw [Z3t]; exact h2) hcall.1 (fun p _ y hy => hs.sr.ev hy) ro w
    rw [v2]
    refine ⟨nofun, ?_⟩
    refine (hcall.2.2 C Hl w vs hs.sr.wr hs.hs hs.fr v1).mono ?_
    rintro en' w' ⟨C', Hl', x1, x2, x3, x4, x5⟩
    cases en with
    | ret x =>
     cases h
     cases en' with
     | returned v => exact hk v w' C' Hl' x1 x2 x3 x4 x5
     | panicked ch => exact x1.elim
     | outgrown => exact x1.elim
    | panic ch =>
     cases h
     cases en' with
     | returned v => exact x1.elim
     | panicked ch' => have e : ch' = ch := x1; subst e; exact hk w' C' Hl' x2 x3 x4 x5
     | outgrown => exact x1.elim
  ·rename_i id xs h1 h2
   cases hc : E.rnd id xs e.H e.k with
   | none => rw [hc] at h; cases h
   | some res =>
    obtain ⟨en, H', k'⟩ := res
    have hcall := hE.rnd _ _ _ _ _ _ _ hc
    rw [hc] at h
    refine ⟨by cases en <;> (cases h; exact hcall.1), ?_⟩
    intro C Hl n a w hs ro inR next R _ hk
    have v1 := Zeh hs h2
    have v3 := hs.sr.ev (show ev e.T.ls fo = some (.yld id) by rw [Z0f]; exact h1)
    generalize hf : a.eval fo = u at v3
    cases v3 with
    | yld _ l N hid hu =>
     obtain ⟨fn, tmps, assign, body, hy, hR⟩ := hcall.2 C Hl w _ l N hid hs.sr.wr hs.hs hs.fr v1
     have hrun : (o.semAt ro a.eval).run P w = .ok (.round l fn tmps assign body) w := by
      rw [Oper.semAt_eq _ _ _ (by intro c; rw [ho]; nofun)]
      have e : Array.map a.eval args = (args.toList.map a.eval).toArray := by apply Array.ext'; simp
      simp only [execOp, ho, Sem.run_bind, resolve, Deferred.ofValue, hf, Sem.run_pure, Result.andThen, invoke, e]
      simpa using hy
     rw [hrun]
     refine ⟨nofun, ?_⟩
     refine RoundIn.mono (F := Wd ro) hR ?_
     rintro en' w' ⟨C', Hl', x1, x2, x3, x4, x5⟩
     cases en with
     | ret x =>
      cases h
      cases en' with
      | returned v => exact hk v w' C' Hl' x1 x2 x3 x4 x5
      | panicked ch => exact x1.elim
      | outgrown => exact x1.elim
     | panic ch =>
      cases h
      cases en' with
      | returned v => exact x1.elim
      | panicked ch' => have e : ch' = ch := x1; subst e; exact hk w' C' Hl' x2 x3 x4 x5
      | outgrown => exact x1.elim
  ·cases h
 ·-- a panic
  rename_i p ho
  split at h
  ·rename_i x hp
   split at h
   ·rename_i t v hv
    cases h
    refine ⟨rfl, ?_⟩
    intro C Hl n a w hs ro inR next R _ hk
    have h2 := Zcz hv (hs.sr.ev (show ev e.T.ls p = some x by rw [Z0f]; exact hp))
    have hrun : (o.semAt ro a.eval).run P w = .halt (.panic (.iface t v)) w := by
     rw [Oper.semAt_eq _ _ _ (by intro c; rw [ho]; nofun)]
     simp [execOp, ho, Instr.panic, h2, goPanic, Sem.run_bind, Sem.run, Result.andThen]
    rw [hrun]
    exact hk w C Hl hs.sr.wr hs.hs hs.fr (.refl ..)
   ·cases h
  ·cases h
 ·-- a deferred call
  rename_i fo args ats ho
  cases hin : inR with
  | true => rw [hin] at h; cases h
  | false =>
   rw [hin, cond_false] at h
   split at h
   ·rename_i f caps xs h1 h2
    cases h
    refine ⟨rfl, ?_⟩
    intro C Hl n a w hs ro inR' next R hr hk
    obtain ⟨hi, hk⟩ := hk
    have hro0 : ro = none := by
     cases ro with
     | none => rfl
     | some l => have := hr nofun; rw [hi] at this; cases this
    subst hro0
    have v1 := Zeh hs h2
    have v3 := hs.sr.ev (show ev e.T.ls fo = some (.fn (.func f) caps) by rw [Z0f]; exact h1)
    generalize hf : a.eval fo = u at v3
    cases v3 with
    | fn _ _ vcaps hcl hcv =>
     have hrun : (o.semAt none a.eval).run P w = .ok (.defer { target := .fn (.func f) vcaps, args := (args.toList.map a.eval).toArray }) w := by
      rw [Oper.semAt_none]
      have e : Array.map a.eval args = (args.toList.map a.eval).toArray := by apply Array.ext'; simp
      simp only [execOp, ho, Sem.run_bind, resolve, Deferred.ofValue, hf, Sem.run_pure, Result.andThen, e]
      simp
     rw [hrun]
     exact hk _ vcaps rfl ⟨hcl, hcv⟩ v1
   ·cases h
 ·-- an interface's value
  rename_i t p ho
  split at h
  ·rename_i d x hu hp
   cases hn : (match d with | .interface _ => false | _ => true) with
   | false => rw [hn] at h; cases h
   | true =>
    rw [hn] at h; cases h
    have : UD P t d := ⟨hu⟩
    exact plain (Z2d (Z48 hn ho (by rw [Z0f]; exact hp)) nofun)
  ·cases h
 ·rename_i p t ty ho
  split at h
  ·rename_i x z hp hz
   split at h
   ·rename_i y hy; cases h; exact plain (Z2d (Z62 hz ho (by rw [Z0f]; exact hp) hy) nofun)
   ·rename_i hy; cases h; exact plain (Z2d (Z62 hz ho (by rw [Z0f]; exact hp) hy) nofun)
   ·cases h
  ·cases h
 ·rename_i b t p t' ho
  split at h
  ·rename_i ms x hu hp
   have : UD P t (.interface ms) := ⟨hu⟩
   split at h
   ·rename_i z hz
    split at h
    ·rename_i u hb; cases h; exact plain (Z2d (Zfa ho (by rw [Z0f]; exact hp) hz hb) nofun)
    ·cases h
   ·cases h
  ·cases h
 ·split at h
  ·rename_i x H k hx; cases h; exact plain (Zfg hx)
  ·cases h
end
end Go.Sx
namespace Go.Sx
open Go
mutual
def nmA (ok : Nat → Bool) : AV → Bool
 | .v _ => true
 | .agg cs => nmL ok cs
 | .tup cs => nmL ok cs
 | .lst es => nmLL ok es
 | .own id _ _ _ => ok id
 | .ptr id _ _ _ => ok id
 | .elt es _ _ => nmLL ok es
 | .fn _ cs => nmL ok cs
 | .map id => ok id
 | .ifc _ x => nmA ok x
 | .yld id => ok id
def nmL (ok : Nat → Bool) : List AV → Bool
 | [] => true
 | x :: r => bif nmA ok x then nmL ok r else false
def nmLL (ok : Nat → Bool) : List (List AV) → Bool
 | [] => true
 | x :: r => bif nmL ok x then nmLL ok r else false
end
theorem Z1j {ok : Nat → Bool} : ∀ {cs : List AV}, nmL ok cs = true → ∀ (i : Nat) (c : AV), cs[i]? = some c → nmA ok c = true
 | [], _, i, c, h => by simp at h
 | x :: r, h, i, c, hc => by
  simp only [nmL] at h
  cases hx : nmA ok x with
  | false => rw [hx] at h; cases h
  | true =>
   rw [hx] at h
   cases i with
   | zero => simp at hc; subst hc; exact hx
   | succ i => exact Z1j h i c (by simpa using hc)
theorem Z3w {ok : Nat → Bool} : ∀ {es : List (List AV)}, nmLL ok es = true → ∀ (i : Nat) (e : List AV), es[i]? = some e → nmL ok e = true
 | [], _, i, c, h => by simp at h
 | x :: r, h, i, c, hc => by
  simp only [nmLL] at h
  cases hx : nmL ok x with
  | false => rw [hx] at h; cases h
  | true =>
   rw [hx] at h
   cases i with
   | zero => simp at hc; subst hc; exact hx
   | succ i => exact Z3w h i c (by simpa using hc)
theorem Z3g {ok : Nat → Bool} {C C' : Ctx} (hhp : ∀ b o, C.hp b = some o → C'.hp b = some o) (hm : ∀ i, ok i = true → i ∈ C.U → i ∈ C'.U ∧ C'.m i = C.m i) {x : AV} {v : Value} (hx : VR C x v) : nmA ok x = true → VR C' x v := by
 induction hx with
 | v x => intro _; exact .v x
 | agg cs vs hl _ ih => intro h; exact .agg cs vs hl fun i c x h1 h2 => ih i c x h1 h2 (Z1j h i c h1)
 | tup cs vs hl _ ih => intro h; exact .tup cs vs hl fun i c x h1 h2 => ih i c x h1 h2 (Z1j h i c h1)
 | lstNil => intro _; exact .lstNil
 | lst es a sz cap cells elem fz xs hs hb hz hc _ ho hcap ih =>
  intro h
  exact .lst es a sz cap cells elem fz xs hs (fun e => hhp _ _ (hb e)) hz hc (fun i e j c h1 h2 => ih i e j c h1 h2 (Z1j (Z3w h i e h1) j c h2)) ho hcap
 | own id sz off len b N cap hid hu hcap hlen hml => intro h; exact .own id sz off len b N cap ((hm id h hu).2.trans hid) (hm id h hu).1 hcap hlen hml
 | ownNil id sz hid hu => intro h; exact .ownNil id sz ((hm id h hu).2.trans hid) (hm id h hu).1
 | ptr id sz i c b N hid hu => intro h; exact .ptr id sz i c b N ((hm id h hu).2.trans hid) (hm id h hu).1
 | elt es i c a sz cap n _ hz hi ih => intro h; exact .elt es i c a sz cap n (ih h) hz hi
 | fn f cap vs hl _ ih => intro h; exact .fn f cap vs hl fun i c x h1 h2 => ih i c x h1 h2 (Z1j h i c h1)
 | map id b N hid hu => intro h; exact .map id b N ((hm id h hu).2.trans hid) (hm id h hu).1
 | ifc t x v _ ih => intro h; exact .ifc t x v (ih h)
 | yld id l N hid hu => intro h; exact .yld id l N ((hm id h hu).2.trans hid) (hm id h hu).1
def nmM (ok : Nat → Bool) : List (Value × AV) → Bool
 | [] => true
 | (_, x) :: r => bif nmA ok x then nmM ok r else false
theorem Z6q {ok : Nat → Bool} : ∀ {es : List (Value × AV)}, nmM ok es = true → ∀ (i : Nat) (k : Value) (x : AV), es[i]? = some (k, x) → nmA ok x = true
 | [], _, i, k, x, h => by simp at h
 | (k0, y) :: r, h, i, k, x, hc => by
  simp only [nmM] at h
  cases hx : nmA ok y with
  | false => rw [hx] at h; cases h
  | true =>
   rw [hx] at h
   cases i with
   | zero => simp at hc; obtain ⟨rfl, rfl⟩ := hc; exact hx
   | succ i => exact Z6q h i k x (by simpa using hc)
def nmOb (ok : Nat → Bool) : AObj → Bool
 | .rows _ _ es => nmLL ok es
 | .mp es => nmM ok es
 | .raw _ => true
 | .dfr _ cs xs => bif nmL ok cs then nmL ok xs else false
 | .loop T _ _ _ _ _ _ => nmL ok (T.map Prod.snd)
theorem Z96 {ok : Nat → Bool} {C C' : Ctx} {id : Nat} {w : World} {ob : AObj} (hhp : ∀ b o, C.hp b = some o → C'.hp b = some o) (hm : ∀ i, ok i = true → i ∈ C.U → i ∈ C'.U ∧ C'.m i = C.m i) (h1 : C'.m id = C.m id) (h2 : C'.df id = C.df id)
  (h : OR C id w ob) (hn : nmOb ok ob = true) : OR C' id w ob := by
 cases ob with
 | rows el sz es =>
  refine ⟨h.1, ?_⟩
  rcases h.2 with ⟨a, b⟩ | ⟨b, N, cells, hb, hh, hs, hl, hc⟩
  ·exact .inl ⟨h1.trans a, b⟩
  ·exact .inr ⟨b, N, cells, h1.trans hb, hh, hs, hl, fun i e j c g1 g2 => let ⟨x, g3, g4, g5⟩ := hc i e j c g1 g2; ⟨x, g3, Z3g hhp hm g4 (Z1j (Z3w hn i e g1) j c g2), g5⟩⟩
 | mp es =>
  obtain ⟨b, N, ents, clock, hb, hh, hs, g1, g2, g3⟩ := h
  exact ⟨b, N, ents, clock, h1.trans hb, hh, hs, g1, g2, fun i k x hi => let ⟨e, a, b, c⟩ := g3 i k x hi; ⟨e, a, b, Z3g hhp hm c (Z6q hn i k x hi)⟩⟩
 | raw o =>
  obtain ⟨b, N, hb, hh⟩ := h
  exact ⟨b, N, h1.trans hb, hh⟩
 | dfr f cs xs =>
  obtain ⟨g0, d, cv, g1, g2, ⟨g3, g4⟩, g5, g6⟩ := h
  simp only [nmOb] at hn
  cases hcs : nmL ok cs with
  | false => rw [hcs] at hn; cases hn
  | true =>
   rw [hcs] at hn
   exact ⟨h1.trans g0, d, cv, h2.trans g1, g2, ⟨g3, fun i x v a b => Z3g hhp hm (g4 i x v a b) (Z1j hcs i x a)⟩, g5, fun i x v a b => Z3g hhp hm (g6 i x v a b) (Z1j hn i x a)⟩
 | loop T n ps assign body st pend =>
  obtain ⟨b, N, r, hb, hh, g1, g2, g3, g4, g5, g6, g7⟩ := h
  refine ⟨b, N, r, h1.trans hb, hh, g1, g2, g3, g4, g5, g6, fun t x ht => let ⟨v, a, b⟩ := g7 t x ht; ⟨v, a, Z3g hhp hm b ?_⟩⟩
  have hmem : ∀ (l : List (Nat × AV)), lk l t = some x → x ∈ l.map Prod.snd := by
   intro l
   induction l with
   | nil => intro h; simp [lk] at h
   | cons p l ih =>
    obtain ⟨q, y⟩ := p
    intro h
    simp only [lk] at h
    cases hb : Nat.beq q t with
    | true => rw [hb] at h; simp at h; subst h; simp
    | false => rw [hb] at h; exact List.mem_cons_of_mem _ (ih h)
  obtain ⟨i, hi⟩ := List.mem_iff_getElem?.1 (hmem T ht)
  exact Z1j hn i x hi
theorem Zd2 {ok : Nat → Bool} {C : Ctx} {q : Nat → Bool} {x : AV} {v : Value} (hx : VR C x v) (hq : ∀ i, i ∈ C.U → ok i = true → q i = true) : nmA ok x = true → nmA q x = true := by
 have all : ∀ cs : List AV, (∀ (i : Nat) (c : AV), cs[i]? = some c → nmA ok c = true → nmA q c = true) → nmL ok cs = true → nmL q cs = true := by
  intro cs
  induction cs with
  | nil => intro _ _; rfl
  | cons y r ih =>
   intro h hn
   simp only [nmL] at hn ⊢
   cases hy : nmA ok y with
   | false => rw [hy] at hn; cases hn
   | true =>
    rw [hy] at hn
    rw [h 0 y rfl hy]
    exact ih (fun i c hc => h (i + 1) c (by simpa using hc)) hn
 have all2 : ∀ es : List (List AV), (∀ (i : Nat) (e : List AV) (j : Nat) (c : AV), es[i]? = some e → e[j]? = some c → nmA ok c = true → nmA q c = true) → nmLL ok es = true → nmLL q es = true := by
  intro es
  induction es with
  | nil => intro _ _; rfl
  | cons y r ih =>
   intro h hn
   simp only [nmLL] at hn ⊢
   cases hy : nmL ok y with
   | false => rw [hy] at hn; cases hn
   | true =>
    rw [hy] at hn
    rw [all y (fun j c hc => h 0 y j c rfl hc) hy]
    exact ih (fun i e j c he hc => h (i + 1) e j c (by simpa using he) hc) hn
 induction hx with
 | v x => intro _; rfl
 | agg cs vs hl _ ih =>
  exact all cs fun i c hc => by
   have hlt : i < vs.size := by rw [← hl]; exact Z08 hc
   exact ih i c vs[i] hc (Array.getElem?_eq_getElem hlt)
 | tup cs vs hl _ ih =>
  exact all cs fun i c hc => by
   have hlt : i < vs.size := by rw [← hl]; exact Z08 hc
   exact ih i c vs[i] hc (Array.getElem?_eq_getElem hlt)
 | lstNil => intro _; rfl
 | lst es a sz cap cells elem fz xs hs hb hz hc _ ho hcap ih => exact all2 es fun i e j c he hc => ih i e j c he hc
 | own id sz off len b N cap hid hu => exact hq id hu
 | ownNil id sz hid hu => exact hq id hu
 | ptr id sz i c b N hid hu => exact hq id hu
 | elt es i c a sz cap n _ hz hi ih => exact ih
 | fn f cap vs hl _ ih =>
  exact all cap fun i c hc => by
   have hlt : i < vs.size := by rw [← hl]; exact Z08 hc
   exact ih i c vs[i] hc (Array.getElem?_eq_getElem hlt)
 | map id b N hid hu => exact hq id hu
 | ifc t x v _ ih => exact ih
 | yld id l N hid hu => exact hq id hu
theorem Zch {q : Nat → Bool} : ∀ {cs : List AV}, (∀ (i : Nat) (c : AV), cs[i]? = some c → nmA q c = true) → nmL q cs = true
 | [], _ => rfl
 | y :: r, h => by
  simp only [nmL]
  rw [h 0 y rfl]
  exact Zch fun i c hc => h (i + 1) c (by simpa using hc)
theorem Z91 {q : Nat → Bool} : ∀ {es : List (List AV)}, (∀ (i : Nat) (e : List AV), es[i]? = some e → nmL q e = true) → nmLL q es = true
 | [], _ => rfl
 | y :: r, h => by
  simp only [nmLL]
  rw [h 0 y rfl]
  exact Z91 fun i c hc => h (i + 1) c (by simpa using hc)
theorem Zci {q : Nat → Bool} : ∀ {es : List (Value × AV)}, (∀ (i : Nat) (k : Value) (x : AV), es[i]? = some (k, x) → nmA q x = true) → nmM q es = true
 | [], _ => rfl
 | (k, y) :: r, h => by
  simp only [nmM]
  rw [h 0 k y rfl]
  exact Zci fun i k c hc => h (i + 1) k c (by simpa using hc)
theorem Zfm {ok q : Nat → Bool} {C : Ctx} {id : Nat} {w : World} {ob : AObj} (h : OR C id w ob) (hp : plainOb ob = true) (hq : ∀ i, i ∈ C.U → ok i = true → q i = true) (hn : nmOb ok ob = true) : nmOb q ob = true := by
 cases ob with
 | rows el sz es =>
  refine Z91 fun i e he => Zch fun j c hc => ?_
  have h0 := Z1j (Z3w hn i e he) j c hc
  rcases h.2 with ⟨_, b⟩ | ⟨b, N, cells, hb, hh, hs, hl, hcc⟩
  ·subst b; simp at he
  ·obtain ⟨x, _, g4, _⟩ := hcc i e j c he hc
   exact Zd2 g4 hq h0
 | mp es =>
  obtain ⟨b, N, ents, clock, hb, hh, hs, g1, g2, g3⟩ := h
  refine Zci fun i k x hi => ?_
  obtain ⟨e, _, _, c⟩ := g3 i k x hi
  exact Zd2 c hq (Z6q hn i k x hi)
 | raw o => rfl
 | _ => cases hp
theorem Zbo {P : Program} {o : Oper} {T : List (Nat × AV)} {fo : Operand} {args : Array Operand} {ats : Array TypeId} {f : Nat} {caps xs : List AV} {x : AV} {Rs : List (Tr AObj)} {k k' : Nat} {H' : Hp} {Hn objs : AHeap} {okN : Nat → Bool}
  (ho : o.op = .call { callee := .value fo, args := args, argTypes := ats }) (hfo : ev T fo = some (.fn (.func f) caps)) (hxs : evs T args.toList = some xs)
  (hc : ECall P f (xs ++ caps) ⟨.lf, Rs⟩ k (.ret x) H' k') (hkM : k ≤ MM) (ha : nmL (fun i => Nat.blt i k) (xs ++ caps) = true)
  (hH1 : ∀ i ob, getR Rs i = some ob → (i, ob) ∈ Hn) (hH2 : ∀ p, p ∈ Hn → getR Rs p.1 = some p.2 ∧ p.1 < k ∧ nmOb (fun i => Nat.blt i k) p.2 = true)
  (ho1 : ∀ p, p ∈ objs → H'.get p.1 = some p.2 ∧ k ≤ p.1 ∧ nmOb okN p.2 = true) (hx : nmA okN x = true) (hok : ∀ i, okN i = true → i < k ∨ i ∈ objs.map Prod.fst) : Eff P o T Hn x objs := by
 intro Z C H a w hw hn hv hfresh hnd hZ ro next R hk
 obtain ⟨vs, v1, v2⟩ := Z2x (C := C) ho hfo hxs hc.1 hv ro w
 rw [v2]
 refine ⟨nofun, ?_⟩
 let C1 : Ctx := { hp := C.hp, m := C.m, U := C.U.filter (fun i => Nat.blt i k), df := C.df }
 have hC1U : ∀ i, i ∈ C1.U ↔ i ∈ C.U ∧ i < k := fun i => by
  show i ∈ C.U.filter _ ↔ _
  rw [List.mem_filter, Nat.blt_eq]
 have hmv : ∀ i, (fun i => Nat.blt i k) i = true → i ∈ C.U → i ∈ C1.U ∧ C1.m i = C.m i := fun i h1 h2 => ⟨(hC1U i).2 ⟨h2, by simpa [Nat.blt_eq] using h1⟩, rfl⟩
 classical
 let Hs : AHeap := H.filter (fun p => decide (p ∈ Hn))
 have hHs : ∀ p, p ∈ Hs ↔ p ∈ H ∧ p ∈ Hn := fun p => by
  show p ∈ H.filter _ ↔ _
  rw [List.mem_filter]; simp
 have hsubl : Hs.Sublist H := List.filter_sublist
 have hw1 : WR C1 Hs w := by
  refine ⟨hw.hp, (hsubl.map Prod.fst).nodup hw.nd, ?_, fun i j o o' b N N' h1 h2 => hw.inj i j o o' b N N' ((hHs _).1 h1).1 ((hHs _).1 h2).1, ?_⟩
  ·intro i ob hi
   obtain ⟨h1, h2⟩ := (hHs _).1 hi
   obtain ⟨h3, h4⟩ := hw.ids i ob h1
   obtain ⟨_, h6, h7⟩ := hH2 _ h2
   exact ⟨(hC1U i).2 ⟨h3, h6⟩, Z96 (C := C) (C' := C1) (fun _ _ h => h) hmv rfl rfl h4 h7⟩
  ·rintro b ⟨i, ob, N, hi, hm⟩
   exact hw.dis b ⟨i, ob, N, ((hHs _).1 hi).1, hm⟩
 have hsub : SubH ⟨.lf, Rs⟩ Hs := by
  intro i ob hg
  have hg' : getR Rs i = some ob := by
   unfold Hp.get at hg
   cases hr : getR Rs i with
   | some o' => simp only [hr] at hg; exact hg
   | none => simp only [hr, Tr.get, Tr.getF_lf] at hg; cases hg
  exact (hHs _).2 ⟨hn _ (hH1 i ob hg'), hH1 i ob hg'⟩
 have hfr : Fr k C1 := fun z h1 _ hm => by have := ((hC1U z).1 hm).2; omega
 have hvs : VRs C1 (xs ++ caps) vs := ⟨v1.1, fun i y u h1 h2 => Z3g (C := C) (C' := C1) (fun _ _ h => h) hmv (v1.2 i y u h1 h2) (Z1j ha i y h1)⟩
 refine (hc.2.2 C1 Hs w vs hw1 hsub hfr hvs).mono ?_
 rintro en w' ⟨C', Hl', x1, hw', hs', hf', hx'⟩
 cases en with
 | panicked ch => exact x1.elim
 | outgrown => exact x1.elim
 | returned v =>
  have x1 : VR C' x v := x1
  let C2 : Ctx := { hp := C'.hp, m := fun i => if i ∈ objs.map Prod.fst then C'.m i else C.m i, U := objs.map Prod.fst ++ C.U, df := fun i => if i ∈ objs.map Prod.fst then C'.df i else C.df i }
  have hno : ∀ i, i ∈ C.U → i ∉ objs.map Prod.fst := by
   intro i hi hm
   obtain ⟨p, hp, rfl⟩ := List.mem_map.1 hm
   exact hfresh p hp hi
  have m1 : ∀ i, i ∈ objs.map Prod.fst → C2.m i = C'.m i := fun i hi => if_pos hi
  have m2 : ∀ i, i ∉ objs.map Prod.fst → C2.m i = C.m i := fun i hi => if_neg hi
  have d1 : ∀ i, i ∈ objs.map Prod.fst → C2.df i = C'.df i := fun i hi => if_pos hi
  have hle : C.Le C2 := ⟨fun b o h => hx'.le.hp b o h, fun i hi => m2 i (hno i hi), fun i hi => List.mem_append_right _ hi, fun i hi => if_neg (hno i hi)⟩
  have hoge : ∀ i, i ∈ objs.map Prod.fst → k ≤ i := by
   intro i hi
   obtain ⟨p, hp, rfl⟩ := List.mem_map.1 hi
   exact (ho1 p hp).2.1
  -- names below k mean what they meant
  have hold : ∀ i, i < k → i ∈ C'.U → i ∈ C.U ∧ C2.m i = C'.m i := by
   intro i hi hu
   rcases hx'.nx i (by omega) hu with h1 | h1
   ·have h2 := ((hC1U i).1 h1).1
    refine ⟨h2, ?_⟩
    rw [m2 i (hno i h2), hx'.le.m i h1]
   ·omega
  have hmv2 : ∀ i, okN i = true → i ∈ C'.U → i ∈ C2.U ∧ C2.m i = C'.m i := by
   intro i h1 h2
   by_cases h4 : i ∈ objs.map Prod.fst
   ·exact ⟨List.mem_append_left _ h4, m1 i h4⟩
   ·rcases hok i h1 with h3 | h3
    ·obtain ⟨h5, h6⟩ := hold i h3 h2
     exact ⟨List.mem_append_right _ h5, h6⟩
    ·exact absurd h3 h4
  have hmv3 : ∀ i, (fun i => Nat.blt i k) i = true → i ∈ C'.U → i ∈ C2.U ∧ C2.m i = C'.m i := by
   intro i h1 h2
   obtain ⟨h5, h6⟩ := hold i (by simpa [Nat.blt_eq] using h1) h2
   exact ⟨List.mem_append_right _ h5, h6⟩
  have hobj : ∀ p, p ∈ objs → p ∈ Hl' := fun p hp => hs' p.1 p.2 (ho1 p hp).1
  have hold2 : ∀ p, p ∈ Hs → p ∈ Hl' := by
   intro p hp
   refine hs' p.1 p.2 ?_
   unfold Hp.get
   rw [hc.2.1, (hH2 p ((hHs p).1 hp).2).1]
  have hHsU : ∀ p, p ∈ Hs → p.1 ∈ C1.U := fun p hp => (hw1.ids p.1 p.2 hp).1
  have hblkHs : ∀ b, blk C1 Hs b → blk C H b := fun b ⟨i, o, N, hi, hm⟩ => ⟨i, o, N, ((hHs _).1 hi).1, hm⟩
  -- where the new things lie
  have hnewb : ∀ p b N, p ∈ objs → C'.m p.1 = some (b, N) → w.heap.size ≤ b := by
   intro p b N hp hm
   rcases hx'.x.nbl b ⟨p.1, p.2, N, hobj p hp, hm⟩ with ⟨r, ro', N', hr, hmr⟩ | h1
   ·have h2 := hold2 _ hr
    have h3 : C'.m r = some (b, N') := by rw [hx'.le.m r (hHsU _ hr)]; exact hmr
    have h4 := hw'.inj p.1 r p.2 ro' b N N' (hobj p hp) h2 hm h3
    have h5 := ((hC1U r).1 (hHsU _ hr)).2
    have h6 := (ho1 p hp).2.1
    omega
   ·exact h1
  have hother : ∀ p b N, p ∈ H → p ∉ Hs → C.m p.1 = some (b, N) → ¬ blk C1 Hs b := by
   rintro p b N hp hpn hm ⟨r, ro', N', hr, hmr⟩
   have h1 := hw.inj p.1 r p.2 ro' b N N' hp ((hHs _).1 hr).1 hm hmr
   obtain ⟨q1, q2⟩ := p
   simp only at h1
   subst h1
   -- one name, one thing
   have : q2 = ro' := by
    have hnd' := hw.nd
    obtain ⟨i1, hi1⟩ := List.mem_iff_getElem?.1 hp
    obtain ⟨i2, hi2⟩ := List.mem_iff_getElem?.1 ((hHs _).1 hr).1
    have e1 : (H.map Prod.fst)[i1]? = some q1 := by rw [List.getElem?_map, hi1]; rfl
    have e2 : (H.map Prod.fst)[i2]? = some q1 := by rw [List.getElem?_map, hi2]; rfl
    have := (List.getElem?_inj (Z08 e1) hnd').1 (e1.trans e2.symm)
    subst this
    rw [hi1] at hi2; cases hi2; rfl
   subst this
   exact hpn hr
  have hw2 : WR C2 (objs ++ H) w' := by
   refine ⟨hw'.hp, ?_, ?_, ?_, ?_⟩
   ·rw [List.map_append, List.nodup_append]
    refine ⟨hnd, hw.nd, ?_⟩
    rintro i hi j hj rfl
    obtain ⟨q, hq, rfl⟩ := List.mem_map.1 hj
    exact hno _ (hw.ids q.1 q.2 hq).1 hi
   ·intro i ob hi
    rcases List.mem_append.1 hi with hi | hi
    ·have him : i ∈ objs.map Prod.fst := List.mem_map.2 ⟨_, hi, rfl⟩
     obtain ⟨_, h4⟩ := hw'.ids i ob (hobj _ hi)
     exact ⟨List.mem_append_left _ him, Z96 (C := C') (C' := C2) (fun _ _ h => h) hmv2 (m1 i him) (d1 i him) h4 (ho1 _ hi).2.2⟩
    ·obtain ⟨h3, h4⟩ := hw.ids i ob hi
     refine ⟨List.mem_append_right _ h3, ?_⟩
     by_cases hs : (i, ob) ∈ Hs
     ·obtain ⟨_, h5⟩ := hw'.ids i ob (hold2 _ hs)
      have hiU := hHsU _ hs
      refine Z96 (C := C') (C' := C2) (fun _ _ h => h) hmv3 ?_ ?_ h5 (hH2 _ ((hHs _).1 hs).2).2.2
      ·rw [m2 i (hno i h3), hx'.le.m i hiU]
      ·show (if i ∈ objs.map Prod.fst then C'.df i else C.df i) = C'.df i
       rw [if_neg (hno i h3), hx'.le.df i hiU]
     ·exact h4.keep hle h3 fun b N hm => hx'.x.fr b (hw.lt ⟨i, ob, N, hi, hm⟩) (hother _ b N hi hs hm)
   ·intro i j o1 o2 b N N' hi hj hm1 hm2
    rcases List.mem_append.1 hi with hi | hi <;> rcases List.mem_append.1 hj with hj | hj
    ·rw [m1 i (List.mem_map.2 ⟨_, hi, rfl⟩)] at hm1
     rw [m1 j (List.mem_map.2 ⟨_, hj, rfl⟩)] at hm2
     exact hw'.inj i j o1 o2 b N N' (hobj _ hi) (hobj _ hj) hm1 hm2
    ·rw [m1 i (List.mem_map.2 ⟨_, hi, rfl⟩)] at hm1
     rw [m2 j (hno j (hw.ids j o2 hj).1)] at hm2
     have h1 := hnewb _ b N hi hm1
     have h2 := hw.lt ⟨j, o2, N', hj, hm2⟩
     omega
    ·rw [m2 i (hno i (hw.ids i o1 hi).1)] at hm1
     rw [m1 j (List.mem_map.2 ⟨_, hj, rfl⟩)] at hm2
     have h1 := hnewb _ b N' hj hm2
     have h2 := hw.lt ⟨i, o1, N, hi, hm1⟩
     omega
    ·rw [m2 i (hno i (hw.ids i o1 hi).1)] at hm1
     rw [m2 j (hno j (hw.ids j o2 hj).1)] at hm2
     exact hw.inj i j o1 o2 b N N' hi hj hm1 hm2
   ·rintro b ⟨i, ob, N, hi, hm⟩
    rcases List.mem_append.1 hi with hi | hi
    ·rw [m1 i (List.mem_map.2 ⟨_, hi, rfl⟩)] at hm
     exact hw'.dis b ⟨i, ob, N, hobj _ hi, hm⟩
    ·rw [m2 i (hno i (hw.ids i ob hi).1)] at hm
     by_cases hs : (i, ob) ∈ Hs
     ·exact hw'.dis b ⟨i, ob, N, hold2 _ hs, by rw [hx'.le.m i (hHsU _ hs)]; exact hm⟩
     ·show C'.hp b = none
      cases hb : C'.hp b with
      | none => rfl
      | some o' =>
       rcases hx'.x.nhp b o' hb with ⟨o2, h1⟩ | h1 | h1
       ·have := hw.dis b ⟨i, ob, N, hi, hm⟩
        have h1 : C.hp b = some o2 := h1
        rw [this] at h1; cases h1
       ·have := hw.lt ⟨i, ob, N, hi, hm⟩; omega
       ·exact (hother _ b N hi hs hm h1).elim
  refine hk v w' C2 (Z3g (C := C') (C' := C2) (fun _ _ h => h) hmv2 x1 hx) hw2 ⟨hle, ?_, hx'.x.os, hx'.x.tape, hx'.x.output, hx'.x.size, ?_, ?_, ?_, ?_⟩
  ·intro z hz hzu hm
   rcases List.mem_append.1 hm with h1 | h1
   ·exact hZ z hz h1
   ·exact hzu h1
  ·intro b hb hnb
   exact hx'.x.fr b hb fun h => hnb (hblkHs b h)
  ·intro b o' hb
   rcases hx'.x.nhp b o' hb with h1 | h1 | h1
   ·exact .inl h1
   ·exact .inr (.inl h1)
   ·exact .inr (.inr (hblkHs b h1))
  ·rintro b ⟨i, ob, N, hi, hm⟩
   rcases List.mem_append.1 hi with hi | hi
   ·rw [m1 i (List.mem_map.2 ⟨_, hi, rfl⟩)] at hm
    exact .inr (hnewb _ b N hi hm)
   ·rw [m2 i (hno i (hw.ids i ob hi).1)] at hm
    exact .inl ⟨i, ob, N, hi, hm⟩
  ·intro i ob hi
   rcases List.mem_append.1 hi with hi | hi
   ·exact .inr (hfresh _ hi)
   ·exact .inl ⟨ob, hi⟩
theorem Za1 {p q : Nat → Bool} (h : ∀ i, p i = true → q i = true) : ∀ x : AV, nmA p x = true → nmA q x = true := by
 intro x
 refine AV.rec (motive_1 := fun x => nmA p x = true → nmA q x = true) (motive_2 := fun l => nmL p l = true → nmL q l = true) (motive_3 := fun l => nmLL p l = true → nmLL q l = true) ?_ ?_ ?_ ?_ ?_ ?_ ?_ ?_ ?_ ?_ ?_ ?_ ?_ ?_ ?_ x
 ·intro v _; rfl
 ·intro cs ih hn; exact ih hn
 ·intro cs ih hn; exact ih hn
 ·intro es ih hn; exact ih hn
 ·intro id _ _ _ hn; exact h id hn
 ·intro id _ _ _ hn; exact h id hn
 ·intro es i c ih hn; exact ih hn
 ·intro f cs ih hn; exact ih hn
 ·intro id hn; exact h id hn
 ·intro t x ih hn; exact ih hn
 ·intro id hn; exact h id hn
 ·intro _; rfl
 ·intro y r ihy ihr hn
  simp only [nmL] at hn ⊢
  cases hy : nmA p y with
  | false => rw [hy] at hn; cases hn
  | true => rw [hy] at hn; rw [ihy hy]; exact ihr hn
 ·intro _; rfl
 ·intro y r ihy ihr hn
  simp only [nmLL] at hn ⊢
  cases hy : nmL p y with
  | false => rw [hy] at hn; cases hn
  | true => rw [hy] at hn; rw [ihy hy]; exact ihr hn
theorem Z7y {p q : Nat → Bool} (h : ∀ i, p i = true → q i = true) {ob : AObj} (hp : plainOb ob = true) (hn : nmOb p ob = true) : nmOb q ob = true := by
 cases ob with
 | rows el sz es => exact Z91 fun i e he => Zch fun j c hc => Za1 h c (Z1j (Z3w hn i e he) j c hc)
 | mp es => exact Zci fun i k x hi => Za1 h x (Z6q hn i k x hi)
 | raw o => rfl
 | _ => cases hp
def allTrF (p : AObj → Bool) : Nat → Tr AObj → Bool
 | 0, _ => true
 | _ + 1, .lf => true
 | f + 1, .nd l x r => bif (match x with | some o => p o | none => true) then (bif allTrF p f l then allTrF p f r else false) else false
theorem Z45 {p : AObj → Bool} : ∀ (f : Nat) (t : Tr AObj) (i : Nat) (ob : AObj), allTrF p f t = true → Tr.getF f t i = some ob → p ob = true
 | 0, t, i, ob, _, h => by simp [Tr.getF] at h
 | f + 1, .lf, i, ob, _, h => by simp [Tr.getF] at h
 | f + 1, .nd l x r, i, ob, ha, h => by
  simp only [allTrF] at ha
  cases hx : (match x with | some o => p o | none => true) with
  | false => rw [hx] at ha; cases ha
  | true =>
   rw [hx, cond_true] at ha
   cases hl : allTrF p f l with
   | false => rw [hl] at ha; cases ha
   | true =>
    rw [hl, cond_true] at ha
    cases i with
    | zero => simp only [Tr.getF] at h; subst h; exact hx
    | succ i =>
     simp only [Tr.getF] at h
     cases hb : Nat.beq (i % 2) 0 with
     | true => rw [hb, cond_true] at h; exact Z45 f l (i / 2) ob hl h
     | false => rw [hb, cond_false] at h; exact Z45 f r (i / 2) ob ha h
def okTabs : List (Tr AObj) → Bool
 | [] => true
 | t :: r => bif allTrF (fun o => bif plainOb o then nmOb (fun i => Nat.blt i MM) o else true) 40 t then okTabs r else false
theorem Z2w : ∀ (R : List (Tr AObj)) (i : Nat) (ob : AObj), okTabs R = true → getR R i = some ob → plainOb ob = true ∧ nmOb (fun i => Nat.blt i MM) ob = true ∧ i < MM
 | [], i, ob, _, h => by simp [getR] at h
 | t :: r, i, ob, ho, h => by
  simp only [okTabs] at ho
  cases ha : allTrF (fun o => bif plainOb o then nmOb (fun i => Nat.blt i MM) o else true) 40 t with
  | false => rw [ha] at ho; cases ho
  | true =>
   rw [ha, cond_true] at ho
   simp only [getR] at h
   split at h
   ·rename_i o hg
    cases hp : plainOb o with
    | false => rw [hp, cond_false] at h; exact Z2w r i ob ho h
    | true =>
     rw [hp] at h
     simp only [cond_true, Option.some.injEq] at h
     subst h
     have := Z45 40 t i o ha hg
     rw [hp, cond_true] at this
     refine ⟨hp, this, ?_⟩
     have h1 := Tr.get_lt 40 t i o hg
     show i < 1099511627776
     omega
   ·exact Z2w r i ob ho h
theorem Z39 : ∀ (R : List (Tr AObj)) (t : Tr AObj) (i : Nat) (ob : AObj), getR (R ++ [t]) i = some ob → getR R i = some ob ∨ (getR R i = none ∧ t.get i = some ob)
 | [], t, i, ob, h => by
  simp only [List.nil_append, getR] at h
  split at h
  ·rename_i o hg
   cases hp : plainOb o with
   | false => rw [hp] at h; cases h
   | true => rw [hp] at h; simp only [cond_true, Option.some.injEq] at h; subst h; exact .inr ⟨rfl, hg⟩
  ·cases h
 | s :: R, t, i, ob, h => by
  simp only [List.cons_append, getR] at h ⊢
  split at h
  ·rename_i o hg
   cases hp : plainOb o with
   | false =>
    rw [hp, cond_false] at h
    simp only [cond_false]
    exact Z39 R t i ob h
   | true => rw [hp] at h; simp only [cond_true] at h ⊢; exact .inl h
  ·rename_i hg
   exact Z39 R t i ob h
theorem Hp.get_tab {H : Hp} {i : Nat} {ob : AObj} (h : getR (H.R ++ [H.H]) i = some ob) : H.get i = some ob := by
 unfold Hp.get
 rcases Z39 _ _ _ _ h with h1 | ⟨h1, h2⟩
 ·rw [h1]
 ·rw [h1]; exact h2
theorem mem_lsOf {α : Type} {f : Nat → Option α} {l : List Nat} {i : Nat} {x : α} : (i, x) ∈ lsOf f l ↔ i ∈ l ∧ f i = some x := by
 unfold lsOf
 rw [List.mem_filterMap]
 constructor
 ·rintro ⟨t, h1, h2⟩
  cases hf : f t with
  | none => rw [hf] at h2; cases h2
  | some y =>
   rw [hf] at h2
   simp only [Option.map_some, Option.some.injEq, Prod.mk.injEq] at h2
   obtain ⟨rfl, rfl⟩ := h2
   exact ⟨h1, hf⟩
 ·rintro ⟨h1, h2⟩
  exact ⟨i, h1, by rw [h2]; rfl⟩
def newObs (H : Hp) (k n : Nat) : AHeap := lsOf H.get (List.range' k n)
def evCallC (E : Ev) (T : Tr AV) (k : Nat) (H0 : Hp) (op : Op) : Option (AV × AHeap × Nat) := match op with
 | .call ⟨.value fo, args, _⟩ => match evT T fo, evTs T args.toList with
  | some (.fn (.func f) caps), some xs => bif Nat.ble k MM && nmL (fun i => Nat.blt i k) (xs ++ caps) && okTabs (H0.R ++ [H0.H]) then (match E.call f (xs ++ caps) ⟨.lf, H0.R ++ [H0.H]⟩ k with
   | some (.ret x, H', k') => bif Nat.ble k k' then (bif nmA (fun i => Nat.blt i k) x then some (x, [], k')
    else bif nmA (fun i => Nat.blt i k || (newObs H' k (k' - k)).any (fun p => Nat.beq p.1 i)) x && (newObs H' k (k' - k)).all (fun p => nmOb (fun i => Nat.blt i k || (newObs H' k (k' - k)).any (fun p => Nat.beq p.1 i)) p.2) && Nat.ble k' MM then some (x, newObs H' k (k' - k), k') else none) else none
   | _ => none) else none
  | _, _ => none
 | _ => none
theorem Zao {P : Program} {E : Ev} (hE : EvOk P E) {o : Oper} {T : Tr AV} {k k' : Nat} {H0 : Hp} {x : AV} {objs : AHeap} (h : evCallC E T k H0 o.op = some (x, objs, k'))
  (hold : okTabs (H0.R ++ [H0.H]) = true → ∀ i ob, getR (H0.R ++ [H0.H]) i = some ob → i < k ∧ nmOb (fun i => Nat.blt i k) ob = true) :
  ∃ Hn, Eff P o T.ls Hn x objs ∧ (∀ p, p ∈ Hn → H0.get p.1 = some p.2) ∧ (∀ p, p ∈ objs → k ≤ p.1 ∧ p.1 < k' ∧ p.1 < MM) ∧ (objs.map Prod.fst).Nodup ∧ k ≤ k' := by
 unfold evCallC at h
 split at h
 ·rename_i fo args ats ho
  split at h
  ·rename_i f caps xs h1 h2
   cases hc0 : (Nat.ble k MM && nmL (fun i => Nat.blt i k) (xs ++ caps) && okTabs (H0.R ++ [H0.H])) with
   | false => rw [hc0] at h; cases h
   | true =>
    rw [hc0, cond_true] at h
    rw [Bool.and_eq_true, Bool.and_eq_true] at hc0
    obtain ⟨⟨c1, c2⟩, c3⟩ := hc0
    have hold := hold c3
    split at h
    ·rename_i y H' k1 hcall
     have hec := hE.call _ _ _ _ _ _ _ hcall
     cases hkb : Nat.ble k k1 with
     | false => rw [hkb] at h; cases h
     | true =>
     rw [hkb, cond_true] at h
     have hkk : k ≤ k1 := Nat.le_of_ble_eq_true hkb
     have main : ∀ (obs : AHeap) (okN : Nat → Bool), (∀ p, p ∈ obs → H'.get p.1 = some p.2 ∧ k ≤ p.1 ∧ nmOb okN p.2 = true) → nmA okN y = true → (∀ i, okN i = true → i < k ∨ i ∈ obs.map Prod.fst) →
       ∃ Hn, Eff P o T.ls Hn y obs ∧ ∀ p, p ∈ Hn → H0.get p.1 = some p.2 := by
      intro obs okN g1 g2 g3
      refine ⟨lsOf (getR (H0.R ++ [H0.H])) (List.range MM), Zbo ho (by rw [Z0f]; exact h1) (by rw [Z3t]; exact h2) hec (Nat.le_of_ble_eq_true c1) c2 ?_ ?_ g1 g2 g3, ?_⟩
      ·intro i ob hi
       exact mem_lsOf.2 ⟨List.mem_range.2 (Z2w _ i ob c3 hi).2.2, hi⟩
      ·rintro ⟨i, ob⟩ hp
       have hi := (mem_lsOf.1 hp).2
       exact ⟨hi, (hold i ob hi).1, (hold i ob hi).2⟩
      ·rintro ⟨i, ob⟩ hp
       exact Hp.get_tab (mem_lsOf.1 hp).2
     cases hx : nmA (fun i => Nat.blt i k) y with
     | true =>
      rw [hx] at h
      cases h
      obtain ⟨Hn, g1, g2⟩ := main [] (fun i => Nat.blt i k) nofun hx (fun i hi => .inl (by simpa [Nat.blt_eq] using hi))
      exact ⟨Hn, g1, g2, nofun, List.nodup_nil, hkk⟩
     | false =>
      rw [hx, cond_false] at h
      cases hc1 : (nmA (fun i => Nat.blt i k || (newObs H' k (k1 - k)).any (fun p => Nat.beq p.1 i)) y && (newObs H' k (k1 - k)).all (fun p => nmOb (fun i => Nat.blt i k || (newObs H' k (k1 - k)).any (fun p => Nat.beq p.1 i)) p.2) && Nat.ble k1 MM) with
      | false => rw [hc1] at h; cases h
      | true =>
       rw [hc1] at h
       cases h
       rw [Bool.and_eq_true, Bool.and_eq_true] at hc1
       obtain ⟨⟨d1, d2⟩, d3⟩ := hc1
       have hmem : ∀ p, p ∈ newObs H' k (k' - k) → H'.get p.1 = some p.2 ∧ k ≤ p.1 ∧ p.1 < k' := by
        rintro ⟨i, ob⟩ hp
        obtain ⟨g1, g2⟩ := mem_lsOf.1 hp
        have := List.mem_range'_1.1 g1
        exact ⟨g2, this.1, by omega⟩
       obtain ⟨Hn, g1, g2⟩ := main (newObs H' k (k' - k)) _ (fun p hp => ⟨(hmem p hp).1, (hmem p hp).2.1, List.all_eq_true.1 d2 p hp⟩) d1 (fun i hi => by
        rw [Bool.or_eq_true, Nat.blt_eq] at hi
        rcases hi with hi | hi
        ·exact .inl hi
        ·obtain ⟨p, hp, hpe⟩ := List.any_eq_true.1 hi
         exact .inr (List.mem_map.2 ⟨p, hp, Nat.eq_of_beq_eq_true hpe⟩))
       refine ⟨Hn, g1, g2, fun p hp => ⟨(hmem p hp).2.1, (hmem p hp).2.2, ?_⟩, ?_, hkk⟩
       ·have := (hmem p hp).2.2
        have := Nat.le_of_ble_eq_true d3
        omega
       ·have : ∀ l : List Nat, l.Nodup → ((lsOf H'.get l).map Prod.fst).Nodup := by
         intro l hl
         have hs : ((lsOf H'.get l).map Prod.fst).Sublist l := by
          clear hl
          induction l with
          | nil => exact List.Sublist.slnil
          | cons a l ih =>
           unfold lsOf at ih ⊢
           cases hf : H'.get a with
           | none => rw [List.filterMap_cons_none (by rw [hf]; rfl)]; exact ih.cons a
           | some z => rw [List.filterMap_cons_some (by rw [hf]; rfl), List.map_cons]; exact ih.cons_cons a
         exact hs.nodup hl
        exact this _ (List.nodup_range' ..)
    ·cases h
  ·cases h
 ·cases h
end Go.Sx
namespace Go.Sx
open Go
def eqV : Value → Value → Bool
 | .bool a, .bool b => a == b
 | .int k a, .int l b => decide (k = l) && decide (a = b)
 | .string a, .string b => decide (a.data.toList = b.data.toList)
 | .pointer none, .pointer none => true
 | .slice none a b, .slice none c d => Nat.beq a c && Nat.beq b d
 | .map none, .map none => true
 | .nilFunc, .nilFunc => true
 | .nilIface, .nilIface => true
 | _, _ => false
theorem Zdp {x y : Value} (h : eqV x y = true) : x = y := by
 unfold eqV at h
 split at h
 ·simp at h; rw [h]
 ·simp at h; rw [h.1, h.2]
 ·rename_i a b
  have h := of_decide_eq_true h
  have h2 : a.data = b.data := Array.ext' h
  cases a; cases b; simp at h2; rw [h2]
 ·rfl
 ·simp at h; rw [h.1, h.2]
 ·rfl
 ·rfl
 ·rfl
 ·cases h
mutual
def eqA : AV → AV → Bool
 | .v x, .v y => eqV x y
 | .agg a, .agg b => eqL a b
 | .tup a, .tup b => eqL a b
 | .lst a, .lst b => eqLL a b
 | .own a b c d, .own e f g h => Nat.beq a e && (Nat.beq b f && (Nat.beq c g && Nat.beq d h))
 | .ptr a b c d, .ptr e f g h => Nat.beq a e && (Nat.beq b f && (Nat.beq c g && Nat.beq d h))
 | .elt a b c, .elt d e f => eqLL a d && (Nat.beq b e && Nat.beq c f)
 | .fn (.func f) a, .fn (.func g) b => Nat.beq f g && eqL a b
 | .map a, .map b => Nat.beq a b
 | .ifc t x, .ifc u y => Nat.beq t u && eqA x y
 | .yld a, .yld b => Nat.beq a b
 | _, _ => false
def eqL : List AV → List AV → Bool
 | [], [] => true
 | x :: r, y :: s => eqA x y && eqL r s
 | _, _ => false
def eqLL : List (List AV) → List (List AV) → Bool
 | [], [] => true
 | x :: r, y :: s => eqL x y && eqLL r s
 | _, _ => false
end
mutual
theorem Z9j : ∀ (x y : AV), eqA x y = true → x = y
 | .v x, y, h => by cases y <;> simp_all [eqA]; exact Zdp h
 | .agg a, y, h => by cases y <;> simp_all [eqA]; exact Z3p _ _ h
 | .tup a, y, h => by cases y <;> simp_all [eqA]; exact Z3p _ _ h
 | .lst a, y, h => by cases y <;> simp_all [eqA]; exact Z3o _ _ h
 | .own a b c d, y, h => by cases y <;> simp_all [eqA]
 | .ptr a b c d, y, h => by cases y <;> simp_all [eqA]
 | .elt a b c, y, h => by
  cases y <;> simp_all [eqA]
  exact Z3o _ _ h.1
 | .fn f a, y, h => by
  cases y with
  | fn g b =>
   cases f <;> cases g <;> simp_all [eqA]
   exact Z3p _ _ h.2
  | _ => cases f <;> simp [eqA] at h
 | .map a, y, h => by cases y <;> simp_all [eqA]
 | .ifc t x, y, h => by
  cases y <;> simp_all [eqA]
  exact Z9j _ _ h.2
 | .yld a, y, h => by cases y <;> simp_all [eqA]
theorem Z3p : ∀ (x y : List AV), eqL x y = true → x = y
 | [], [], _ => rfl
 | [], _ :: _, h => by simp [eqL] at h
 | _ :: _, [], h => by simp [eqL] at h
 | a :: r, b :: s, h => by
  simp only [eqL, Bool.and_eq_true] at h
  rw [Z9j a b h.1, Z3p r s h.2]
theorem Z3o : ∀ (x y : List (List AV)), eqLL x y = true → x = y
 | [], [], _ => rfl
 | [], _ :: _, h => by simp [eqLL] at h
 | _ :: _, [], h => by simp [eqLL] at h
 | a :: r, b :: s, h => by
  simp only [eqLL, Bool.and_eq_true] at h
  rw [Z3p a b h.1, Z3o r s h.2]
end
def eqOb : AObj → AObj → Bool
 | .rows a b c, .rows d e f => Nat.beq a d && (Nat.beq b e && eqLL c f)
 | _, _ => false
theorem Zbr {x y : AObj} (h : eqOb x y = true) : x = y := by
 unfold eqOb at h
 split at h
 ·simp only [Bool.and_eq_true] at h
  rw [Nat.eq_of_beq_eq_true h.1, Nat.eq_of_beq_eq_true h.2.1, Z3o _ _ h.2.2]
 ·cases h
end Go.Sx
namespace Go.Sx
open Go
theorem Zdh (id : Nat) {f : Fn} {cs xs : List AV} {d : Deferred} {cv : Array Value} {Z : List Nat} {C : Ctx} {H : AHeap} {w : World} (hw : WR C H w) (hid' : id ∉ C.U) (hZ : id ∉ Z) (ht : d.target = .fn f cv) (hcs : VRs C cs cv) (hxs : VRs C xs d.args) :
  ∃ C', WR C' ((id, .dfr f cs xs) :: H) w ∧ Ext Z C H w C' ((id, .dfr f cs xs) :: H) w ∧ mark C' id = d ∧ id ∈ C'.U := by
 let C' : Ctx := { hp := C.hp, m := fun i => if i = id then none else C.m i, U := id :: C.U, df := fun i => if i = id then some d else C.df i }
 have hm0 : C'.m id = none := if_pos rfl
 have hd0 : C'.df id = some d := if_pos rfl
 have hm : ∀ i, i ≠ id → C'.m i = C.m i := fun i hi => if_neg hi
 have hle : C.Le C' := ⟨fun _ _ h => h, fun i hi => hm i (by rintro rfl; exact hid' hi), fun i hi => List.mem_cons_of_mem _ hi, fun i hi => if_neg (by rintro rfl; exact hid' hi)⟩
 have hother : ∀ i o, (i, o) ∈ H → i ≠ id := by rintro i o hi rfl; exact hid' (hw.ids i o hi).1
 have hblk : ∀ b, blk C' ((id, .dfr f cs xs) :: H) b → blk C H b := by
  rintro b ⟨i, o, N, hi, hmi⟩
  rcases List.mem_cons.1 hi with h2 | h2
  ·cases h2; rw [hm0] at hmi; cases hmi
  ·rw [hm i (hother i o h2)] at hmi; exact ⟨i, o, N, h2, hmi⟩
 refine ⟨C', ⟨hw.hp, ?_, ?_, ?_, fun b hb => hw.dis b (hblk b hb)⟩, ⟨hle, ?_, rfl, rfl, rfl, Nat.le_refl _, fun _ _ _ => rfl, fun _ o h => .inl ⟨o, h⟩, fun b hb => .inl (hblk b hb), ?_⟩, ?_, List.mem_cons_self⟩
 ·simp only [List.map_cons, List.nodup_cons]
  refine ⟨fun hmem => ?_, hw.nd⟩
  obtain ⟨⟨i, o⟩, hi, he⟩ := List.mem_map.1 hmem
  exact hother i o hi he
 ·intro i o hi
  rcases List.mem_cons.1 hi with h2 | h2
  ·cases h2
   exact ⟨List.mem_cons_self, hm0, d, cv, hd0, ht, ⟨hcs.1, fun i x v a b => (hcs.2 i x v a b).mono hle⟩, hxs.1, fun i x v a b => (hxs.2 i x v a b).mono hle⟩
  ·obtain ⟨h3, h4⟩ := hw.ids i o h2
   exact ⟨hle.U i h3, h4.keep hle h3 (fun _ _ _ => rfl)⟩
 ·intro i j o o' b N N' hi hj h2 h3
  rcases List.mem_cons.1 hi with h4 | h4
  ·cases h4; rw [hm0] at h2; cases h2
  ·rcases List.mem_cons.1 hj with h5 | h5
   ·cases h5; rw [hm0] at h3; cases h3
   ·rw [hm i (hother i o h4)] at h2; rw [hm j (hother j o' h5)] at h3
    exact hw.inj i j o o' b N N' h4 h5 h2 h3
 ·intro z hz hzu hmem
  rcases List.mem_cons.1 hmem with h2 | h2
  ·exact hZ (h2 ▸ hz)
  ·exact hzu h2
 ·intro i o hi
  rcases List.mem_cons.1 hi with h2 | h2
  ·cases h2; exact .inr hid'
  ·exact .inl ⟨o, h2⟩
 ·simp [mark, hm0, hd0]
def EPost (k0 : Nat) (C0 : Ctx) (H0 : AHeap) (w0 : World) (x : Exit) (e' : ES) (n : Nat) : Exit → Act → World → Prop :=
 fun x' a' w' => x' = x ∧ ∃ C' Hl', SE C' Hl' e' n a' w' ∧ EX k0 C0 H0 w0 e'.k C' Hl' w'
section
variable {P : Program} {n : Nat}
def evOps (E : Ev) (P : Program) (n : Nat) (inR : Bool) (ops : Array Oper) : List Oper → ES → Option (Exit × ES)
 | [], e => some (.normal, e)
 | o :: r, e => bif dok o.dst n then (match wantG ops e.T o.guard with
  | none => none
  | some false => evOps E P n inR ops r { e with T := putT e.T o.dst (.v undef) }
  | some true => match evStep E P e inR o.op with
   | some (.val x H k) => evOps E P n inR ops r ⟨putT e.T o.dst x, H, e.D, k⟩
   | some (.pan ch H k) => some (.panic ch, ⟨e.T, H, e.D, k⟩)
   | some (.dfr f cs xs) => bif inR then none else bif Nat.blt e.k MM then evOps E P n inR ops r ⟨putT e.T o.dst (.v undef), e.H.put e.k (some (.dfr (.func f) cs xs)), e.k :: e.D, e.k + 1⟩ else none
   | none => none) else none
theorem Z3s {E : Ev} (hE : EvOk P E) {inR : Bool} {ro : Option Nat} (hro : ro ≠ none → inR = true) {ops : Array Oper} {k0 : Nat} {C0 : Ctx} {H0 : AHeap} {w0 : World} {x : Exit} {e' : ES} : ∀ (l : List Oper) (e : ES), evOps E P n inR ops l e = some (x, e') →
  ∀ k, ops.toList.drop k = l → ∀ C Hl a w, SE C Hl e n a w → EX k0 C0 H0 w0 e.k C Hl w → wpOpsIn (Wd ro) 0 P ops (EPost k0 C0 H0 w0 x e' n) (List.range' k l.length) a w
 | [], e, h, k, hk, C, Hl, a, w, hs, hx => by
  simp only [evOps, Option.some.injEq, Prod.mk.injEq] at h
  obtain ⟨rfl, rfl⟩ := h
  simp only [List.length_nil, List.range'_zero, wpOpsIn]
  exact ⟨rfl, C, Hl, hs, hx⟩
 | o :: r, e, h, k, hk, C, Hl, a, w, hs, hx => by
  obtain ⟨h1, h2⟩ := Z07 hk
  have ho : ops[k]? = some o := by rw [← Array.getElem?_toList]; exact h1
  rw [List.length_cons, List.range'_succ, wpOpsIn_cons]
  unfold wpOpIn
  simp only [ho]
  simp only [evOps] at h
  cases hd : dok o.dst n with
  | false => rw [hd] at h; cases h
  | true =>
   rw [hd, cond_true] at h
   split at h
   ·cases h
   ·rename_i hg
    have hw := Z32 hg
    simp only [hs.sr.wanted (s := ⟨e.T.ls, Hl, e.D, n⟩) hw, Bool.false_eq_true, if_false]
    exact ⟨fun _ _ => trivial, Z3s hE hro r _ h (k + 1) h2 C Hl _ w (hs.next hd (.refl C) (.v undef) hs.sr.wr hs.hs hs.fr) hx⟩
   ·rename_i hg
    have hw := Z32 hg
    simp only [hs.sr.wanted (s := ⟨e.T.ls, Hl, e.D, n⟩) hw, if_true]
    refine ⟨fun _ _ => trivial, ?_⟩
    split at h
    ·rename_i x1 H k1 hst
     refine (Z1q hE hst (fun _ _ _ h => by cases h)).2 C Hl n a w hs ro inR _ _ hro ?_
     intro v w1 C1 Hl1 hv hw1 hh hf hx1
     exact Z3s hE hro r _ h (k + 1) h2 C1 Hl1 _ w1 (hs.next hd hx1.le hv hw1 hh hf) (hx.trans hx1)
    ·rename_i ch H k1 hst
     cases h
     refine (Z1q hE hst (fun _ _ _ h => by cases h)).2 C Hl n a w hs ro inR _ _ hro ?_
     intro w1 C1 Hl1 hw1 hh hf hx1
     refine ⟨rfl, C1, Hl1, ⟨⟨hw1, fun t y hy => let ⟨v, a1, a2⟩ := hs.sr.sl t y hy; ⟨v, a1, a2.mono hx1.le⟩, ?_, fun i hi => hx1.le.U i (hs.sr.du i hi), hs.sr.sz⟩, hh, hf⟩, hx.trans hx1⟩
     rw [hs.sr.df]
     exact List.map_congr_left fun i hi => by simp [mark, hx1.le.m i (hs.sr.du i hi), hx1.le.df i (hs.sr.du i hi)]
    ·rename_i f cs xs hst
     cases hin : inR with
     | true => rw [hin] at h; cases h
     | false =>
      rw [hin, cond_false] at h
      cases hk1 : Nat.blt e.k MM with
      | false => rw [hk1] at h; cases h
      | true =>
       rw [hk1, cond_true] at h
       rw [hin] at hst hro
       refine (Z1q hE hst (fun _ _ _ _ => rfl)).2 C Hl n a w hs ro false _ _ hro ?_
       refine ⟨rfl, fun d cv hd1 hd2 hd3 => ?_⟩
       have hlt : e.k < MM := by rwa [Nat.blt_eq] at hk1
       obtain ⟨C1, g1, g2, g3, g4⟩ := Zdh (Z := Zx e.k (e.k + 1)) e.k hs.sr.wr (hs.fr e.k (Nat.le_refl _) hlt) (fun h => by have := (mem_Zx.1 h).2; omega) hd1 hd2 hd3
       refine Z3s hE hro r _ h (k + 1) h2 C1 _ _ w ?_ (hx.trans (g2.ex (Nat.le_succ _)))
       refine ⟨⟨g1, ?_, ?_, ?_, ?_⟩, hs.hs.put (hs.hs.free hs.sr.wr hs.fr (Nat.le_refl _) hlt) List.mem_cons_self fun i o' _ h => List.mem_cons_of_mem _ h, (g2.ex (Nat.le_succ _)).fr hs.fr⟩
       ·have hsr := (hs.sr.put g2.le g1 (Z0k hd) (VR.v (C := C1) undef)).lks (T' := (putT e.T o.dst (.v undef)).ls) fun t y hy => Zc8 hy
        intro t y hy
        obtain ⟨v, a1, a2⟩ := hsr.sl t y hy
        refine ⟨v, ?_, a2⟩
        rw [← a1]
        cases o.dst <;> rfl
       ·have : ({ a with defers := d :: a.defers }.put o.dst undef).defers = d :: a.defers := by cases o.dst <;> rfl
        rw [this, hs.sr.df]
        simp only [List.map_cons, g3]
        congr 1
        exact List.map_congr_left fun i hi => by simp [mark, g2.le.m i (hs.sr.du i hi), g2.le.df i (hs.sr.du i hi)]
       ·intro i hi
        rcases List.mem_cons.1 hi with rfl | hi
        ·exact g4
        ·exact g2.le.U i (hs.sr.du i hi)
       ·have : ({ a with defers := d :: a.defers }.put o.dst undef).tmps.size = a.tmps.size := by cases o.dst <;> simp [Act.put]
        rw [this]; exact hs.sr.sz
    ·cases h
theorem Z5a {E : Ev} (hE : EvOk P E) {inR : Bool} {ops : Array Oper} {x : Exit} {e' : ES} : ∀ (l : List Oper) (e : ES), evOps E P n inR ops l e = some (x, e') → e'.H.R = e.H.R
 | [], e, h => by simp only [evOps, Option.some.injEq, Prod.mk.injEq] at h; obtain ⟨rfl, rfl⟩ := h; rfl
 | o :: r, e, h => by
  simp only [evOps] at h
  cases hd : dok o.dst n with
  | false => rw [hd] at h; cases h
  | true =>
   rw [hd, cond_true] at h
   split at h
   ·cases h
   ·exact Z5a hE r { e with T := putT e.T o.dst (.v undef) } h
   ·split at h
    ·rename_i x1 H k1 hst
     have h1 := (Z1q hE hst (fun _ _ _ h => by cases h)).1
     exact (Z5a hE r ⟨putT e.T o.dst x1, H, e.D, k1⟩ h).trans h1
    ·rename_i ch H k1 hst
     cases h
     exact (Z1q hE hst (fun _ _ _ h => by cases h)).1
    ·rename_i f cs xs hst
     cases hin : inR with
     | true => rw [hin] at h; cases h
     | false =>
      rw [hin, cond_false] at h
      cases hk1 : Nat.blt e.k MM with
      | false => rw [hk1] at h; cases h
      | true =>
       rw [hk1, cond_true] at h
       exact Z5a hE r ⟨putT e.T o.dst (.v undef), e.H.put e.k (some (.dfr (.func f) cs xs)), e.k :: e.D, e.k + 1⟩ h
    ·cases h
def EOkW (P : Program) (ro : Option Nat) (n : Nat) (c : Code) (e : ES) (x : Exit) (e' : ES) : Prop :=
 ∀ C Hl a w, SE C Hl e n a w → c.wpIn (Wd ro) 0 P (EPost e.k C Hl w x e' n) a w
def EOk (P : Program) (ro : Option Nat) (n : Nat) (c : Code) (e : ES) (x : Exit) (e' : ES) : Prop := e'.H.R = e.H.R ∧ EOkW P ro n c e x e'
theorem EPost.from {k0 k : Nat} {C0 C : Ctx} {H0 Hl : AHeap} {w0 w : World} {x : Exit} {e' : ES} {x' : Exit} {a' : Act} {w' : World} (hx : EX k0 C0 H0 w0 k C Hl w) (h : EPost k C Hl w x e' n x' a' w') : EPost k0 C0 H0 w0 x e' n x' a' w' :=
 let ⟨h1, C', Hl', h2, h3⟩ := h; ⟨h1, C', Hl', h2, hx.trans h3⟩
def evRounds (f : ES → Option (Exit × ES)) : Nat → ES → Option (Exit × ES)
 | 0, _ => none
 | m + 1, e => match f e with
  | some (.normal, e') => evRounds f m e'
  | r => r
def mskOf (ms : List Nat) (o : Oper) : Nat := o.after.foldl (fun m e => bif Region.binds .any e then m ||| (1 <<< e.on) ||| ms.getD e.on 0 else m) 0
def msksOf (l : List Oper) : List Nat := l.foldl (fun ms o => ms ++ [mskOf ms o]) []
theorem Eff.more {o : Oper} {T T' : List (Nat × AV)} {Hn On : AHeap} {x : AV} (h : Eff P o T Hn x On) (ht : ∀ t y, lk T t = some y → lk T' t = some y) : Eff P o T' Hn x On := by
 have hev : ∀ p y, ev T p = some y → ev T' p = some y := by
  intro p y hy
  cases p with
  | tmp t => exact ht t y hy
  | const c => exact hy
  | func f => exact hy
  | global g => exact hy
 intro Z C H a w hw hn hv
 exact h Z C H a w hw hn fun p hp y hy => hv p hp y (hev p y hy)
theorem Wanted.more {ops : Array Oper} {T T' : List (Nat × AV)} {o : Oper} {b : Bool} (h : Wanted ops T o b) (ht : ∀ t y, lk T t = some y → lk T' t = some y) : Wanted ops T' o b := by
 rcases h with h | ⟨g, c, d, og, t, h1, h2, h3, ⟨h4, h5⟩ | ⟨h4, h5⟩⟩
 ·exact .inl h
 ·exact .inr ⟨g, c, d, og, t, h1, h2, h3, .inl ⟨ht _ _ h4, h5⟩⟩
 ·exact .inr ⟨g, c, d, og, t, h1, h2, h3, .inr ⟨ht _ _ h4, h5⟩⟩
def Agree (T : Tr AV) (l : List (Nat × AV)) : Prop := ∀ t y, T.get t = some y → lk l t = some y
theorem Agree.ls {T : Tr AV} {l : List (Nat × AV)} (h : Agree T l) : ∀ t y, lk T.ls t = some y → lk l t = some y := fun t y hy => h t y (by rw [← Tr.lk_ls]; exact hy)
theorem Agree.put {T : Tr AV} {l : List (Nat × AV)} (h : Agree T l) {d : Option Nat} {x : AV} : Agree (putT T d x) (Sx.put l d x) := by
 intro t y hy
 cases d with
 | none => exact h t y hy
 | some d =>
  simp only [Sx.put, lk]
  rcases Tr.put_get hy with ⟨rfl, e⟩ | ⟨hne, e⟩
  ·cases e; simp
  ·have hb : Nat.beq d t = false := by
    cases hb : Nat.beq d t with
    | true => exact absurd (Nat.eq_of_beq_eq_true hb).symm hne
    | false => rfl
   rw [hb, cond_false]; exact h t y e
def putObs (H : Hp) : AHeap → Hp
 | [] => H
 | (i, ob) :: r => putObs (H.put i (some ob)) r
def HatM (ms : List Nat) (i : Nat) (H : Hp) : List (Nat × AHeap) → Hp
 | [] => H
 | (j, obs) :: r => bif bitOf ms i j then putObs (HatM ms i H r) obs else HatM ms i H r
def addM (i : Nat) (obs : AHeap) (k1 : Nat) (M : List (Nat × AHeap)) : List (Nat × AHeap) :=
 bif obs.isEmpty then M else bif obs.all (fun p => Nat.blt p.1 k1 && (plainOb p.2 && nmOb (fun i => Nat.blt i k1) p.2)) then (i, obs) :: M else M
def confl (ops : Array Oper) (i : Nat) : Option Nat → Bool
 | none => false
 | some t => (List.range i).any fun j => match ops[j]? with
  | some o => o.dst == some t || (o.looksAt ops).contains t
  | none => false
def evCalm (E : Ev) (P : Program) (n : Nat) (ops : Array Oper) (ms : List Nat) (H0 : Hp) : Nat → List (Nat × AHeap) → List Oper → ES → Option (ES × List (AV × AHeap) × List Oper)
 | _, _, [], e => some (e, [], [])
 | i, M, o :: r, e => bif dok o.dst n then (bif confl ops i o.dst then some (e, [], o :: r) else match wantG ops e.T o.guard with
  | none => none
  | some false => match evCalm E P n ops ms H0 (i + 1) M r { e with T := putT e.T o.dst (.v undef) } with
   | some (e', rs, tl) => some (e', (.v undef, []) :: rs, tl)
   | none => none
  | some true => match evPureL P e.T (HatM ms i H0 M) o.op with
   | some x => match evCalm E P n ops ms H0 (i + 1) M r { e with T := putT e.T o.dst x } with
    | some (e', rs, tl) => some (e', (x, []) :: rs, tl)
    | none => none
   | none => match evNew P e.T e.k o.op with
    | some (x, ob) => bif Nat.blt e.k MM then (match evCalm E P n ops ms H0 (i + 1) (addM i [(e.k, ob)] (e.k + 1) M) r ⟨putT e.T o.dst x, e.H.put e.k (some ob), e.D, e.k + 1⟩ with
     | some (e', rs, tl) => some (e', (x, [(e.k, ob)]) :: rs, tl)
     | none => none) else none
    | none => match evCallC E e.T e.k (HatM ms i H0 M) o.op with
     | some (x, obs, k') => match evCalm E P n ops ms H0 (i + 1) (addM i obs k' M) r ⟨putT e.T o.dst x, putObs e.H obs, e.D, k'⟩ with
      | some (e', rs, tl) => some (e', (x, obs) :: rs, tl)
      | none => none
     | none => some (e, [], o :: r)) else none
theorem Hp.put_get' {H : Hp} {i a : Nat} {v : Option AObj} {ob : AObj} (h : (H.put i v).get a = some ob) : (a = i ∧ v = some ob) ∨ H.get a = some ob := by
 unfold Hp.get Hp.put at h
 unfold Hp.get
 simp only at h
 split at h
 ·rename_i o hg; exact .inr h
 ·rename_i hg
  rcases Tr.put_get h with ⟨rfl, e⟩ | ⟨_, e⟩
  ·exact .inl ⟨rfl, e⟩
  ·exact .inr e
theorem Z68 {a : Nat} {ob : AObj} : ∀ (l : AHeap) {H : Hp}, (putObs H l).get a = some ob → (a, ob) ∈ l ∨ H.get a = some ob
 | [], _, h => .inr h
 | (i, o) :: r, H, h => by
  rcases Z68 r h with h | h
  ·exact .inl (List.mem_cons_of_mem _ h)
  ·rcases Hp.put_get' h with ⟨rfl, e⟩ | h
   ·cases e; exact .inl List.mem_cons_self
   ·exact .inr h
theorem Z4l {ms : List Nat} {i a : Nat} {H : Hp} {ob : AObj} : ∀ (M : List (Nat × AHeap)), (HatM ms i H M).get a = some ob → H.get a = some ob ∨ ∃ j obs, (j, obs) ∈ M ∧ bitOf ms i j = true ∧ (a, ob) ∈ obs
 | [], h => .inl h
 | (j, obs) :: r, h => by
  simp only [HatM] at h
  cases hb : bitOf ms i j with
  | true =>
   rw [hb, cond_true] at h
   rcases Z68 obs h with h | h
   ·exact .inr ⟨j, obs, List.mem_cons_self, hb, h⟩
   ·rcases Z4l r h with h | ⟨j', o', h1, h2, h3⟩
    ·exact .inl h
    ·exact .inr ⟨j', o', List.mem_cons_of_mem _ h1, h2, h3⟩
  | false =>
   rw [hb, cond_false] at h
   rcases Z4l r h with h | ⟨j', o', h1, h2, h3⟩
   ·exact .inl h
   ·exact .inr ⟨j', o', List.mem_cons_of_mem _ h1, h2, h3⟩
theorem Z9y {i k1 : Nat} {obs : AHeap} {M : List (Nat × AHeap)} {p : Nat × AHeap} (h : p ∈ addM i obs k1 M) : p ∈ M ∨ (p = (i, obs) ∧ ∀ q, q ∈ obs → q.1 < k1 ∧ plainOb q.2 = true ∧ nmOb (fun i => Nat.blt i k1) q.2 = true) := by
 unfold addM at h
 cases he : obs.isEmpty with
 | true => rw [he] at h; exact .inl h
 | false =>
  rw [he, cond_false] at h
  cases ha : obs.all (fun p => Nat.blt p.1 k1 && (plainOb p.2 && nmOb (fun i => Nat.blt i k1) p.2)) with
  | false => rw [ha] at h; exact .inl h
  | true =>
   rw [ha, cond_true] at h
   rcases List.mem_cons.1 h with h | h
   ·refine .inr ⟨h, fun q hq => ?_⟩
    have := List.all_eq_true.1 ha q hq
    rw [Bool.and_eq_true, Bool.and_eq_true, Nat.blt_eq] at this
    exact this
   ·exact .inl h
def rsX (rs : List (AV × AHeap)) (i : Nat) : AV := ((rs[i]?).map Prod.fst).getD (.v undef)
def rsO (rs : List (AV × AHeap)) (i : Nat) : AHeap := ((rs[i]?).map Prod.snd).getD []
theorem Z8y {T T' : List (Nat × AV)} (ht : ∀ t y, lk T t = some y → lk T' t = some y) {q : Operand} {y : AV} (h : ev T q = some y) : ev T' q = some y := by
 cases q with
 | tmp t => exact ht t y h
 | const c => exact h
 | func f => exact h
 | global g => exact h
def LookP (P : Program) (ops : Array Oper) (xs : Nat → AV) (os : Nat → AHeap) (T0 : List (Nat × AV)) (Hl : AHeap) (i : Nat) (o : Oper) (q : Operand) : Prop :=
 os i = [] ∧ ∃ y, ev (TT ops xs T0 i) q = some y ∧ ∃ Hn : AHeap, Eff P o (TT ops xs T0 i) Hn (xs i) [] ∧ (∀ p, p ∈ Hn → p ∈ Hl ∨ ∃ j, j < i ∧ p ∈ os j) ∧ ∀ p, p ∈ Hn → ∃ sz i' c, y = .ptr p.1 sz i' c
structure CalmOk (P : Program) (n : Nat) (ops : Array Oper) (xs : Nat → AV) (os : Nat → AHeap) (T0 : List (Nat × AV)) (Hl : AHeap) (k m k0 : Nat) (e' : ES) (D : List Nat) (R0 : List (Tr AObj)) (tl : List Oper) : Prop where
 good : ∀ i, k ≤ i → i < m → Good P ops n xs os T0 Hl i
 nms : ∀ i p, k ≤ i → i < m → p ∈ os i → k0 ≤ p.1 ∧ p.1 < e'.k ∧ p.1 < MM
 nd : ∀ i, k ≤ i → i < m → ((os i).map Prod.fst).Nodup
 lt : ∀ i j p q, k ≤ i → i < j → j < m → p ∈ os i → q ∈ os j → p.1 < q.1
 ag : Agree e'.T (TT ops xs T0 m)
 sub : SubH e'.H (HH os Hl m)
 le : k0 ≤ e'.k
 hD : e'.D = D
 hR : e'.H.R = R0
 tail : ops.toList.drop m = tl
 mv : ∀ i o, k ≤ i → i < m → ops[i]? = some o → looseOp o.op = true → o.guard = none → Eff P o (TT ops xs T0 i) [] (xs i) [] ∧ os i = []
 ml : ∀ i o t q, k ≤ i → i < m → ops[i]? = some o → o.op = .load t q → o.guard = none → LookP P ops xs os T0 Hl i o q
theorem Z6t : ∀ (l : AHeap) (H : Hp), (putObs H l).R = H.R
 | [], _ => rfl
 | (i, ob) :: r, H => Z6t r (H.put i (some ob))
theorem SubH.putObs : ∀ (l : AHeap) {H : Hp} {Hl : AHeap}, SubH H Hl → (∀ p, p ∈ l → getR H.R p.1 = none) → (∀ p, p ∈ l → p ∈ Hl) → SubH (Sx.putObs H l) Hl
 | [], _, _, h, _, _ => h
 | (i, ob) :: r, H, Hl, h, h1, h2 => SubH.putObs r (H := H.put i (some ob)) (h.put (h1 _ List.mem_cons_self) (h2 _ List.mem_cons_self) fun _ _ _ h => h) (fun p hp => h1 p (List.mem_cons_of_mem _ hp)) (fun p hp => h2 p (List.mem_cons_of_mem _ hp))
theorem Z7m {E : Ev} (hE : EvOk P E) {ops : Array Oper} {ms : List Nat} (hbit : ∀ i j, i < ops.size → j < i → bitOf ms i j = true → anc ops i i j = true) {H0 : Hp} {Hl : AHeap} (hs0 : SubH H0 Hl) {T0 : List (Nat × AV)} {xs : Nat → AV} {os : Nat → AHeap} {e' : ES} {tl : List Oper} : ∀ (l : List Oper) (e : ES) (k : Nat) (rs : List (AV × AHeap)) (M : List (Nat × AHeap)), evCalm E P n ops ms H0 k M l e = some (e', rs, tl) →
  ops.toList.drop k = l → (∀ j, j < rs.length → xs (k + j) = rsX rs j ∧ os (k + j) = rsO rs j) → Agree e.T (TT ops xs T0 k) → SubH e.H (HH os Hl k) → (∀ i, e.k ≤ i → i < MM → getR e.H.R i = none) → (∀ i ob, H0.get i = some ob → plainOb ob = true → nmOb (fun i => Nat.blt i MM) ob = true → i < MM → i < e.k ∧ nmOb (fun i => Nat.blt i e.k) ob = true) → (∀ j obs, (j, obs) ∈ M → j < k ∧ os j = obs ∧ ∀ p, p ∈ obs → p.1 < e.k ∧ plainOb p.2 = true ∧ nmOb (fun i => Nat.blt i e.k) p.2 = true) → CalmOk P n ops xs os T0 Hl k (k + rs.length) e.k e' e.D e.H.R tl
 | [], e, k, rs, M, h, hk, hrs, hag, hsub, hfree, hold, hM => by
  simp only [evCalm, Option.some.injEq, Prod.mk.injEq] at h
  obtain ⟨rfl, rfl, rfl⟩ := h
  exact ⟨fun i h1 h2 => absurd h2 (by simp; omega), fun i p h1 h2 => absurd h2 (by simp; omega), fun i h1 h2 => absurd h2 (by simp; omega), fun i j p q h1 h2 h3 => absurd h3 (by simp; omega), hag, hsub, Nat.le_refl _, rfl, rfl, hk, fun i o h1 h2 => absurd h2 (by simp; omega), fun i o t q h1 h2 => absurd h2 (by simp; omega)⟩
 | o :: r, e, k, rs, M, h, hk, hrs, hag, hsub, hfree, hold, hM => by
  obtain ⟨h1, h2⟩ := Z07 hk
  have ho : ops[k]? = some o := by rw [← Array.getElem?_toList]; exact h1
  simp only [evCalm] at h
  have hlt : k < ops.size := (Array.getElem?_eq_some_iff.1 ho).1
  have hHat : ∀ p : Nat × AObj, (HatM ms k H0 M).get p.1 = some p.2 → p ∈ Hl ∨ ∃ j, j < k ∧ p ∈ os j ∧ anc ops k k j = true := by
   intro p hp
   rcases Z4l M hp with h1 | ⟨j, obs, h1, h2, h3⟩
   ·exact .inl (hs0 p.1 p.2 h1)
   ·obtain ⟨g1, g2, _⟩ := hM j obs h1
    exact .inr ⟨j, g1, by rw [g2]; exact h3, hbit k j hlt g1 h2⟩
  have holdH : okTabs ((HatM ms k H0 M).R ++ [(HatM ms k H0 M).H]) = true → ∀ i ob, getR ((HatM ms k H0 M).R ++ [(HatM ms k H0 M).H]) i = some ob → i < e.k ∧ nmOb (fun i => Nat.blt i e.k) ob = true := by
   intro h1 i ob h2
   obtain ⟨g1, g2, g3⟩ := Z2w _ i ob h1 h2
   rcases Z4l M (Hp.get_tab h2) with h4 | ⟨j, obs, h4, _, h5⟩
   ·exact hold i ob h4 g1 g2 g3
   ·exact ⟨((hM j obs h4).2.2 (i, ob) h5).1, ((hM j obs h4).2.2 (i, ob) h5).2.2⟩
  -- one that is gone through
  have step : ∀ (x : AV) (obs : AHeap) (e1 : ES) (rs' : List (AV × AHeap)) (M' : List (Nat × AHeap)), (∀ p, p ∈ M' → p ∈ M ∨ (p = (k, obs) ∧ ∀ q, q ∈ obs → q.1 < e1.k ∧ plainOb q.2 = true ∧ nmOb (fun i => Nat.blt i e1.k) q.2 = true)) → rs = (x, obs) :: rs' → evCalm E P n ops ms H0 (k + 1) M' r e1 = some (e', rs', tl) → e1.T = putT e.T o.dst x → e1.D = e.D → e1.H.R = e.H.R → e.k ≤ e1.k →
    (∀ p, p ∈ obs → e.k ≤ p.1 ∧ p.1 < e1.k ∧ p.1 < MM) → (obs.map Prod.fst).Nodup → SubH e1.H (obs ++ HH os Hl k) → (xs k = x → os k = obs → Good P ops n xs os T0 Hl k) → (looseOp o.op = true → o.guard = none → Eff P o (TT ops xs T0 k) [] x [] ∧ obs = []) → (∀ t q, o.op = .load t q → o.guard = none → xs k = x → os k = obs → LookP P ops xs os T0 Hl k o q) → CalmOk P n ops xs os T0 Hl k (k + rs.length) e.k e' e.D e.H.R tl := by
   intro x obs e1 rs' M' hMM hr hcalm hT hD hR hle hob hnd hsb hgood hmv hml
   subst hr
   have h0 := hrs 0 (by simp)
   simp only [Nat.add_zero, rsX, rsO, List.getElem?_cons_zero, Option.map_some, Option.getD_some] at h0
   have hTT : TT ops xs T0 (k + 1) = put (TT ops xs T0 k) o.dst x := by
    show put (TT ops xs T0 k) ((ops[k]?).bind (·.dst)) (xs k) = _
    rw [ho, h0.1]; rfl
   have hHH : HH os Hl (k + 1) = obs ++ HH os Hl k := by
    show os k ++ HH os Hl k = _
    rw [h0.2]
   have ih := Z7m (tl := tl) hE hbit hs0 (T0 := T0) (xs := xs) (os := os) (e' := e') r e1 (k + 1) rs' M' hcalm h2 (fun j hj => by
    have := hrs (j + 1) (by simpa using hj)
    rw [show k + (j + 1) = k + 1 + j from by omega] at this
    simpa [rsX, rsO] using this) (by rw [hTT, hT]; exact hag.put) (by rw [hHH]; exact hsb) (fun i h1 h2 => by rw [hR]; exact hfree i (Nat.le_trans hle h1) h2)
    (fun i ob h2 p1 p2 p3 => by
     obtain ⟨g1, g2⟩ := hold i ob h2 p1 p2 p3
     exact ⟨Nat.lt_of_lt_of_le g1 hle, Z7y (fun j hj => by rw [Nat.blt_eq] at hj ⊢; omega) p1 g2⟩)
    (fun j obs' hj => by
     rcases hMM _ hj with h3 | ⟨h3, h4⟩
     ·obtain ⟨g1, g2, g3⟩ := hM j obs' h3
      refine ⟨by omega, g2, fun p hp => ?_⟩
      obtain ⟨g4, g5, g6⟩ := g3 p hp
      exact ⟨Nat.lt_of_lt_of_le g4 hle, g5, Z7y (fun j hj => by rw [Nat.blt_eq] at hj ⊢; omega) g5 g6⟩
     ·cases h3
      exact ⟨Nat.lt_succ_self _, h0.2, h4⟩)
   have hlen : k + ((x, obs) :: rs').length = k + 1 + rs'.length := by simp; omega
   rw [hlen]
   refine ⟨?_, ?_, ?_, ?_, ih.ag, ih.sub, Nat.le_trans hle ih.le, ih.hD.trans hD, ih.hR.trans hR, ih.tail, ?_, ?_⟩
   ·intro i hi hi2
    rcases Nat.eq_or_lt_of_le hi with rfl | hi
    ·exact hgood h0.1 h0.2
    ·exact ih.good i hi hi2
   ·intro i p hi hi2 hp
    rcases Nat.eq_or_lt_of_le hi with rfl | hi
    ·rw [h0.2] at hp
     have := hob p hp
     exact ⟨this.1, Nat.lt_of_lt_of_le this.2.1 ih.le, this.2.2⟩
    ·have := ih.nms i p hi hi2 hp
     exact ⟨Nat.le_trans hle this.1, this.2.1, this.2.2⟩
   ·intro i hi hi2
    rcases Nat.eq_or_lt_of_le hi with rfl | hi
    ·rw [h0.2]; exact hnd
    ·exact ih.nd i hi hi2
   ·intro i j p q hi hij hj hp hq
    rcases Nat.eq_or_lt_of_le hi with rfl | hi
    ·rw [h0.2] at hp
     have h3 := hob p hp
     have h4 := ih.nms j q hij hj hq
     omega
    ·exact ih.lt i j p q hi hij hj hp hq
   ·intro i o' hi hi2 ho' hop hgd
    rcases Nat.eq_or_lt_of_le hi with rfl | hi
    ·rw [ho] at ho'; cases ho'
     obtain ⟨m1, m2⟩ := hmv hop hgd
     exact ⟨by rw [h0.1]; exact m1, by rw [h0.2]; exact m2⟩
    ·exact ih.mv i o' hi hi2 ho' hop hgd
   ·intro i o' t q hi hi2 ho' hop hgd
    rcases Nat.eq_or_lt_of_le hi with rfl | hi
    ·rw [ho] at ho'; cases ho'
     exact hml t q hop hgd h0.1 h0.2
    ·exact ih.ml i o' t q hi hi2 ho' hop hgd
  cases hd : dok o.dst n with
  | false => rw [hd] at h; cases h
  | true =>
   rw [hd, cond_true] at h
   cases hcf : confl ops k o.dst with
   | true =>
    rw [hcf, cond_true] at h
    simp only [Option.some.injEq, Prod.mk.injEq] at h
    obtain ⟨rfl, h3, h4⟩ := h
    subst h3
    exact ⟨fun i h1 h2 => absurd h2 (by simp; omega), fun i p h1 h2 => absurd h2 (by simp; omega), fun i h1 h2 => absurd h2 (by simp; omega), fun i j p q h1 h2 h3 => absurd h3 (by simp; omega), hag, hsub, Nat.le_refl _, rfl, rfl, (by rw [List.length_nil, Nat.add_zero, hk, h4]), fun i o h1 h2 => absurd h2 (by simp; omega), fun i o t q h1 h2 => absurd h2 (by simp; omega)⟩
   | false =>
   rw [hcf, cond_false] at h
   split at h
   ·cases h
   ·rename_i hg
    split at h
    ·rename_i e1 rs' tl' hc
     simp only [Option.some.injEq, Prod.mk.injEq] at h
     obtain ⟨rfl, h3, rfl⟩ := h
     exact step _ [] _ rs' M (fun p hp => .inl hp) h3.symm hc rfl rfl rfl (Nat.le_refl _) nofun List.nodup_nil hsub (fun e1 e2 => ⟨o, ho, hd, .inl ⟨(Z32 hg).more hag.ls, e1, e2⟩⟩) (fun _ hgd => by rw [hgd] at hg; simp [wantG] at hg) (fun _ _ _ hgd => by rw [hgd] at hg; simp [wantG] at hg)
    ·cases h
   ·rename_i hg
    have hw := (Z32 hg).more hag.ls
    split at h
    ·rename_i x hx
     split at h
     ·rename_i e1 rs' tl' hc
      simp only [Option.some.injEq, Prod.mk.injEq] at h
      obtain ⟨rfl, h3, rfl⟩ := h
      obtain ⟨Hn, g1, g2⟩ := Z8w hx
      exact step x [] _ rs' M (fun p hp => .inl hp) h3.symm hc rfl rfl rfl (Nat.le_refl _) nofun List.nodup_nil hsub (fun e1 e2 => ⟨o, ho, hd, .inr ⟨hw, Hn, by rw [e1, e2]; exact g1.more hag.ls, fun p hp => hHat p (g2 p hp)⟩⟩) (fun hop _ => ⟨(Zca hop hx).more hag.ls, rfl⟩) (fun t q hop _ e1 e2 => by
       obtain ⟨y, hy, Hn', k1, k2⟩ := Zc9 hop hx
       exact ⟨e2, y, Z8y hag.ls (by rw [Z0f]; exact hy), Hn', by rw [e1]; exact k1.more hag.ls, fun p hp => (hHat p (k2 p hp).1).imp (fun z => z) (fun ⟨j, a, b, _⟩ => ⟨j, a, b⟩), fun p hp => (k2 p hp).2⟩)
     ·cases h
    ·split at h
     ·rename_i x ob hx
      cases hk1 : Nat.blt e.k MM with
      | false => rw [hk1] at h; cases h
      | true =>
       rw [hk1, cond_true] at h
       split at h
       ·rename_i e1 rs' tl' hc
        simp only [Option.some.injEq, Prod.mk.injEq] at h
        obtain ⟨rfl, h3, rfl⟩ := h
        refine step x [(e.k, ob)] ⟨putT e.T o.dst x, e.H.put e.k (some ob), e.D, e.k + 1⟩ rs' _ (fun p hp => Z9y (k1 := e.k + 1) hp) h3.symm hc rfl rfl rfl (Nat.le_succ _) (fun p hp => by rw [List.mem_singleton.1 hp]; exact ⟨Nat.le_refl _, Nat.lt_succ_self _, by rwa [Nat.blt_eq] at hk1⟩) (List.nodup_cons.2 ⟨List.not_mem_nil, List.nodup_nil⟩) (hsub.put (hfree _ (Nat.le_refl _) (by rwa [Nat.blt_eq] at hk1)) List.mem_cons_self fun i o' _ h => List.mem_cons_of_mem _ h)
         (fun e1 e2 => ⟨o, ho, hd, .inr ⟨hw, [], by rw [e1, e2]; exact (Z7n hx).more hag.ls, nofun⟩⟩) (fun hop _ => by revert hop hx; cases o.op <;> simp [looseOp, evNew]) (fun t q hop _ _ _ => by rw [hop] at hx; simp [evNew] at hx)
       ·cases h
     ·split at h
      ·rename_i x obs k1 hx
       obtain ⟨Hn, g1, g2, g3, g4, g5⟩ := Zao hE hx holdH
       split at h
       ·rename_i e1 rs' tl' hc
        simp only [Option.some.injEq, Prod.mk.injEq] at h
        obtain ⟨rfl, h3, rfl⟩ := h
        refine step x obs ⟨putT e.T o.dst x, putObs e.H obs, e.D, k1⟩ rs' _ (fun p hp => Z9y (k1 := k1) hp) h3.symm hc rfl rfl (Z6t obs e.H) g5 g3 g4 ?_
         (fun e1 e2 => ⟨o, ho, hd, .inr ⟨hw, Hn, by rw [e1, e2]; exact g1.more hag.ls, fun p hp => hHat p (g2 p hp)⟩⟩) (fun hop _ => by revert hop hx; cases o.op <;> simp [looseOp, evCallC]) (fun t q hop _ _ _ => by rw [hop] at hx; simp [evCallC] at hx)
        exact SubH.putObs obs (fun i o' h => List.mem_append_right _ (hsub i o' h)) (fun p hp => hfree p.1 (g3 p hp).1 (g3 p hp).2.2) (fun p hp => List.mem_append_left _ hp)
       ·cases h
      ·simp only [Option.some.injEq, Prod.mk.injEq] at h
       obtain ⟨rfl, h3, h4⟩ := h
       subst h3
       exact ⟨fun i h1 h2 => absurd h2 (by simp; omega), fun i p h1 h2 => absurd h2 (by simp; omega), fun i h1 h2 => absurd h2 (by simp; omega), fun i j p q h1 h2 h3 => absurd h3 (by simp; omega), hag, hsub, Nat.le_refl _, rfl, rfl, (by rw [List.length_nil, Nat.add_zero, hk, h4]), fun i o h1 h2 => absurd h2 (by simp; omega), fun i o t q h1 h2 => absurd h2 (by simp; omega)⟩
theorem Z3q {E : Ev} {ops : Array Oper} {ms : List Nat} {H0 : Hp} {e' : ES} {tl : List Oper} : ∀ (l : List Oper) (e : ES) (rs : List (AV × AHeap)) (i : Nat) (M : List (Nat × AHeap)), evCalm E P n ops ms H0 i M l e = some (e', rs, tl) → e'.H.R = e.H.R
 | [], e, rs, i, M, h => by simp only [evCalm, Option.some.injEq, Prod.mk.injEq] at h; obtain ⟨rfl, rfl, rfl⟩ := h; rfl
 | o :: r, e, rs, i, M, h => by
  simp only [evCalm] at h
  cases hd : dok o.dst n with
  | false => rw [hd] at h; cases h
  | true =>
   rw [hd, cond_true] at h
   cases hcf : confl ops i o.dst with
   | true =>
    rw [hcf, cond_true] at h
    simp only [Option.some.injEq, Prod.mk.injEq] at h
    obtain ⟨rfl, _, _⟩ := h
    rfl
   | false =>
   rw [hcf, cond_false] at h
   split at h
   ·cases h
   ·split at h
    ·rename_i e1 rs' tl' hc
     simp only [Option.some.injEq, Prod.mk.injEq] at h
     obtain ⟨rfl, _, rfl⟩ := h
     exact Z3q r { e with T := putT e.T o.dst (.v undef) } rs' _ _ hc
    ·cases h
   ·split at h
    ·rename_i x hx
     split at h
     ·rename_i e1 rs' tl' hc
      simp only [Option.some.injEq, Prod.mk.injEq] at h
      obtain ⟨rfl, _, rfl⟩ := h
      exact Z3q r { e with T := putT e.T o.dst x } rs' _ _ hc
     ·cases h
    ·split at h
     ·rename_i x ob hx
      cases hk1 : Nat.blt e.k MM with
      | false => rw [hk1] at h; cases h
      | true =>
       rw [hk1, cond_true] at h
       split at h
       ·rename_i e1 rs' tl' hc
        simp only [Option.some.injEq, Prod.mk.injEq] at h
        obtain ⟨rfl, _, rfl⟩ := h
        exact Z3q r ⟨putT e.T o.dst x, e.H.put e.k (some ob), e.D, e.k + 1⟩ rs' _ _ hc
       ·cases h
     ·split at h
      ·rename_i x obs k1 hx
       split at h
       ·rename_i e1 rs' tl' hc
        simp only [Option.some.injEq, Prod.mk.injEq] at h
        obtain ⟨rfl, _, rfl⟩ := h
        exact (Z3q r ⟨putT e.T o.dst x, putObs e.H obs, e.D, k1⟩ rs' _ _ hc).trans (Z6t obs e.H)
       ·cases h
      ·simp only [Option.some.injEq, Prod.mk.injEq] at h
       obtain ⟨rfl, _, _⟩ := h
       rfl
def eraseT (T : Tr AV) (l : List Nat) : Tr AV := l.foldl (fun T d => T.put d none) T
theorem Z63 {t : Nat} {y : AV} : ∀ (l : List Nat) (T : Tr AV), (eraseT T l).get t = some y → T.get t = some y ∧ t ∉ l
 | [], T, h => ⟨h, nofun⟩
 | d :: l, T, h => by
  obtain ⟨h1, h2⟩ := Z63 l (T.put d none) h
  rcases Tr.put_get h1 with ⟨_, e⟩ | ⟨hne, e⟩
  ·cases e
  ·exact ⟨e, fun hm => by rcases List.mem_cons.1 hm with h3 | h3; exact hne h3; exact h2 h3⟩
def isLoad : Op → Bool
 | .load _ _ => true
 | _ => false
def otherB (T : Tr AV) (op : Op) (id : Nat) : Bool := match op with
 | .store _ p _ => match evT T p with
  | some (.ptr i _ _ _) => !Nat.beq id i
  | _ => false
 | _ => false
theorem Z7q {E : Ev} {e : ES} {inR : Bool} {op : Op} {x : AV} {H : Hp} {k id : Nat} {b : AObj} (h : evStep E P e inR op = some (.val x H k)) (ho : otherB e.T op id = true) (hb : H.get id = some b) : e.H.get id = some b := by
 unfold otherB at ho
 split at ho
 ·rename_i t p q
  split at ho
  ·rename_i i sz i' c hp
   have hne : id ≠ i := by
    intro hi
    subst hi
    rw [Nat.beq_refl] at ho
    cases ho
   simp only [evStep] at h
   split at h
   ·rename_i y H2 k2 hs
    cases h
    have h1 : ∃ H3, evStore P e t p q = some H3 ∧ H = H3 := by
     have h2 : evMut P e (.store t p q) = some (x, H, k) := by
      revert hs
      unfold evOp
      simp [evPure, evNew]
     unfold evMut at h2
     simp only at h2
     split at h2
     ·rename_i H3 h3
      cases h2
      exact ⟨_, h3, rfl⟩
     ·cases h2
    obtain ⟨H3, h3, rfl⟩ := h1
    unfold evStore at h3
    rw [hp] at h3
    split at h3
    ·rename_i b1 n1 id1 sz1 i1 c1 x1 q1 q2 q3
     cases q2
     split at h3
     ·split at h3
      ·split at h3
       ·cases hc : (Nat.beq (cellsA x1).length n1 && (cellsA x1).all one && Nat.ble (c + n1) sz) with
        | false => rw [hc] at h3; cases h3
        | true =>
         rw [hc] at h3
         cases h3
         unfold Hp.get Hp.put at hb
         unfold Hp.get
         simp only at hb
         split at hb
         ·exact hb
         ·rcases Tr.put_get hb with ⟨e1, _⟩ | ⟨_, e1⟩
          ·exact absurd e1 hne
          ·exact e1
       ·cases h3
      ·cases h3
     ·cases h3
    ·cases h3
   ·cases h
  ·cases ho
 ·cases ho
def sameAt (ops : Array Oper) (ms : List Nat) (np : Nat) (T T2 : Tr AV) (op : Op) (H H2 : Hp) (j : Nat) : Bool := bif bitOf ms np j then true else match ops[j]? with
 | some o => match o.op with
  | .load _ q => match evT T q with
   | some (.ptr id _ _ _) => (match H.get id, H2.get id with
    | some a, some b => bif otherB T2 op id then true else eqOb a b
    | _, _ => false)
   | some (.elt _ _ _) => true
   | _ => false
  | _ => true
 | none => false
def looseB (ops : Array Oper) (j : Nat) : Bool := match ops[j]? with
 | some o => (looseOp o.op || isLoad o.op) && o.guard.isNone
 | none => false
def frDsts (ops : Array Oper) (ms : List Nat) (np : Nat) : List Nat := (List.range np).filterMap fun j => bif bitOf ms np j then none else (ops[j]?).bind (·.dst)
def mB (ops : Array Oper) (ms : List Nat) (np n : Nat) (om : Oper) : Bool :=
 Nat.blt np ops.size && ((List.range np).all (fun j => bitOf ms np j || looseB ops j) && ((List.range (ops.size - (np + 1))).all (fun d => bitOf ms (np + 1 + d) np) && (om.guard.isNone && (dok om.dst n && okDst ops (np + 1)))))
def evSegs (E : Ev) (P : Program) (n : Nat) (inR : Bool) (ops : Array Oper) (ms : List Nat) : Nat → Nat → ES → List Oper → Option (Exit × ES)
 | 0, _, _, _ => none
 | f + 1, i, e, l => match evCalm E P n ops ms e.H i [] l e with
  | some (e1, rs, tl) => bif Nat.ble (i + rs.length) ops.size && (okDst ops (i + rs.length) && okLooksM ops ms (i + rs.length)) then
    bif okTailM ops ms (i + rs.length) then evOps E P n inR ops tl e1 else (match tl with
     | [] => none
     | om :: tl' => bif mB ops ms (i + rs.length) n om then (match evStep E P { e1 with T := eraseT e1.T (frDsts ops ms (i + rs.length)) } inR om.op with
      | some (.val x H k) => bif (List.range (i + rs.length)).all (sameAt ops ms (i + rs.length) e1.T (eraseT e1.T (frDsts ops ms (i + rs.length))) om.op e1.H H) then evSegs E P n inR ops ms f (i + rs.length + 1) ⟨putT e1.T om.dst x, H, e1.D, k⟩ tl' else none
      | _ => none) else none)
   else none
  | none => none
def evDraw (E : Ev) (P : Program) (n : Nat) (inR : Bool) (ops : Array Oper) (e : ES) : Option (Exit × ES) :=
 bif okEdges ops && okCert ops (msksOf ops.toList) then evSegs E P n inR ops (msksOf ops.toList) (ops.size + 1) 0 e ops.toList else none
theorem Z9m {E : Ev} (hE : EvOk P E) {inR : Bool} {ops : Array Oper} {ms : List Nat} {e' : ES} {x : Exit} : ∀ (f i : Nat) (e : ES) (l : List Oper), evSegs E P n inR ops ms f i e l = some (x, e') → e'.H.R = e.H.R
 | 0, _, _, _, h => by simp [evSegs] at h
 | f + 1, i, e, l, h => by
  simp only [evSegs] at h
  split at h
  ·rename_i e1 rs tl hc
   have hR := Z3q l e rs _ _ hc
   cases h1 : (Nat.ble (i + rs.length) ops.size && (okDst ops (i + rs.length) && okLooksM ops ms (i + rs.length))) with
   | false => rw [h1] at h; cases h
   | true =>
   rw [h1, cond_true] at h
   cases h2 : okTailM ops ms (i + rs.length) with
   | true => rw [h2, cond_true] at h; exact (Z5a hE tl e1 h).trans hR
   | false =>
   rw [h2, cond_false] at h
   split at h
   ·cases h
   ·rename_i om tl'
    cases h3 : mB ops ms (i + rs.length) n om with
    | false => rw [h3] at h; cases h
    | true =>
    rw [h3, cond_true] at h
    split at h
    ·rename_i y H k hst
     cases hsm : (List.range (i + rs.length)).all (sameAt ops ms (i + rs.length) e1.T (eraseT e1.T (frDsts ops ms (i + rs.length))) om.op e1.H H) with
     | false => rw [hsm] at h; cases h
     | true =>
     rw [hsm, cond_true] at h
     exact ((Z9m hE f _ _ _ h).trans (Z1q (o := om) hE hst (fun _ _ _ h => by cases h)).1).trans hR
    ·cases h
  ·cases h
theorem Zeb {ps : Nat → AHeap} {H : AHeap} : ∀ (i : Nat), (∀ j, j < i → ps j = []) → HH ps H i = H
 | 0, _ => rfl
 | i + 1, h => by
  show ps i ++ HH ps H i = H
  rw [h i (Nat.lt_succ_self _), Zeb i (fun j hj => h j (by omega)), List.nil_append]
def LooseA (P : Program) (ops : Array Oper) (n : Nat) (ys : Nat → AV) (T0 : List (Nat × AV)) (Hl : AHeap) (j : Nat) : Prop :=
 ∃ o, ops[j]? = some o ∧ o.guard = none ∧ dok o.dst n = true ∧ ∃ Hn : AHeap, Eff P o (TT ops ys T0 j) Hn (ys j) [] ∧ (∀ p, p ∈ Hn → p ∈ Hl) ∧ ∀ p, p ∈ Hn → ∃ t q sz i c, o.op = .load t q ∧ ev (TT ops ys T0 j) q = some (.ptr p.1 sz i c)
theorem LooseA.congr {ops : Array Oper} {ys zs : Nat → AV} {T0 : List (Nat × AV)} {Hl : AHeap} {j : Nat} (h : LooseA P ops n ys T0 Hl j) (hy : ∀ i, i ≤ j → ys i = zs i) : LooseA P ops n zs T0 Hl j := by
 obtain ⟨o, h1, h3, h4, Hn, h5, h6, h7⟩ := h
 have e1 := Z0n (ops := ops) (T0 := T0) j (fun i hi => hy i (by omega))
 rw [e1, hy j (Nat.le_refl _)] at h5
 rw [e1] at h7
 exact ⟨o, h1, h3, h4, Hn, h5, h6, h7⟩
theorem LooseA.heap {ops : Array Oper} {ys : Nat → AV} {T0 : List (Nat × AV)} {Hl H2 : AHeap} {j : Nat} (h : LooseA P ops n ys T0 Hl j) (hh : ∀ p, p ∈ Hl → p ∈ H2) : LooseA P ops n ys T0 H2 j := by
 obtain ⟨o, h1, h3, h4, Hn, h5, h6, h7⟩ := h
 exact ⟨o, h1, h3, h4, Hn, h5, fun p hp => hh p (h6 p hp), h7⟩
theorem LooseA.good {ops : Array Oper} {ys : Nat → AV} {T0 : List (Nat × AV)} {j : Nat} {ps : Nat → AHeap} {H : AHeap} (h : LooseA P ops n ys T0 H j) (hp : ps j = []) : Good P ops n ys ps T0 H j := by
 obtain ⟨o, h1, h3, h4, Hn, h5, h6, h7⟩ := h
 exact ⟨o, h1, h4, .inr ⟨.inl ⟨h3, rfl⟩, Hn, by rw [hp]; exact h5, fun p hp => .inl (h6 p hp)⟩⟩
theorem Z9x {os : Nat → AHeap} {H : AHeap} {p : Nat × AObj} : ∀ (i : Nat), (p ∈ H ∨ ∃ j, j < i ∧ p ∈ os j) → p ∈ HH os H i
 | 0, h => by
  rcases h with h | ⟨j, hj, _⟩
  ·exact h
  ·omega
 | i + 1, h => by
  show p ∈ os i ++ HH os H i
  rcases h with h | ⟨j, hj, h⟩
  ·exact List.mem_append_right _ (Z9x i (.inl h))
  ·rcases Nat.eq_or_lt_of_le (Nat.le_of_lt_succ hj) with rfl | h2
   ·exact List.mem_append_left _ h
   ·exact List.mem_append_right _ (Z9x i (.inr ⟨j, h2, h⟩))
theorem Z6y {ops : Array Oper} {xs : Nat → AV} {T0 : List (Nat × AV)} {t j : Nat} : ∀ (m : Nat), j ≤ m → (∀ j2, j ≤ j2 → j2 < m → (ops[j2]?).bind (·.dst) ≠ some t) → lk (TT ops xs T0 m) t = lk (TT ops xs T0 j) t
 | 0, h, _ => by
  have : j = 0 := by omega
  subst this; rfl
 | m + 1, h, hno => by
  rcases Nat.eq_or_lt_of_le h with rfl | h2
  ·rfl
  ·rw [← Z6y m (by omega) (fun j2 h3 h4 => hno j2 h3 (by omega))]
   show lk (put (TT ops xs T0 m) ((ops[m]?).bind (·.dst)) (xs m)) t = _
   have hd := hno m (by omega) (Nat.lt_succ_self _)
   cases hb : (ops[m]?).bind (·.dst) with
   | none => rfl
   | some d =>
    rw [hb] at hd
    have hne : Nat.beq d t = false := by
     cases hx : Nat.beq d t with
     | true => exact absurd (by rw [Nat.eq_of_beq_eq_true hx]) hd
     | false => rfl
    simp only [Sx.put, lk, hne, cond_false]
theorem Z66 {α : Type} : ∀ {l : List (Nat × α)}, (l.map Prod.fst).Nodup → ∀ {p q : Nat × α}, p ∈ l → q ∈ l → p.1 = q.1 → p = q
 | a :: r, h, p, q, hp, hq, he => by
  simp only [List.map_cons, List.nodup_cons] at h
  rcases List.mem_cons.1 hp with h1 | h1
  ·rcases List.mem_cons.1 hq with h2 | h2
   ·rw [h1, h2]
   ·exact absurd (List.mem_map.2 ⟨q, h2, by rw [← he, h1]⟩) h.1
  ·rcases List.mem_cons.1 hq with h2 | h2
   ·exact absurd (List.mem_map.2 ⟨p, h1, by rw [he, h2]⟩) h.1
   ·exact Z66 h.2 h1 h2 he
theorem Z7p {E : Ev} (hE : EvOk P E) {inR : Bool} {ro : Option Nat} (hro : ro ≠ none → inR = true) {ops : Array Oper} {ms : List Nat} (hed : okEdges ops = true) (hce : okCert ops ms = true) {k0 : Nat} {C0 : Ctx} {H0 : AHeap} {w0 : World} {x : Exit} {e' : ES} {T0 : List (Nat × AV)} {D : List Nat} :
  ∀ (f i : Nat) (e : ES) (l : List Oper), evSegs E P n inR ops ms f i e l = some (x, e') → ops.toList.drop i = l → ∀ (ys : Nat → AV) (C : Ctx) (Hl : AHeap) (w : World) (a : Act) (listed : Array Bool) (fuel : Nat),
   Agree e.T (TT ops ys T0 i) → e.D = D → SubH e.H Hl → Fr e.k C → EX k0 C0 H0 w0 e.k C Hl w → WR C Hl w → listed.size = ops.size → left ops listed = fuel → (∀ j, i ≤ j → j < ops.size → listed.getD j false = false) →
   (∀ j, j < i → listed.getD j false = false → LooseA P ops n ys T0 Hl j) →
   (∀ t y, lk T0 t = some y → (∀ j, j < i → (ops[j]?).bind (·.dst) ≠ some t) → ∃ v, a.tmps[t]? = some v ∧ VR C y v) →
   (∀ j t, j < i → listed.getD j false = true → (ops[j]?).bind (·.dst) = some t → ∃ v, a.tmps[t]? = some v ∧ VR C (ys j) v) →
   a.defers = D.map (mark C) → (∀ j, j ∈ D → j ∈ C.U) → a.tmps.size = n →
   (∀ j o, ops[j]? = some o → listed.getD j false = true → ∀ e, e ∈ o.after → Region.binds .any e = true → listed.getD e.on false = true) →
   wpAnyIn (Wd ro) 0 P .any ops (EPost k0 C0 H0 w0 x e' n) fuel listed a w
 | 0, _, _, _, h => by simp [evSegs] at h
 | f + 1, i, e, l, h => by
  intro hdrop ys C Hl w a listed fuel hag hD hsub hfr hex hwr hls hleft hun hlo hsl0 hsl1 hdf hdu hsz hdn
  subst hD
  simp only [evSegs] at h
  split at h
  case h_2 => cases h
  rename_i e1 rs tl hc
  cases h1 : (Nat.ble (i + rs.length) ops.size && (okDst ops (i + rs.length) && okLooksM ops ms (i + rs.length))) with
  | false => rw [h1] at h; cases h
  | true =>
  rw [h1, cond_true] at h
  rw [Bool.and_eq_true, Bool.and_eq_true] at h1
  obtain ⟨hnp, hDs, hLm⟩ := h1
  have hnp := Nat.le_of_ble_eq_true hnp
  generalize hnpe : i + rs.length = np at *
  have hbit : ∀ i j, i < ops.size → j < i → bitOf ms i j = true → anc ops i i j = true := fun i j hi hj hb => Z4m hed hce i hi j hj hb
  have hLk : okLooks ops np = true := by
   refine List.all_eq_true.2 fun i hi => ?_
   have h7 := List.all_eq_true.1 hLm i hi
   have hi' : i < ops.size := by have := List.mem_range.1 hi; omega
   rw [Array.getElem?_eq_getElem hi'] at h7 ⊢
   refine List.all_eq_true.2 fun t ht => List.all_eq_true.2 fun j hj => ?_
   have h8 := List.all_eq_true.1 (List.all_eq_true.1 h7 t ht) j hj
   simp only [Bool.or_eq_true, Bool.and_eq_true] at h8 ⊢
   exact h8.imp (fun z => z) fun h9 => ⟨h9.1, hbit i j hi' (Nat.blt_eq ▸ h9.1) h9.2⟩
  let ys' : Nat → AV := fun j => if j < i then ys j else rsX rs (j - i)
  let ps' : Nat → AHeap := fun j => if j < i then [] else rsO rs (j - i)
  have hys : ∀ j, j < i → ys j = ys' j := fun j hj => (if_pos hj).symm
  have hps : ∀ j, j < i → ps' j = [] := fun j hj => if_pos hj
  have hok : CalmOk P n ops ys' ps' T0 Hl i np e.k e1 e.D e.H.R tl := by
   have := Z7m (P := P) (n := n) hE (ms := ms) hbit hsub (T0 := T0) (xs := ys') (os := ps') l e i rs [] hc hdrop
    (fun j _ => by
     have h1 : ¬ (i + j < i) := by omega
     have h2 : i + j - i = j := by omega
     exact ⟨by show (if i + j < i then ys (i + j) else rsX rs (i + j - i)) = _; rw [if_neg h1, h2], by show (if i + j < i then [] else rsO rs (i + j - i)) = _; rw [if_neg h1, h2]⟩)
    (by rw [← Z0n (ops := ops) (T0 := T0) i (fun j hj => hys j hj)]; exact hag) (by rw [Zeb i hps]; exact hsub) (fun j h1 h2 => hsub.free hwr hfr h1 h2) (fun j ob h2 g1 g2 g3 => by
     obtain ⟨g4, g5⟩ := hwr.ids j ob (hsub j ob h2)
     have below : ∀ j, j ∈ C.U → Nat.blt j MM = true → Nat.blt j e.k = true := fun j hj hm => by
      rw [Nat.blt_eq] at hm ⊢
      rcases Nat.lt_or_ge j e.k with h3 | h3
      ·exact h3
      ·exact absurd hj (hfr j h3 hm)
     refine ⟨?_, Zfm g5 g1 below g2⟩
     have := below j g4 (by rw [Nat.blt_eq]; exact g3)
     rwa [Nat.blt_eq] at this) nofun
   rwa [hnpe] at this
  have hle : i ≤ np := by omega
  -- what the first part needs
  have hg : ∀ j, j < np → (j < i → LooseA P ops n ys T0 Hl j) → Good P ops n ys' ps' T0 Hl j := by
   intro j hj hU
   rcases Nat.lt_or_ge j i with h2 | h2
   ·exact ((hU h2).congr fun i' hi' => hys i' (by omega)).good (hps j h2)
   ·exact hok.good j h2 hj
  have hZ : ∀ j p, j < np → p ∈ ps' j → p.1 ∉ Zx e.k e1.k := by
   intro j p hj hp hz
   rcases Nat.lt_or_ge j i with h2 | h2
   ·rw [hps j h2] at hp; cases hp
   ·have h3 := hok.nms j p h2 hj hp
    have h4 := (mem_Zx.1 hz).2
    omega
  have hij : ∀ j1 j2 p q, j1 < np → j2 < np → p ∈ ps' j1 → q ∈ ps' j2 → p.1 = q.1 → j1 = j2 := by
   intro j1 j2 p q hj1 hj2 hp hq hpq
   have g1 : i ≤ j1 := by
    rcases Nat.lt_or_ge j1 i with h2 | h2
    ·rw [hps j1 h2] at hp; cases hp
    ·exact h2
   have g2 : i ≤ j2 := by
    rcases Nat.lt_or_ge j2 i with h2 | h2
    ·rw [hps j2 h2] at hq; cases hq
    ·exact h2
   rcases Nat.lt_trichotomy j1 j2 with h1 | h1 | h1
   ·have := hok.lt j1 j2 p q g1 h1 hj2 hp hq; omega
   ·exact h1
   ·have := hok.lt j2 j1 q p g2 h1 hj1 hq hp; omega
  have hnd : ∀ j, j < np → ((ps' j).map Prod.fst).Nodup := by
   intro j hj
   rcases Nat.lt_or_ge j i with h2 | h2
   ·rw [hps j h2]; exact List.nodup_nil
   ·exact hok.nd j h2 hj
  have hflat : (List.range np).flatMap (fun j => if listed.getD j false = true then ps' j else []) = [] := by
   rw [List.flatMap_eq_nil_iff]
   intro j hj
   have hj := List.mem_range.1 hj
   split
   ·rename_i hl
    rcases Nat.lt_or_ge j i with h2 | h2
    ·exact hps j h2
    ·rw [hun j h2 (by omega)] at hl; cases hl
   ·rfl
  have hI : Inv P ops np ys' ps' ⟨T0, Hl, e.D, n⟩ (Zx e.k e1.k) C Hl w listed a w C := by
   refine ⟨by rw [hflat]; exact hwr, ?_, ?_, hdf, hdu, hsz, ?_, by rw [hflat]; exact .refl .., hdn⟩
   ·intro t y hy hno
    exact hsl0 t y hy fun j hj => hno j (by omega)
   ·intro j t hj hl ht
    have h2 : j < i := by
     rcases Nat.lt_or_ge j i with h2 | h2
     ·exact h2
     ·rw [hun j h2 (by omega)] at hl; cases hl
    rw [← hys j h2]
    exact hsl1 j t h2 hl ht
   ·intro j p hj _ hp hu
    rcases Nat.lt_or_ge j i with h2 | h2
    ·rw [hps j h2] at hp; cases hp
    ·have h1 := hok.nms j p h2 hj hp
     exact hfr p.1 h1.1 h1.2.2 hu
  have hUl : ∀ j, j < np → listed.getD j false = false → j < i → LooseA P ops n ys T0 Hl j := fun j _ hl h2 => hlo j h2 hl
  have hun' : ∀ j, np ≤ j → j < ops.size → listed.getD j false = false := fun j h1 h2 => hun j (by omega) h2
  cases h2 : okTailM ops ms np with
  | true =>
   rw [h2, cond_true] at h
   have hT : okTail ops np = true := by
    refine List.all_eq_true.2 fun d hd => List.all_eq_true.2 fun i hi => ?_
    have h7 := List.all_eq_true.1 (List.all_eq_true.1 h2 d hd) i hi
    have hd' := List.mem_range.1 hd
    exact hbit (np + d) i (by omega) (List.mem_range.1 hi) h7
   have htd : tidy ops np = true := by
    simp only [tidy, Bool.and_eq_true]
    exact ⟨⟨⟨⟨by rw [Nat.ble_eq]; exact hnp, hed⟩, hDs⟩, hLk⟩, hT⟩
   refine Zcn (s := ⟨T0, Hl, e.D, n⟩) htd hok.tail ?_ hg hZ hij hnd fuel listed a w C hls hleft hun' hUl hI
   intro C' a' w' hx hsr
   have hxx := hx.ex hok.le
   have hs1 : SE C' (HH ps' Hl np) e1 n a' w' := by
    refine ⟨?_, hok.sub, hxx.fr hfr⟩
    have := hsr.lks (T' := e1.T.ls) hok.ag.ls
    exact ⟨this.wr, this.sl, by rw [this.df]; show List.map (mark C') e.D = _; rw [← hok.hD], by show ∀ i, i ∈ e1.D → _; rw [hok.hD]; exact this.du, this.sz⟩
   exact Z3s hE hro (C0 := C0) (H0 := H0) (w0 := w0) tl e1 h np hok.tail C' _ a' w' hs1 (hex.trans hxx)
  | false =>
  rw [h2, cond_false] at h
  have htail := hok.tail
  cases tl with
  | nil => simp at h
  | cons om tl' =>
  simp only at h
  cases h3 : mB ops ms np n om with
  | false => rw [h3] at h; cases h
  | true =>
  rw [h3, cond_true] at h
  simp only [mB, Bool.and_eq_true, Nat.blt_eq] at h3
  obtain ⟨hlt0, hA, hB, hgm, hdm, hDm⟩ := h3
  obtain ⟨hd1, hd2⟩ := Z07 htail
  have hom : ops[np]? = some om := by rw [← Array.getElem?_toList]; exact hd1
  have hgm : om.guard = none := by simpa using hgm
  split at h
  case h_2 => cases h
  rename_i y H2 k2 hst
  cases hsm : (List.range np).all (sameAt ops ms np e1.T (eraseT e1.T (frDsts ops ms np)) om.op e1.H H2) with
  | false => rw [hsm] at h; cases h
  | true =>
  rw [hsm, cond_true] at h
  refine Zeo (U := fun j => j < i → LooseA P ops n ys T0 Hl j) (s := ⟨T0, Hl, e.D, n⟩) hnp hed hDs hLk hg hZ hij hnd (fun _ _ _ _ h => by omega) ?_ fuel listed a w C hls hleft hun' hUl hI
  intro fuel1 listed1 a1 w1 C1 i1 hls1 hleft1 hun1 hUl1 hI1 hin1 hi1
  obtain ⟨q3, o, ho, hdeps⟩ := mem_ready.1 hi1
  have hlt : i1 < ops.size := (Array.getElem?_eq_some_iff.1 ho).1
  have hi' : i1 = np := by
   rcases Nat.lt_or_ge np i1 with h4 | h4
   ·have h7 := List.all_eq_true.1 hB (i1 - (np + 1)) (List.mem_range.2 (by omega))
    rw [show np + 1 + (i1 - (np + 1)) = i1 from by omega] at h7
    have := Z14 hI1.dn i1 i1 np o ho hdeps (hbit i1 np hlt h4 h7)
    rw [hun1 np (Nat.le_refl _) hlt0] at this; cases this
   ·omega
  subst hi'
  rw [hom] at ho; cases ho
  have hlA : ∀ j, j < i1 → bitOf ms i1 j = true → listed1.getD j false = true := fun j hj hb => Z14 hI1.dn i1 i1 j om hom hdeps (hbit i1 j hlt hj hb)
  have hloose : ∀ j, j < i1 → listed1.getD j false = false → LooseA P ops n ys' T0 (HH ps' Hl i1) j ∧ ps' j = [] ∧ bitOf ms i1 j = false := by
   intro j hj hl
   have hnb : bitOf ms i1 j = false := by
    cases hb : bitOf ms i1 j with
    | false => rfl
    | true => rw [hlA j hj hb] at hl; cases hl
   rcases Nat.lt_or_ge j i with h4 | h4
   ·exact ⟨((hUl1 j hj hl h4).congr fun i' hi' => hys i' (by omega)).heap (fun p hp => Z9x i1 (.inl hp)), hps j h4, hnb⟩
   ·have := List.all_eq_true.1 hA j (List.mem_range.2 hj)
    rw [hnb, Bool.false_or] at this
    unfold looseB at this
    split at this
    ·rename_i oj hoj
     rw [Bool.and_eq_true] at this
     have g2 : oj.guard = none := by simpa using this.2
     obtain ⟨o', ho', hdk, _⟩ := hok.good j h4 hj
     rw [hoj] at ho'; cases ho'
     rcases Bool.or_eq_true _ _ ▸ this.1 with h5 | h5
     ·obtain ⟨m1, m2⟩ := hok.mv j oj h4 hj hoj h5 g2
      exact ⟨⟨oj, hoj, g2, hdk, [], m1, nofun, nofun⟩, m2, hnb⟩
     ·unfold isLoad at h5
      split at h5
      ·rename_i lt lq hop
       obtain ⟨m2, yy, m3, Hn, m4, m5, m6⟩ := hok.ml j oj lt lq h4 hj hoj hop g2
       refine ⟨⟨oj, hoj, g2, hdk, Hn, m4, fun p hp => Z9x i1 ((m5 p hp).imp (fun z => z) (fun ⟨j2, a, b⟩ => ⟨j2, by omega, b⟩)), fun p hp => ?_⟩, m2, hnb⟩
       obtain ⟨sz, i', c, hyy⟩ := m6 p hp
       exact ⟨lt, lq, sz, i', c, hop, by rw [m3, hyy]⟩
      ·cases h5
    ·cases this
  have hp' : ((List.range i1).flatMap (fun j => if listed1.getD j false = true then ps' j else []) ++ Hl).Perm (HH ps' Hl i1) := by
   refine List.Perm.trans ?_ (Z8c ps' Hl i1).symm
   refine List.Perm.append_right _ ?_
   have : ∀ l : List Nat, (∀ j, j ∈ l → j < i1) → l.flatMap (fun j => if listed1.getD j false = true then ps' j else []) = l.flatMap ps' := by
    intro l
    induction l with
    | nil => intro _; rfl
    | cons x l ih =>
     intro h
     simp only [List.flatMap_cons]
     rw [ih (fun j hj => h j (List.mem_cons_of_mem _ hj))]
     congr 1
     cases hl : listed1.getD x false with
     | true => rw [if_pos rfl]
     | false => rw [(hloose x (h x List.mem_cons_self) hl).2.1]; simp
   rw [this _ (fun j hj => List.mem_range.1 hj)]
  have hset : ∀ j, (listed1.setIfInBounds i1 true).getD j false = if j = i1 then true else listed1.getD j false := by
   intro j
   by_cases e : j = i1
   ·subst e; have : j < listed1.size := by omega
    simp [this]
   ·rw [if_neg e, getD_set_ne _ (Ne.symm e)]
  unfold wpOpIn
  simp only [hom]
  rw [show Region.wanted om (yielded ops a1.tmps) = true by simp [Region.wanted, hgm]]
  simp only [if_true]
  refine ⟨fun _ _ => trivial, ?_⟩
  have hxx := (hI1.ext.permR hp').ex hok.le
  have hs1 : SE C1 (HH ps' Hl i1) { e1 with T := eraseT e1.T (frDsts ops ms i1) } n a1 w1 := by
   refine ⟨⟨hI1.wr.perm hp', ?_, by rw [hI1.df]; show List.map (mark C1) e.D = _; rw [← hok.hD], by show ∀ i, i ∈ e1.D → _; rw [hok.hD]; exact hI1.du, hI1.sz⟩, hok.sub, hxx.fr hfr⟩
   intro t y hy
   rw [Tr.lk_ls] at hy
   obtain ⟨g1, g2⟩ := Z63 _ _ hy
   rcases Z33 i1 (hok.ag t y g1) with ⟨j, q1, q2, rfl⟩ | ⟨q1, q2⟩
   ·refine hI1.sl1 j t q1 (hlA j q1 ?_) q2
    cases hb : bitOf ms i1 j with
    | true => rfl
    | false => exact absurd (List.mem_filterMap.2 ⟨j, List.mem_range.2 q1, by rw [hb, cond_false]; exact q2⟩) g2
   ·exact hI1.sl0 t y q1 q2
  refine (Z1q (o := om) hE hst (fun _ _ _ h => by cases h)).2 C1 _ n a1 w1 hs1 ro inR _ _ hro ?_
  intro v w2 C2 Hl2 hv hw2 hh hfr2 hx2
  have hput : ∀ t', om.dst ≠ some t' → (a1.put om.dst v).tmps[t']? = a1.tmps[t']? := by
   intro t' hne
   cases hd : om.dst with
   | none => rfl
   | some d =>
    have hne' : d ≠ t' := by rintro rfl; exact hne hd
    simp [Act.put, Array.getElem?_setIfInBounds_ne hne']
  have hdd : ∀ j t, j < i1 → (ops[j]?).bind (·.dst) = some t → om.dst ≠ some t := by
   intro j t hj hjt hmt
   have h5 := List.all_eq_true.1 (List.all_eq_true.1 hDm i1 (List.mem_range.2 (Nat.lt_succ_self _))) j (List.mem_range.2 hj)
   have hb : (ops[i1]?).bind (·.dst) = some t := by rw [hom]; exact hmt
   rw [hb, hjt] at h5; simp at h5
  let ys2 : Nat → AV := fun j => if j = i1 then y else ys' j
  have hys2 : ∀ j, j < i1 → ys' j = ys2 j := fun j hj => (if_neg (by omega)).symm
  have hys3 : ys2 i1 = y := if_pos rfl
  refine Z7p hE hro hed hce (T0 := T0) (D := e.D) f (i1 + 1) _ _ h hd2 ys2 C2 Hl2 w2 (a1.put om.dst v) (listed1.setIfInBounds i1 true) fuel1 ?_ hok.hD hh hfr2 ((hex.trans hxx).trans hx2) hw2 (by simpa using hls1) (by have := Z3v hlt hls1 (hun1 i1 (Nat.le_refl _) hlt); omega) ?_ ?_ ?_ ?_ ?_ (fun j hj => hx2.le.U j (hI1.du j hj)) ?_ ?_
  ·have e1 : TT ops ys2 T0 (i1 + 1) = put (TT ops ys' T0 i1) om.dst y := by
    show put (TT ops ys2 T0 i1) ((ops[i1]?).bind (·.dst)) (ys2 i1) = _
    rw [hom, hys3, Z0n (ops := ops) (T0 := T0) i1 (fun j hj => (hys2 j hj).symm)]; rfl
   rw [e1]; exact hok.ag.put
  ·intro j hj hj2
   rw [hset, if_neg (by omega)]; exact hun1 j (by omega) hj2
  ·intro j hj hl
   rw [hset] at hl
   split at hl
   ·cases hl
   ·rename_i hne
    have hji : j < i1 := by omega
    obtain ⟨⟨oj, q1, q2, q3, Hn, q4, q5, q6⟩, _, hnb⟩ := hloose j hji hl
    refine LooseA.congr (ys := ys') ⟨oj, q1, q2, q3, Hn, q4, fun p hp => ?_, q6⟩ fun i' hi' => hys2 i' (by omega)
    obtain ⟨lt, lq, sz, i', c, hop, hev⟩ := q6 p hp
    have hsj := List.all_eq_true.1 hsm j (List.mem_range.2 hji)
    unfold sameAt at hsj
    rw [hnb, cond_false, q1] at hsj
    simp only [hop] at hsj
    have hst2 : ev (TT ops ys' T0 i1) lq = some (.ptr p.1 sz i' c) := by
     cases lq with
     | tmp t =>
      show lk (TT ops ys' T0 i1) t = _
      rw [Z6y (j := j) i1 (by omega) ?_]; exact hev
      intro j2 h8 h9 hjd
      have h7 := List.all_eq_true.1 hLk j (List.mem_range.2 hji)
      rw [q1] at h7
      have h10 := List.all_eq_true.1 (List.all_eq_true.1 h7 t (Z5f (by rw [hop]; simp [Op.operands]))) j2 (List.mem_range.2 h9)
      rw [hjd] at h10
      simp only [beq_self_eq_true, Bool.not_true, Bool.false_or, Bool.and_eq_true, Nat.blt_eq] at h10
      omega
     | const v => exact hev
     | func v => exact hev
     | global v => exact hev
    split at hsj
    ·rename_i id sz2 i2 c2 hy2
     have h11 := Z8y hok.ag.ls (show ev e1.T.ls lq = _ by rw [Z0f]; exact hy2)
     rw [hst2] at h11
     cases h11
     split at hsj
     ·rename_i a b ha hb
      have hab : e1.H.get p.1 = some b := by
       cases hot : otherB (eraseT e1.T (frDsts ops ms i1)) om.op p.1 with
       | true => exact Z7q (e := { e1 with T := eraseT e1.T (frDsts ops ms i1) }) hst hot hb
       | false => rw [hot, cond_false] at hsj; rw [ha, Zbr hsj]
      have hab := hab.symm.trans ha
      cases hab
      have h12 := Z66 (hI1.wr.perm hp').nd (hok.sub _ _ ha) (q5 p hp) rfl
      have h13 := hh _ _ hb
      rw [h12] at h13
      exact h13
     ·cases hsj
    ·rename_i hy2
     have h11 := Z8y hok.ag.ls (show ev e1.T.ls lq = _ by rw [Z0f]; exact hy2)
     rw [hst2] at h11
     cases h11
    ·cases hsj
  ·intro t z hz hno
   have hmt : om.dst ≠ some t := fun hmt => hno i1 (Nat.lt_succ_self _) (by rw [hom]; exact hmt)
   obtain ⟨u, q1, q2⟩ := hI1.sl0 t z hz fun j hj => hno j (by omega)
   exact ⟨u, by rw [hput t hmt]; exact q1, q2.mono hx2.le⟩
  ·intro j t hj hl hjt
   by_cases hji : j = i1
   ·subst hji
    have hmt : om.dst = some t := by rw [hom] at hjt; exact hjt
    refine ⟨v, ?_, by rw [hys3]; exact hv⟩
    have hlt1 : t < a1.tmps.size := by rw [hI1.sz]; exact Z0k hdm t hmt
    simp [Act.put, hmt, hlt1]
   ·rw [hset, if_neg hji] at hl
    obtain ⟨u, q1, q2⟩ := hI1.sl1 j t (by omega) hl hjt
    exact ⟨u, by rw [hput t (hdd j t (by omega) hjt)]; exact q1, by rw [← hys2 j (by omega)]; exact q2.mono hx2.le⟩
  ·have e1 : (a1.put om.dst v).defers = a1.defers := by cases om.dst <;> rfl
   rw [e1, hI1.df]
   exact List.map_congr_left fun j hj => by simp [mark, hx2.le.m j (hI1.du j hj), hx2.le.df j (hI1.du j hj)]
  ·have e1 : (a1.put om.dst v).tmps.size = a1.tmps.size := by cases om.dst <;> simp [Act.put]
   rw [e1]; exact hI1.sz
  ·intro j o2 ho2 hlj e he hb
   rw [hset]
   split
   ·rfl
   ·by_cases e2 : j = i1
    ·subst e2; rw [hom] at ho2; cases ho2; exact hdeps e he hb
    ·rw [hset, if_neg e2] at hlj; exact hI1.dn j o2 ho2 hlj e he hb
theorem Z9l {E : Ev} (hE : EvOk P E) {inR : Bool} {ops : Array Oper} {e e' : ES} {x : Exit} (h : evDraw E P n inR ops e = some (x, e')) : e'.H.R = e.H.R := by
 unfold evDraw at h
 cases hec : (okEdges ops && okCert ops (msksOf ops.toList)) with
 | false => rw [hec] at h; cases h
 | true => rw [hec, cond_true] at h; exact Z9m hE _ _ _ _ h
theorem Zbx {E : Ev} (hE : EvOk P E) {inR : Bool} {ro : Option Nat} (hro : ro ≠ none → inR = true) {id : Nat} {ops : Array Oper} {e e' : ES} {x : Exit} (hm : P.follows .mixedOrders = true) (h : evDraw E P n inR ops e = some (x, e')) : EOk P ro n (.region id ops true) e x e' := by
 refine ⟨Z9l hE h, ?_⟩
 intro C Hl a w hs
 unfold evDraw at h
 cases hec : (okEdges ops && okCert ops (msksOf ops.toList)) with
 | false => rw [hec] at h; cases h
 | true =>
 rw [hec, cond_true] at h
 rw [Bool.and_eq_true] at hec
 refine wpIn_region_any hm ?_
 have hw1 : WR C Hl { w with drawn := w.drawn + 1 } := ⟨hs.sr.wr.hp, hs.sr.wr.nd, fun i o hi => ⟨(hs.sr.wr.ids i o hi).1, (hs.sr.wr.ids i o hi).2.keep (.refl C) (hs.sr.wr.ids i o hi).1 (fun _ _ _ => rfl)⟩, hs.sr.wr.inj, hs.sr.wr.dis⟩
 have he1 : Ext [] C Hl w C Hl { w with drawn := w.drawn + 1 } := ⟨.refl C, fun _ _ h => h, rfl, rfl, rfl, Nat.le_refl _, fun _ _ _ => rfl, fun _ o h => .inl ⟨o, h⟩, fun b h => .inl h, fun i o h => .inl ⟨o, h⟩⟩
 have hf : ∀ i, (Array.replicate ops.size false).getD i false = false := by
  intro i
  rw [Array.getD_eq_getD_getElem?, Array.getElem?_replicate]
  split <;> rfl
 refine Z7p hE hro hec.1 hec.2 (T0 := e.T.ls) (D := e.D) (ops.size + 1) 0 e ops.toList h (by simp) (fun _ => .v undef) C Hl _ a _ ops.size (fun t y hy => by show lk e.T.ls t = some y; rw [Tr.lk_ls]; exact hy) rfl hs.hs hs.fr he1.same hw1 (by simp) ?_ (fun i _ _ => hf i) (fun j hj => absurd hj (Nat.not_lt_zero _)) (fun t y hy _ => hs.sr.sl t y hy) (fun j t hj => absurd hj (Nat.not_lt_zero _)) hs.sr.df hs.sr.du hs.sr.sz (fun i o _ hi => (by rw [hf] at hi; cases hi))
 unfold left
 rw [List.filter_eq_self.2 (fun i _ => by rw [hf]; rfl), List.length_range]
end
end Go.Sx
namespace Go.Sx
open Go
def Tr.toLF {α : Type} : Nat → Tr α → List (Nat × α)
 | 0, _ => []
 | _ + 1, .lf => []
 | f + 1, .nd l x r => (match x with | some v => [(0, v)] | none => []) ++ ((toLF f l).map fun p => (2 * p.1 + 1, p.2)) ++ ((toLF f r).map fun p => (2 * p.1 + 2, p.2))
theorem Tr.mem_toLF {α : Type} : ∀ (f : Nat) (t : Tr α) (k : Nat) (x : α), (k, x) ∈ Tr.toLF f t → Tr.getF f t k = some x
 | 0, t, k, x, h => by simp [Tr.toLF] at h
 | f + 1, .lf, k, x, h => by simp [Tr.toLF] at h
 | f + 1, .nd l y r, k, x, h => by
  simp only [Tr.toLF, List.mem_append, List.mem_map] at h
  rcases h with (h | ⟨p, h1, h2⟩) | ⟨p, h1, h2⟩
  ·cases y with
   | none => simp at h
   | some v => simp at h; obtain ⟨rfl, rfl⟩ := h; rfl
  ·cases h2
   have ih := Tr.mem_toLF f l p.1 p.2 h1
   have h3 : Nat.beq ((2 * p.1) % 2) 0 = true := by rw [show 2 * p.1 % 2 = 0 from by omega]; rfl
   have h4 : 2 * p.1 / 2 = p.1 := by omega
   simp only [Tr.getF, h3, h4, cond_true, ih]
  ·cases h2
   have ih := Tr.mem_toLF f r p.1 p.2 h1
   have h3 : Nat.beq ((2 * p.1 + 1) % 2) 0 = false := by rw [show (2 * p.1 + 1) % 2 = 1 from by omega]; rfl
   have h4 : (2 * p.1 + 1) / 2 = p.1 := by omega
   simp only [Tr.getF, h3, h4, cond_false, ih]
def Tr.toL (t : Tr AV) : List (Nat × AV) := Tr.toLF 40 t
theorem Zei : ∀ (l : List (Nat × AV)) (k : Nat) (x : AV), lk l k = some x → (k, x) ∈ l
 | [], k, x, h => by simp [lk] at h
 | (a, y) :: r, k, x, h => by
  simp only [lk] at h
  cases hb : Nat.beq a k with
  | true => rw [hb] at h; simp at h; subst h; have := Nat.eq_of_beq_eq_true hb; subst this; exact List.mem_cons_self
  | false => rw [hb] at h; exact List.mem_cons_of_mem _ (Zei r k x h)
theorem Tr.lk_toL {t : Tr AV} {k : Nat} {x : AV} (h : lk t.toL k = some x) : t.get k = some x := Tr.mem_toLF 40 t k x (Zei _ _ _ h)
def Tr.ofL : List (Nat × AV) → Tr AV
 | [] => .lf
 | (k, x) :: r => (Tr.ofL r).put k (some x)
theorem Tr.ofL_get : ∀ (l : List (Nat × AV)) (k : Nat) (x : AV), (Tr.ofL l).get k = some x → lk l k = some x
 | [], k, x, h => by simp [Tr.ofL, Tr.get, Tr.getF_lf] at h
 | (a, y) :: r, k, x, h => by
  simp only [Tr.ofL] at h
  simp only [lk]
  rcases Tr.put_get h with ⟨rfl, e⟩ | ⟨hne, e⟩
  ·cases e; simp
  ·have hb : Nat.beq a k = false := by
    cases hb : Nat.beq a k with
    | true => exact absurd (Nat.eq_of_beq_eq_true hb).symm hne
    | false => rfl
   rw [hb, cond_false]; exact Tr.ofL_get r k x e
def Tr.prm (T : Tr AV) : List Tmp → List AV → Tr AV
 | p :: ps, x :: xs => Tr.prm (T.put p (some x)) ps xs
 | _, _ => T
theorem Tr.prm_agree : ∀ (ps : List Tmp) (xs : List AV) (T : Tr AV) (l : List (Nat × AV)), Agree T l → Agree (T.prm ps xs) (Sx.prm l ps xs)
 | [], xs, T, l, h => by cases xs <;> exact h
 | p :: ps, [], T, l, h => h
 | p :: ps, x :: xs, T, l, h => by
  simp only [Tr.prm, Sx.prm]
  exact Tr.prm_agree ps xs _ _ (h.put (d := some p) (x := x))
section
variable {P : Program} {n : Nat}
def codeExit : Code → Option Exit
 | .exit i => some (.exit i)
 | .goto i => some (.goto i)
 | .ret => some .ret
 | _ => none
def evC (E : Ev) (P : Program) (n : Nat) (inR : Bool) (L : Nat) : Code → ES → Option (Exit × ES)
 | .skip, e => some (.normal, e)
 | .label _, e => some (.normal, e)
 | .exit i, e => some (.exit i, e)
 | .goto i, e => some (.goto i, e)
 | .ret, e => some (.ret, e)
 | .refuse _, _ => none
 | .seq a b, e => match evC E P n inR L a e with
  | some (.normal, e') => evC E P n inR L b e'
  | r => r
 | .cond c a b, e => match evT e.T c with
  | some (.v (.bool true)) => evC E P n inR L a e
  | some (.v (.bool false)) => evC E P n inR L b e
  | _ => none
 | .block id c, e => match evC E P n inR L c e with
  | some (.exit i, e') => some (if i = id then .normal else .exit i, e')
  | r => r
 | .scope c, e => match evC E P n inR L c e with
  | some (.goto _, _) => none
  | r => r
 | .loop c, e => evRounds (fun e => evC E P n inR L c e) L e
 | .region _ ops false, e => evOps E P n inR ops ops.toList e
 | .region _ ops true, e => evDraw E P n inR ops e
 | .rangeFunc g ps assign body, e => bif inR then none else match evT e.T g with
  | some (.fn (.func gf) caps) => bif Nat.blt (e.k + 1) MM && ps.all (fun t => Nat.blt t n) then (match E.call gf (.yld (e.k + 1) :: caps) ((e.H.put e.k (some (.raw (.deferred (some []))))).put (e.k + 1) (some (.loop e.T.toL n ps assign body .ready none))) (e.k + 2) with
   | some (.ret _, H', k') => match H'.get (e.k + 1) with
    | some (.loop _ _ _ _ _ .ready none) => some (.normal, ⟨e.T, H'.put (e.k + 1) none, e.k :: e.D, k'⟩)
    | some (.loop _ _ _ _ _ .done (some c)) => match codeExit c with
     | some x => some (x, ⟨e.T, H'.put (e.k + 1) none, e.k :: e.D, k'⟩)
     | none => none
    | _ => none
   | _ => none) else none
  | _ => none
theorem Z8q {ro : Option Nat} {c : Code} {x : Exit} {e : ES} (h : codeExit c = some x) : EOkW P ro n c e x e := by
 intro C Hl a w hs
 unfold codeExit at h
 split at h
 ·cases h; exact wpIn_exit ⟨rfl, C, Hl, hs, .refl ..⟩
 ·cases h; exact wpIn_goto ⟨rfl, C, Hl, hs, .refl ..⟩
 ·cases h; exact wpIn_ret ⟨rfl, C, Hl, hs, .refl ..⟩
 ·cases h
theorem Z6p {Z : List Nat} {C : Ctx} {Hl : AHeap} {w : World} {j id l N : Nat} {r : Loop} {T : List (Nat × AV)} {n : Nat} {ps : Array Tmp} {assign body : Code} {st st' : LoopState} {pend pend' : Option Code}
  (hw : WR C Hl w) (hj : Hl[j]? = some (id, .loop T n ps assign body st pend)) (hm : C.m id = some (l, N)) (hr : w.heap[l]? = some (.loop r)) :
  WR C (Hl.set j (id, .loop T n ps assign body st' pend')) (w.putObj l (.loop { r with state := st', pending := pend' })) ∧
   Ext Z C Hl w C (Hl.set j (id, .loop T n ps assign body st' pend')) (w.putObj l (.loop { r with state := st', pending := pend' })) := by
 obtain ⟨hu, hor⟩ := hw.ids _ _ (List.mem_of_getElem? hj)
 obtain ⟨r', h1, h2, h3, h4, h5, h6, h7, h8⟩ := Z1x hor hm
 rw [hr] at h1; cases h1
 refine Z0p hw hj (.refl C) rfl (.inl rfl) hu (fun _ _ h => h) rfl rfl rfl (by simp) (fun b N' h => .inl ⟨N', h⟩) (fun b hb hne => World.putObj_heap_other (by rintro rfl; exact hne N hm)) ?_
 exact ⟨l, N, _, hm, World.putObj_heap_same (Array.getElem?_eq_some_iff.1 hr).1, rfl, rfl, h4, h5, h6, h7, h8⟩
theorem SubH.set {C : Ctx} {Hl : AHeap} {w : World} {H : Hp} {j id : Nat} {ob ob' : AObj} (hw : WR C Hl w) (hs : SubH H Hl) (hf : getR H.R id = none) (hj : Hl[j]? = some (id, ob)) : SubH (H.put id (some ob')) (Hl.set j (id, ob')) := by
 refine hs.put hf (Z1n hj) ?_
 intro i o' hne hm
 obtain ⟨m, hm⟩ := Z1k hm
 exact Z1b hm (Z3b hw hj hm hne)
theorem SubH.setE {C : Ctx} {Hl : AHeap} {w : World} {H : Hp} {j id : Nat} {ob ob' : AObj} (hw : WR C Hl w) (hs : SubH H Hl) (hf : getR H.R id = none) (hj : Hl[j]? = some (id, ob)) : SubH (H.put id none) (Hl.set j (id, ob')) := by
 intro i o hg
 obtain ⟨hne, e2⟩ := Z7u hf hg
 obtain ⟨m, hm⟩ := Z1k (hs i o e2)
 exact Z1b hm (Z3b hw hj hm hne)
theorem Zas {E : Ev} (hE : EvOk P E) {L : Nat} {g : Operand} {ps : Array Tmp} {assign body : Code} {e : ES} {x : Exit} {e' : ES} (h : evC E P n false L (.rangeFunc g ps assign body) e = some (x, e')) : EOkW P none n (.rangeFunc g ps assign body) e x e' := by
 simp only [evC, cond_false] at h
 split at h
 ·rename_i gf caps hg
  cases hc : (Nat.blt (e.k + 1) MM && ps.all (fun t => Nat.blt t n)) with
  | false => rw [hc] at h; cases h
  | true =>
   rw [hc, cond_true] at h
   rw [Bool.and_eq_true, Nat.blt_eq] at hc
   split at h
   ·rename_i rx H' k' hcall
    have hcl := hE.call _ _ _ _ _ _ _ hcall
    intro C Hl a w hs
    refine wpIn_rangeFunc (F := Wd none) (n := 0) (fun fn _ => ?_)
    have f1 := hs.fr e.k (Nat.le_refl _) (by omega)
    have hZ : ∀ j, e.k ≤ j → j < e.k + 2 → j ∉ Zx e.k (e.k + 2) := fun j hj0 hj h => by have := (mem_Zx.1 h).2; omega
    have hd1 : OR (C.bind e.k w.heap.size 0) e.k (w.alloc (.deferred (some []))) (.raw (.deferred (some []))) := ⟨_, 0, Ctx.bind_m .., heap_alloc_new w _⟩
    obtain ⟨hw1, he1⟩ := Z26 (Z := Zx e.k (e.k + 2)) hs.sr.wr f1 (hZ _ (by omega) (by omega)) hd1
    have f2 : e.k + 1 ∉ (C.bind e.k w.heap.size 0).U := by
     intro h
     rcases List.mem_cons.1 h with h | h
     ·omega
     ·exact hs.fr (e.k + 1) (by omega) hc.1 h
    let rec0 : Loop := { state := .ready, pending := none, fn := fn, tmps := a.tmps, params := ps, assign := assign, body := body, defers := w.heap.size }
    let C2 := (C.bind e.k w.heap.size 0).bind (e.k + 1) (w.alloc (.deferred (some []))).heap.size 0
    let w2 := (w.alloc (.deferred (some []))).alloc (.loop rec0)
    have hsz1 : (w.alloc (.deferred (some []))).heap.size = w.heap.size + 1 := by simp
    have hl2 : OR C2 (e.k + 1) w2 (.loop e.T.toL n ps assign body .ready none) := by
     refine ⟨_, 0, rec0, Ctx.bind_m .., heap_alloc_new _ _, rfl, rfl, rfl, rfl, rfl, hs.sr.sz, fun t x ht => ?_⟩
     obtain ⟨v, h1, h2⟩ := hs.sr.sl t x (by rw [Tr.lk_ls]; exact Tr.lk_toL ht)
     exact ⟨v, h1, (h2.mono he1.le).mono (Ctx.le_bind f2)⟩
    obtain ⟨hw2, he2⟩ := Z26 (Z := Zx e.k (e.k + 2)) hw1 f2 (hZ _ (by omega) (by omega)) hl2
    have he12 := he1.trans he2
    have hm2 : C2.m (e.k + 1) = some (w.heap.size + 1, 0) := by rw [← hsz1]; exact Ctx.bind_m ..
    have hm1 : C2.m e.k = some (w.heap.size, 0) := by rw [he2.le.m e.k List.mem_cons_self]; exact Ctx.bind_m ..
    have hgv := hs.sr.ev (show ev e.T.ls g = some (.fn (.func gf) caps) by rw [Z0f]; exact hg)
    generalize hge : a.eval g = gv at hgv
    cases hgv with
    | fn _ _ vcaps hcl1 hcv =>
     refine ⟨w.heap.size + 1, [{ target := .collected w.heap.size, args := #[] }], w2, { target := .fn (.func gf) vcaps, args := #[.func (.yield (w.heap.size + 1)) #[] #[]] }, w2, gf, #[.func (.yield (w.heap.size + 1)) #[] #[]] ++ vcaps, w2, run_enterLoop_outer fn a.tmps ps assign body, ?_, fun _ _ => trivial, ?_, nofun, ?_⟩
     ·simp only [resolve, rangeCall, Deferred.ofValue, hge, Sem.run_pure]
      simp [Act.eval]
     ·simp only [invoke]; exact Z4o hcl.1 _ w2
     have hvs : VRs C2 (.yld (e.k + 1) :: caps) (#[.func (.yield (w.heap.size + 1)) #[] #[]] ++ vcaps) := by
      have h1 : VRs C2 [.yld (e.k + 1)] #[.func (.yield (w.heap.size + 1)) #[] #[]] := ⟨rfl, by
       intro i x v hx hv
       cases i with
       | zero => simp at hx hv; subst hx; subst hv; exact .yld (e.k + 1) _ 0 hm2 List.mem_cons_self
       | succ i => simp at hx⟩
      exact h1.append ⟨hcl1, fun i x v hx hv => ((hcv i x v hx hv).mono he1.le).mono he2.le⟩
     have hsub : SubH ((e.H.put e.k (some (.raw (.deferred (some []))))).put (e.k + 1) (some (.loop e.T.toL n ps assign body .ready none))) ((e.k + 1, .loop e.T.toL n ps assign body .ready none) :: (e.k, .raw (.deferred (some []))) :: Hl) :=
      (hs.hs.put (hs.hs.free hs.sr.wr hs.fr (Nat.le_refl _) (by omega)) List.mem_cons_self (fun i o _ h => List.mem_cons_of_mem _ h)).put (hs.hs.free hs.sr.wr hs.fr (Nat.le_succ _) (by omega)) List.mem_cons_self (fun i o _ h => List.mem_cons_of_mem _ h)
     have hx12 := he12.ex (by omega : e.k ≤ e.k + 2)
     have hfr2 : Fr (e.k + 2) C2 := hx12.fr hs.fr
     refine (hcl.2.2 C2 _ w2 _ hw2 hsub hfr2 hvs).mono ?_
     rintro en w3 ⟨C3, Hl3, x1, hw3, hh3, hf3, he3⟩
     have hm3 : C3.m (e.k + 1) = some (w.heap.size + 1, 0) := by rw [he3.le.m (e.k + 1) List.mem_cons_self]; exact hm2
     have fin : ∀ (T0 : List (Nat × AV)) (n0 : Nat) (ps0 : Array Tmp) (a0 b0 : Code) (st : LoopState) (pend : Option Code), H'.get (e.k + 1) = some (.loop T0 n0 ps0 a0 b0 st pend) → st ≠ .busy →
       ∃ w4 Hl4, (Instr.endLoop (w.heap.size + 1)).run P w3 = .ok pend w4 ∧ SE C3 Hl4 ⟨e.T, H'.put (e.k + 1) none, e.k :: e.D, k'⟩ n { a with defers := [{ target := .collected w.heap.size, args := #[] }] ++ a.defers } w4 ∧
        EX e.k C Hl w k' C3 Hl4 w4 := by
      intro T0 n0 ps0 a0 b0 st pend hget hst
      obtain ⟨j, hj⟩ := Z1k (hh3 _ _ hget)
      obtain ⟨_, hor⟩ := hw3.ids _ _ (List.mem_of_getElem? hj)
      obtain ⟨r, g1, g2, g3, _⟩ := Z1x hor hm3
      obtain ⟨ht1, ht2⟩ := Z6p (Z := []) (st' := .exhausted) (pend' := r.pending) hw3 hj hm3 g1
      refine ⟨_, _, by rw [← g3]; exact run_endLoop g1 (by rw [g2]; exact hst), ⟨⟨ht1, fun t x ht => ?_, ?_, ?_, hs.sr.sz⟩, hh3.setE hw3 (by rw [hcl.2.1]; exact hs.hs.free hs.sr.wr hs.fr (Nat.le_succ _) hc.1) hj, hf3⟩, ?_⟩
      ·obtain ⟨v, h1, h2⟩ := hs.sr.sl t x ht
       exact ⟨v, h1, (h2.mono he12.le).mono he3.le⟩
      ·simp only [List.map_cons, List.cons_append, List.nil_append]
       have e1 : mark C3 e.k = { target := .collected w.heap.size, args := #[] } := by
        simp [mark, he3.le.m e.k (List.mem_cons_of_mem _ List.mem_cons_self), hm1]
       rw [e1, hs.sr.df]
       congr 1
       exact List.map_congr_left fun i hi => by
        have e2 : C3.m i = C.m i := (he3.le.m i (he12.le.U i (hs.sr.du i hi))).trans (he12.le.m i (hs.sr.du i hi))
        have e3 : C3.df i = C.df i := (he3.le.df i (he12.le.U i (hs.sr.du i hi))).trans (he12.le.df i (hs.sr.du i hi))
        simp only [mark, e2, e3]
      ·intro i hi
       rcases List.mem_cons.1 hi with rfl | hi
       ·exact he3.le.U _ (List.mem_cons_of_mem _ List.mem_cons_self)
       ·exact he3.le.U i (he12.le.U i (hs.sr.du i hi))
      ·exact (hx12.trans he3).trans ht2.same
     cases en with
     | returned v' =>
      split at h
      ·rename_i T0 n0 ps0 a0 b0 hget
       cases h
       obtain ⟨w4, Hl4, h1, h2, h3⟩ := fin _ _ _ _ _ .ready none hget nofun
       exact ⟨none, w4, h1, rfl, C3, Hl4, h2, h3⟩
      ·rename_i T0 n0 ps0 a0 b0 c hget
       split at h
       ·rename_i y hy
        cases h
        obtain ⟨w4, Hl4, h1, h2, h3⟩ := fin _ _ _ _ _ .done (some c) hget nofun
        exact ⟨some c, w4, h1, wpIn_mono (Z8q hy C3 Hl4 _ w4 h2) fun x' a' w' hq => hq.from h3⟩
       ·cases h
      ·cases h
     | panicked ch => exact x1.elim
     | outgrown => exact x1.elim
   ·cases h
 ·cases h
theorem Z5b {ro : Option Nat} {f : ES → Option (Exit × ES)} {c : Code} {k0 : Nat} {C0 : Ctx} {H0 : AHeap} {w0 : World} (hf : ∀ e x e', f e = some (x, e') → EOkW P ro n c e x e') : ∀ (m : Nat) (e : ES) (x : Exit) (e' : ES), evRounds f m e = some (x, e') →
  ∀ C Hl a w, SE C Hl e n a w → EX k0 C0 H0 w0 e.k C Hl w → Code.roundsIn (Wd ro) 0 P c (EPost k0 C0 H0 w0 x e' n) m a w
 | 0, e, x, e', h, C, Hl, a, w, hs, hx => by simp [evRounds] at h
 | m + 1, e, x, e', h, C, Hl, a, w, hs, hx => by
  simp only [evRounds] at h
  rw [roundsIn_succ]
  split at h
  ·rename_i e1 h1
   refine wpIn_mono (hf _ _ _ h1 C Hl a w hs) ?_
   rintro x' a' w' ⟨rfl, C', Hl', hs', hx'⟩
   exact Z5b hf m e1 x e' h C' Hl' a' w' hs' (hx.trans hx')
  ·rename_i r hr
   refine wpIn_mono (hf _ _ _ h C Hl a w hs) ?_
   rintro x' a' w' ⟨rfl, q⟩
   have hq : EPost k0 C0 H0 w0 x' e' n x' a' w' := EPost.from hx ⟨rfl, q⟩
   cases x' with
   | normal => exact (hr e' h).elim
   | _ => exact hq
theorem Zfe {E : Ev} (hE : EvOk P E) {inR : Bool} {ro : Option Nat} (hro : ro ≠ none → inR = true) (hro2 : inR = false → ro = none) (hm : P.follows .mixedOrders = true) {L : Nat} : ∀ (c : Code) (e : ES) (x : Exit) (e' : ES), evC E P n inR L c e = some (x, e') → EOkW P ro n c e x e' := by
 intro c
 induction c with
 | skip => intro e x e' h C Hl a w hs; simp only [evC, Option.some.injEq, Prod.mk.injEq] at h; obtain ⟨rfl, rfl⟩ := h; exact wpIn_skip ⟨rfl, C, Hl, hs, .refl ..⟩
 | label l => intro e x e' h C Hl a w hs; simp only [evC, Option.some.injEq, Prod.mk.injEq] at h; obtain ⟨rfl, rfl⟩ := h; exact wpIn_label ⟨rfl, C, Hl, hs, .refl ..⟩
 | exit i => intro e x e' h C Hl a w hs; simp only [evC, Option.some.injEq, Prod.mk.injEq] at h; obtain ⟨rfl, rfl⟩ := h; exact wpIn_exit ⟨rfl, C, Hl, hs, .refl ..⟩
 | goto i => intro e x e' h C Hl a w hs; simp only [evC, Option.some.injEq, Prod.mk.injEq] at h; obtain ⟨rfl, rfl⟩ := h; exact wpIn_goto ⟨rfl, C, Hl, hs, .refl ..⟩
 | ret => intro e x e' h C Hl a w hs; simp only [evC, Option.some.injEq, Prod.mk.injEq] at h; obtain ⟨rfl, rfl⟩ := h; exact wpIn_ret ⟨rfl, C, Hl, hs, .refl ..⟩
 | refuse s => intro e x e' h; simp [evC] at h
 | seq a b iha ihb =>
  intro e x e' h C Hl ac w hs
  simp only [evC] at h
  refine wpIn_seq ?_
  split at h
  ·rename_i e1 h1
   refine wpIn_mono (iha _ _ _ h1 C Hl ac w hs) ?_
   rintro x' a' w' ⟨rfl, C', Hl', hs', hx'⟩
   exact wpIn_mono (ihb _ _ _ h C' Hl' a' w' hs') fun x2 a2 w2 hq => hq.from hx'
  ·rename_i r hr
   refine wpIn_mono (iha _ _ _ h C Hl ac w hs) ?_
   rintro x' a' w' ⟨rfl, q⟩
   cases x' with
   | normal => exact (hr e' h).elim
   | _ => exact ⟨rfl, q⟩
 | cond c a b iha ihb =>
  intro e x e' h C Hl ac w hs
  simp only [evC] at h
  split at h
  ·rename_i hc
   have := VR.val (hs.sr.ev (show ev e.T.ls c = some (.v (.bool true)) by rw [Z0f]; exact hc))
   exact wpIn_cond_split (t := true) this (fun _ => iha _ _ _ h C Hl ac w hs) nofun
  ·rename_i hc
   have := VR.val (hs.sr.ev (show ev e.T.ls c = some (.v (.bool false)) by rw [Z0f]; exact hc))
   exact wpIn_cond_split (t := false) this nofun (fun _ => ihb _ _ _ h C Hl ac w hs)
  ·cases h
 | block id c ih =>
  intro e x e' h C Hl ac w hs
  simp only [evC] at h
  refine wpIn_block ?_
  split at h
  ·rename_i i e1 h1
   simp only [Option.some.injEq, Prod.mk.injEq] at h
   obtain ⟨h2, rfl⟩ := h
   refine wpIn_mono (ih _ _ _ h1 C Hl ac w hs) ?_
   rintro x' a' w' ⟨rfl, q⟩
   subst h2
   by_cases hi : i = id
   ·simp only [Exit.inBlock, hi, if_true]; exact ⟨rfl, q⟩
   ·simp only [Exit.inBlock, hi, if_false]; exact ⟨rfl, q⟩
  ·rename_i r hr
   refine wpIn_mono (ih _ _ _ h C Hl ac w hs) ?_
   rintro x' a' w' ⟨rfl, q⟩
   cases x' with
   | exit i => exact (hr i e' h).elim
   | _ => exact ⟨rfl, q⟩
 | scope c ih =>
  intro e x e' h C Hl ac w hs
  simp only [evC] at h
  refine Z6d ?_
  split at h
  ·cases h
  ·rename_i r hr
   refine wpIn_mono (ih _ _ _ h C Hl ac w hs) ?_
   rintro x' a' w' ⟨rfl, q⟩
   cases x' with
   | goto i => exact (hr i e' h).elim
   | _ => exact ⟨rfl, q⟩
 | loop c ih =>
  intro e x e' h C Hl ac w hs
  simp only [evC] at h
  exact wpIn_loop_rounds L (Z5b ih L e x e' h C Hl ac w hs (.refl ..))
 | region id ops d =>
  intro e x e' h
  cases d with
  | false =>
   intro C Hl a w hs
   simp only [evC] at h
   refine wpIn_region ?_
   have := Z3s hE hro (C0 := C) (H0 := Hl) (w0 := w) ops.toList e h 0 (by simp) C Hl a w hs (.refl ..)
   rw [List.range_eq_range']
   simpa using this
  | true =>
   simp only [evC] at h
   exact (Zbx hE hro hm h).2
 | rangeFunc g ps assign body _ _ =>
  intro e x e' h
  cases inR with
  | true => simp [evC] at h
  | false =>
   have := hro2 rfl
   subst this
   exact Zas hE h
theorem Z65 {f : ES → Option (Exit × ES)} (hf : ∀ e x e', f e = some (x, e') → e'.H.R = e.H.R) : ∀ (m : Nat) (e : ES) (x : Exit) (e' : ES), evRounds f m e = some (x, e') → e'.H.R = e.H.R
 | 0, e, x, e', h => by simp [evRounds] at h
 | m + 1, e, x, e', h => by
  simp only [evRounds] at h
  split at h
  ·rename_i e1 h1; exact (Z65 hf m e1 x e' h).trans (hf _ _ _ h1)
  ·exact hf _ _ _ h
theorem Zbu {E : Ev} (hE : EvOk P E) {inR : Bool} (hm : P.follows .mixedOrders = true) {L : Nat} : ∀ (c : Code) (e : ES) (x : Exit) (e' : ES), evC E P n inR L c e = some (x, e') → e'.H.R = e.H.R := by
 intro c
 induction c with
 | skip => intro e x e' h; simp only [evC, Option.some.injEq, Prod.mk.injEq] at h; obtain ⟨rfl, rfl⟩ := h; rfl
 | label l => intro e x e' h; simp only [evC, Option.some.injEq, Prod.mk.injEq] at h; obtain ⟨rfl, rfl⟩ := h; rfl
 | exit i => intro e x e' h; simp only [evC, Option.some.injEq, Prod.mk.injEq] at h; obtain ⟨rfl, rfl⟩ := h; rfl
 | goto i => intro e x e' h; simp only [evC, Option.some.injEq, Prod.mk.injEq] at h; obtain ⟨rfl, rfl⟩ := h; rfl
 | ret => intro e x e' h; simp only [evC, Option.some.injEq, Prod.mk.injEq] at h; obtain ⟨rfl, rfl⟩ := h; rfl
 | refuse s => intro e x e' h; simp [evC] at h
 | seq a b iha ihb =>
  intro e x e' h
  simp only [evC] at h
  split at h
  ·rename_i e1 h1; exact (ihb _ _ _ h).trans (iha _ _ _ h1)
  ·exact iha _ _ _ h
 | cond c a b iha ihb =>
  intro e x e' h
  simp only [evC] at h
  split at h
  ·exact iha _ _ _ h
  ·exact ihb _ _ _ h
  ·cases h
 | block id c ih =>
  intro e x e' h
  simp only [evC] at h
  split at h
  ·rename_i i e1 h1
   simp only [Option.some.injEq, Prod.mk.injEq] at h
   obtain ⟨h2, rfl⟩ := h
   exact ih _ _ _ h1
  ·exact ih _ _ _ h
 | scope c ih =>
  intro e x e' h
  simp only [evC] at h
  split at h
  ·cases h
  ·exact ih _ _ _ h
 | loop c ih =>
  intro e x e' h
  simp only [evC] at h
  exact Z65 ih L e x e' h
 | region id ops d =>
  intro e x e' h
  cases d with
  | false => simp only [evC] at h; exact Z5a hE ops.toList e h
  | true => simp only [evC] at h; exact Z9l hE h
 | rangeFunc g ps assign body _ _ =>
  intro e x e' h
  simp only [evC] at h
  cases inR with
  | true => cases h
  | false =>
   rw [cond_false] at h
   split at h
   ·rename_i gf caps hg
    cases hc : (Nat.blt (e.k + 1) MM && ps.all (fun t => Nat.blt t n)) with
    | false => rw [hc] at h; cases h
    | true =>
     rw [hc, cond_true] at h
     split at h
     ·rename_i rx H' k' hcall
      have hR := (hE.call _ _ _ _ _ _ _ hcall).2.1
      split at h
      ·cases h; exact hR
      ·split at h
       ·cases h; exact hR
       ·cases h
      ·cases h
     ·cases h
   ·cases h
theorem Z9k {E : Ev} (hE : EvOk P E) {inR : Bool} {ro : Option Nat} (hro : ro ≠ none → inR = true) (hro2 : inR = false → ro = none) (hm : P.follows .mixedOrders = true) {L : Nat} (c : Code) (e : ES) (x : Exit) (e' : ES) (h : evC E P n inR L c e = some (x, e')) : EOk P ro n c e x e' :=
 ⟨Zbu hE hm c e x e' h, Zfe hE hro hro2 hm c e x e' h⟩
end
end Go.Sx
namespace Go.Sx
open Go
section
variable {P : Program} {n : Nat}
def evRes (P : Program) (T : Tr AV) (H : Hp) : List ResultVar → Option (List AV)
 | [] => some []
 | .tmp t :: r => match T.get t, evRes P T H r with
  | some x, some xs => some (x :: xs)
  | _, _ => none
 | .cell a t :: r => match T.get a, evRes P T H r with
  | some p, some xs => match evLoad P H t p with
   | some x => some (x :: xs)
   | none => none
  | _, _ => none
theorem Z4n {T : Tr AV} {H : Hp} {Hl : AHeap} (hs : SubH H Hl) : ∀ (rs : List ResultVar) (xs : List AV), evRes P T H rs = some xs → Res P T.ls Hl rs xs
 | [], xs, h => by simp only [evRes, Option.some.injEq] at h; subst h; trivial
 | .tmp t :: r, xs, h => by
  simp only [evRes] at h
  split at h
  ·rename_i x ys h1 h2
   cases h
   exact ⟨by rw [Tr.lk_ls]; exact h1, Z4n hs r ys h2⟩
  ·cases h
 | .cell a t :: r, xs, h => by
  simp only [evRes] at h
  split at h
  ·rename_i p ys h1 h2
   split at h
   ·rename_i x hx
    cases h
    refine ⟨⟨p, ?_⟩, Z4n hs r ys h2⟩
    unfold evLoad at hx
    split at hx
    ·rename_i id sz i c
     split at hx
     ·rename_i el sz' es hg
      split at hx
      ·rename_i e; subst e
       split at hx
       ·rename_i e he
        exact ⟨e.drop c, by rw [Tr.lk_ls]; exact h1, ⟨el, es, e, hs _ _ hg, he, rfl⟩, Z2v hx⟩
       ·cases hx
      ·cases hx
     ·cases hx
    ·rename_i es i c
     split at hx
     ·rename_i e he
      exact ⟨e.drop c, by rw [Tr.lk_ls]; exact h1, ⟨e, he, rfl⟩, Z2v hx⟩
     ·cases hx
    ·cases hx
   ·cases h
  ·cases h
def isRec : Op → Bool
 | .call ⟨.builtin .recover, _, _⟩ => true
 | _ => false
def recV : FrameMode → Value × FrameMode
 | .panicking ({ v, recovered := false, goexit := false } :: older) => (v, .panicking ({ v, recovered := true } :: older))
 | u => (.nilIface, u)
def evAsgs (n : Nat) : List Oper → Tr AV → Option (Tr AV)
 | [], T => some T
 | o :: r, T => match o.guard, o.dst, o.op with
  | none, some t, .assign p => bif Nat.blt t n then (match evT T p with
   | some x => evAsgs n r (T.put t (some x))
   | none => none) else none
  | _, _, _ => none
theorem Z59 {ops : Array Oper} {D : List Nat} {H : Hp} {k0 : Nat} {C : Ctx} {Hl : AHeap} {w : World} {cs : List Frame} {T' : Tr AV} {Q : Exit → Act → List Frame → World → Prop} : ∀ (l : List Oper) (T : Tr AV) (k : Nat), evAsgs n l T = some T' → ops.toList.drop k = l →
  ∀ a, SE C Hl ⟨T, H, D, k0⟩ n a w → (∀ a', SE C Hl ⟨T', H, D, k0⟩ n a' w → Q .normal a' cs w) → wpOpsSIn (Wd none) 0 P ops Q (List.range' k l.length) a cs w
 | [], T, k, h, hk, a, hs, hq => by
  simp only [evAsgs, Option.some.injEq] at h
  subst h
  simp only [List.length_nil, List.range'_zero, wpOpsSIn]
  exact hq a hs
 | o :: r, T, k, h, hk, a, hs, hq => by
  obtain ⟨h1, h2⟩ := Z07 hk
  have ho : ops[k]? = some o := by rw [← Array.getElem?_toList]; exact h1
  simp only [evAsgs] at h
  split at h
  ·rename_i t p hg hd hop
   cases hb : Nat.blt t n with
   | false => rw [hb] at h; cases h
   | true =>
    rw [hb, cond_true] at h
    split at h
    ·rename_i x hx
     rw [List.length_cons, List.range'_succ]
     simp only [wpOpsSIn, ho]
     have hw : Region.wanted o (yielded ops a.tmps) = true := by simp [Region.wanted, hg]
     have hrun : (execOp a.eval o).run P w = .ok (.value (a.eval p)) w := by simp [execOp, hop]
     refine ⟨fun _ _ => trivial, ?_⟩
     rw [if_pos hw, hrun]
     simp only
     refine Z59 r _ (k + 1) h h2 _ ?_ hq
     have hv := hs.sr.ev (show ev T.ls p = some x by rw [Z0f]; exact hx)
     have := hs.next (d := o.dst) (x := x) (v := a.eval p) (H' := H) (k' := k0) (by rw [hd]; exact hb) (.refl C) hv hs.sr.wr hs.hs hs.fr
     rw [hd] at this ⊢
     exact this
    ·cases h
  ·cases h
def evS (E : Ev) (P : Program) (n L : Nat) : Code → FrameMode → ES → Option (Exit × FrameMode × ES)
 | .seq a b, u, e => match evS E P n L a u e with
  | some (.normal, u', e') => evS E P n L b u' e'
  | r => r
 | .cond c a b, u, e => match evT e.T c with
  | some (.v (.bool true)) => evS E P n L a u e
  | some (.v (.bool false)) => evS E P n L b u e
  | _ => none
 | .region id ops d, u, e => match d, ops.toList with
  | false, o :: r => bif isRec o.op then (match o.guard, o.dst with
    | none, some t => bif Nat.blt t n then (match evAsgs n r (e.T.put t (some (.v (recV u).1))) with
     | some T' => some (.normal, (recV u).2, { e with T := T' })
     | none => none) else none
    | _, _ => none)
   else (match evC E P n false L (.region id ops d) e with
    | some (x, e') => some (x, u, e')
    | none => none)
  | _, _ => match evC E P n false L (.region id ops d) e with
    | some (x, e') => some (x, u, e')
    | none => none
 | c, u, e => match evC E P n false L c e with
  | some (x, e') => some (x, u, e')
  | none => none
def SPost (k0 : Nat) (C0 : Ctx) (H0 : AHeap) (w0 : World) (x : Exit) (u' : FrameMode) (e' : ES) (n : Nat) (c0 : Frame) (cs : List Frame) : Exit → Act → List Frame → World → Prop :=
 fun x' a' cs' w' => cs' = { c0 with mode := u' } :: cs ∧ EPost k0 C0 H0 w0 x e' n x' a' w'
theorem Zcp {c0 : Frame} {cs : List Frame} {u : FrameMode} (hu : c0.mode = u) : (recoverD (c0 :: cs) = some ((recV u).1, { c0 with mode := (recV u).2 } :: cs)) ∨ (recoverD (c0 :: cs) = none ∧ recV u = (.nilIface, u)) := by
 subst hu
 simp only [recoverD, recV]
 split
 ·rename_i v older h
  left
  simp only [h]
 ·rename_i h
  refine .inr ⟨rfl, ?_⟩
  split
  ·rename_i v older h2; exact (h v older h2).elim
  ·rfl
theorem Zfz {E : Ev} (hE : EvOk P E) (hm : P.follows .mixedOrders = true) {L : Nat} {k0 : Nat} {C0 : Ctx} {H0 : AHeap} {w0 : World} : ∀ (c : Code) (u : FrameMode) (e : ES) (x : Exit) (u' : FrameMode) (e' : ES), evS E P n L c u e = some (x, u', e') →
  ∀ C Hl a w, SE C Hl e n a w → EX k0 C0 H0 w0 e.k C Hl w → ∀ c0 cs, c0.mode = u → c.wpSIn (Wd none) 0 P (SPost k0 C0 H0 w0 x u' e' n c0 cs) a (c0 :: cs) w := by
 have plain : ∀ (c : Code) (u : FrameMode) (e : ES) (x : Exit) (u' : FrameMode) (e' : ES), (match evC E P n false L c e with | some (x, e') => some (x, u, e') | none => none) = some (x, u', e') →
  ∀ C Hl a w, SE C Hl e n a w → EX k0 C0 H0 w0 e.k C Hl w → ∀ c0 cs, c0.mode = u → c.wpSIn (Wd none) 0 P (SPost k0 C0 H0 w0 x u' e' n c0 cs) a (c0 :: cs) w := by
  intro c u e x u' e' h C Hl a w hs hx c0 cs hu
  split at h
  ·rename_i y e1 h1
   cases h
   subst hu
   refine wpSIn_of_wpIn rfl (wpIn_mono ((Z9k hE nofun (fun _ => rfl) hm c e x e' h1).2 C Hl a w hs) ?_)
   intro x2 a2 w2 hq
   exact ⟨rfl, hq.from hx⟩
  ·cases h
 intro c
 induction c with
 | seq a b iha ihb =>
  intro u e x u' e' h C Hl ac w hs hx c0 cs hu
  simp only [evS] at h
  refine wpSIn_seq ?_
  split at h
  ·rename_i u1 e1 h1
   have := iha _ _ _ _ _ h1 C Hl ac w hs hx c0 cs hu
   intro b0 k hb hr hF hroom
   obtain ⟨x2, a2, cs2, w2, hl, ⟨rfl, rfl, C2, Hl2, hs2, hx2⟩, harr⟩ := this b0 k hb hr hF hroom
   exact ⟨.normal, a2, _, w2, hl, ihb _ _ _ _ _ h C2 Hl2 a2 w2 hs2 hx2 { c0 with mode := u1 } cs rfl, harr⟩
  ·rename_i r hr
   have := iha _ _ _ _ _ h C Hl ac w hs hx c0 cs hu
   intro b0 k hb hr' hF hroom
   obtain ⟨x2, a2, cs2, w2, hl, ⟨hc, rfl, q⟩, harr⟩ := this b0 k hb hr' hF hroom
   refine ⟨x2, a2, cs2, w2, hl, ?_, harr⟩
   cases x2 with
   | normal => exact (hr u' e' h).elim
   | _ => exact ⟨hc, rfl, q⟩
 | cond c a b iha ihb =>
  intro u e x u' e' h C Hl ac w hs hx c0 cs hu
  simp only [evS] at h
  split at h
  ·rename_i hc
   have := VR.val (hs.sr.ev (show ev e.T.ls c = some (.v (.bool true)) by rw [Z0f]; exact hc))
   exact wpSIn_cond (t := true) this (iha _ _ _ _ _ h C Hl ac w hs hx c0 cs hu)
  ·rename_i hc
   have := VR.val (hs.sr.ev (show ev e.T.ls c = some (.v (.bool false)) by rw [Z0f]; exact hc))
   exact wpSIn_cond (t := false) this (ihb _ _ _ _ _ h C Hl ac w hs hx c0 cs hu)
  ·cases h
 | region id ops d =>
  intro u e x u' e' h C Hl ac w hs hx c0 cs hu
  simp only [evS] at h
  split at h
  ·rename_i o r ho
   cases hr : isRec o.op with
   | false => rw [hr] at h; exact plain _ _ _ _ _ _ h C Hl ac w hs hx c0 cs hu
   | true =>
    rw [hr, cond_true] at h
    split at h
    ·rename_i t hg hd
     cases hb : Nat.blt t n with
     | false => rw [hb] at h; cases h
     | true =>
      rw [hb, cond_true] at h
      split at h
      ·rename_i T' hT
       simp only [Option.some.injEq, Prod.mk.injEq] at h
       obtain ⟨rfl, rfl, rfl⟩ := h
       refine wpSIn_region ?_
       have hsz : ops.size = r.length + 1 := by rw [← Array.length_toList, ho]; rfl
       have h0 : ops[0]? = some o := by rw [← Array.getElem?_toList, ho]; rfl
       have hdr : ops.toList.drop 1 = r := by rw [ho]; rfl
       rw [hsz, List.range_eq_range', List.range'_succ]
       simp only [wpOpsSIn, h0]
       have hrec : (execOp ac.eval o).run P w = .ok .recover w := by
        unfold isRec at hr
        split at hr
        ·rename_i args ats hop
         simp [execOp, hop, resolve, invoke, builtin, Sem.run_bind, Sem.run_pure, Result.andThen]
        ·cases hr
       have hw : Region.wanted o (yielded ops ac.tmps) = true := by simp [Region.wanted, hg]
       refine ⟨fun _ _ => trivial, ?_⟩
       rw [if_pos hw, hrec]
       simp only
       have hnext : ∀ v, SE C Hl { e with T := e.T.put t (some (.v v)) } n (ac.put o.dst v) w := by
        intro v
        have := hs.next (d := o.dst) (x := .v v) (v := v) (H' := e.H) (k' := e.k) (by rw [hd]; exact hb) (.refl C) (.v v) hs.sr.wr hs.hs hs.fr
        rw [hd] at this ⊢
        exact this
       rcases Zcp (cs := cs) hu with h1 | ⟨h1, h2⟩
       ·rw [h1]; exact Z59 r _ (0 + 1) hT hdr _ (hnext _) fun a' hs' => ⟨rfl, rfl, C, Hl, hs', hx⟩
       ·rw [h1]
        rw [h2] at hT ⊢
        refine Z59 r _ (0 + 1) hT hdr _ (hnext _) fun a' hs' => ⟨?_, rfl, C, Hl, hs', hx⟩
        subst hu; rfl
      ·cases h
    ·cases h
  ·exact plain _ _ _ _ _ _ h C Hl ac w hs hx c0 cs hu
 | _ => intro u e x u' e' h C Hl ac w hs hx c0 cs hu; simp only [evS] at h; exact plain _ _ _ _ _ _ h C Hl ac w hs hx c0 cs hu
theorem Zfh {E : Ev} (hE : EvOk P E) (hm : P.follows .mixedOrders = true) {L : Nat} : ∀ (c : Code) (u : FrameMode) (e : ES) (x : Exit) (u' : FrameMode) (e' : ES), evS E P n L c u e = some (x, u', e') → e'.H.R = e.H.R := by
 have plain : ∀ (c : Code) (u : FrameMode) (e : ES) (x : Exit) (u' : FrameMode) (e' : ES), (match evC E P n false L c e with | some (x, e') => some (x, u, e') | none => none) = some (x, u', e') → e'.H.R = e.H.R := by
  intro c u e x u' e' h
  split at h
  ·rename_i y e1 h1; cases h; exact Zbu hE hm c e x e' h1
  ·cases h
 intro c
 induction c with
 | seq a b iha ihb =>
  intro u e x u' e' h
  simp only [evS] at h
  split at h
  ·rename_i u1 e1 h1; exact (ihb _ _ _ _ _ h).trans (iha _ _ _ _ _ h1)
  ·exact iha _ _ _ _ _ h
 | cond c a b iha ihb =>
  intro u e x u' e' h
  simp only [evS] at h
  split at h
  ·exact iha _ _ _ _ _ h
  ·exact ihb _ _ _ _ _ h
  ·cases h
 | region id ops d =>
  intro u e x u' e' h
  simp only [evS] at h
  split at h
  ·rename_i o r ho
   cases hr : isRec o.op with
   | false => rw [hr] at h; exact plain _ _ _ _ _ _ h
   | true =>
    rw [hr, cond_true] at h
    split at h
    ·rename_i t hg hd
     cases hb : Nat.blt t n with
     | false => rw [hb] at h; cases h
     | true =>
      rw [hb, cond_true] at h
      split at h
      ·simp only [Option.some.injEq, Prod.mk.injEq] at h
       obtain ⟨rfl, rfl, rfl⟩ := h
       rfl
      ·cases h
    ·cases h
  ·exact plain _ _ _ _ _ _ h
 | _ =>
  intro u e x u' e' h
  simp only [evS] at h
  first | exact plain .skip u e x u' e' h | exact plain .ret u e x u' e' h | exact plain (.label _) u e x u' e' h | exact plain (.exit _) u e x u' e' h | exact plain (.goto _) u e x u' e' h | (simp [evC] at h; done) | exact plain (.block _ _) u e x u' e' h | exact plain (.scope _) u e x u' e' h | exact plain (.loop _) u e x u' e' h | exact plain (.rangeFunc _ _ _ _) u e x u' e' h
abbrev DcF := Nat → List AV → FrameMode → Hp → Nat → Option (FrameMode × Hp × Nat)
def EDCall (P : Program) (f : Nat) (xs : List AV) (u : FrameMode) (H : Hp) (k : Nat) (u2 : FrameMode) (H' : Hp) (k' : Nat) : Prop :=
 Callable P f ∧ H'.R = H.R ∧ ∀ C Hl w vs, WR C Hl w → SubH H Hl → Fr k C → VRs C xs vs →
  CallsDIn (Wd none) 0 P f vs u w (fun en u' w' => ∃ C' Hl', (match en with | .returned _ => settle u' = u2 | .panicked ch => raised u' ch = u2 | .outgrown => False) ∧ WR C' Hl' w' ∧ SubH H' Hl' ∧ Fr k' C' ∧ EX k C Hl w k' C' Hl' w')
def evLeave (dc : DcF) : List Nat → FrameMode → Hp → Nat → Option (FrameMode × Hp × Nat)
 | [], u, H, k => some (u, H, k)
 | i :: D, u, H, k => match H.own i with
  | some (.raw (.deferred (some []))) => evLeave dc D u (H.put i none) k
  | some (.dfr (.func f) cs xs) => match dc f (xs ++ cs) u (H.put i none) k with
   | some (.run, _, _) => none
   | some (u', H', k') => evLeave dc D u' H' k'
   | none => none
  | _ => none
theorem Z3r {dc : DcF} (hdc : ∀ f xs u H k u' H' k', dc f xs u H k = some (u', H', k') → H'.R = H.R) {u2 : FrameMode} {H2 : Hp} {k2 : Nat} : ∀ (D : List Nat) (u : FrameMode) (H : Hp) (k : Nat), evLeave dc D u H k = some (u2, H2, k2) → H2.R = H.R
 | [], u, H, k, h => by simp only [evLeave, Option.some.injEq, Prod.mk.injEq] at h; obtain ⟨rfl, rfl, rfl⟩ := h; rfl
 | i :: D, u, H, k, h => by
  simp only [evLeave] at h
  split at h
  ·exact Z3r hdc D u (H.put i none) k h
  ·split at h
   ·cases h
   ·rename_i u' H' k' _ hd; exact (Z3r hdc D u' H' k' h).trans (hdc _ _ _ (H.put i none) _ _ _ _ hd)
   ·cases h
  ·cases h
theorem Z4a {dc : DcF} (hdc : ∀ f xs u H k u' H' k', dc f xs u H k = some (u', H', k') → EDCall P f xs u H k u' H' k') {fn : Func} {tmps : Array Value} {T : Tr AV} {R : Ending → World → Prop} {k0 : Nat} {C0 : Ctx} {H0 : AHeap} {w0 : World}
  {u2 : FrameMode} {H2 : Hp} {k2 : Nat} (hfin : ∀ C Hl w, (∀ t x, T.get t = some x → ∃ v, tmps[t]? = some v ∧ VR C x v) → WR C Hl w → SubH H2 Hl → Fr k2 C → EX k0 C0 H0 w0 k2 C Hl w → LeavesInM (Wd none) 0 P fn tmps R [] u2 w) :
  ∀ (D : List Nat) (u : FrameMode) (H : Hp) (k : Nat), u ≠ .run → evLeave dc D u H k = some (u2, H2, k2) → ∀ C Hl w, (∀ t x, T.get t = some x → ∃ v, tmps[t]? = some v ∧ VR C x v) → (∀ i, i ∈ D → i ∈ C.U) → WR C Hl w → SubH H Hl → Fr k C → EX k0 C0 H0 w0 k C Hl w →
   LeavesInM (Wd none) 0 P fn tmps R (D.map (mark C)) u w
 | [], u, H, k, hu, h, C, Hl, w, hT, hD, hw, hs, hf, hx => by
  simp only [evLeave, Option.some.injEq, Prod.mk.injEq] at h
  obtain ⟨rfl, rfl, rfl⟩ := h
  exact hfin C Hl w hT hw hs hf hx
 | i :: D, u, H, k, hu, h, C, Hl, w, hT, hD, hw, hs, hf, hx => by
  simp only [evLeave] at h
  simp only [List.map_cons, LeavesInM]
  refine ⟨hu, ?_⟩
  split at h
  ·rename_i hg0
   obtain ⟨hfree, hg⟩ := Hp.own_spec hg0
   left
   obtain ⟨hiu, b, N, hm, hh⟩ := hw.ids i _ (hs i _ hg)
   obtain ⟨j, hj⟩ := Z1k (hs i _ hg)
   obtain ⟨hw1, he1⟩ := Z0p (Z := []) (C' := C) (id' := i) (o' := .raw (.deferred none)) (w' := w.putObj b (.deferred none)) hw hj (.refl C) rfl (.inl rfl) hiu (fun _ _ h => h) rfl rfl rfl (by simp)
    (fun b' N' h => .inl ⟨N', h⟩) (fun b' hb hne => World.putObj_heap_other (by rintro rfl; exact hne N hm)) ⟨b, N, hm, World.putObj_heap_same (Array.getElem?_eq_some_iff.1 hh).1⟩
   refine ⟨b, w.putObj b (.deferred none), by simp [mark, hm], run_takeDeferred hh, ?_⟩
   exact Z4a hdc hfin D u _ k hu h C _ _ hT (fun i hi => hD i (List.mem_cons_of_mem _ hi)) hw1 (hs.setE hw hfree hj) hf (hx.trans he1.same)
  ·rename_i f cs xs hg0
   obtain ⟨hfree, hg⟩ := Hp.own_spec hg0
   right
   refine ⟨nofun, ?_⟩
   split at h
   ·cases h
   ·rename_i u' H' k' hne hd
    obtain ⟨hiu, hm, d, cv, hdf, ht, hcs, hxs⟩ := hw.ids i _ (hs i _ hg)
    have hmk : mark C i = d := by simp [mark, hm, hdf]
    have hcall := hdc _ _ _ _ _ _ _ _ hd
    have hvs : VRs C (xs ++ cs) (d.args ++ cv) := VRs.append hxs hcs
    refine ⟨.func f, cv, f, d.args ++ cv, by rw [hmk]; exact ht, ?_, fun _ _ => trivial, ?_⟩
    ·rw [hmk, ht]
     simp only [invoke]
     exact Z4o hcall.1 _ w
    ·refine CallsDIn.mono (hcall.2.2 C Hl w _ hw hs.erase hf hvs) ?_
     rintro en u1 w1 ⟨C1, Hl1, hen, hw1, hs1, hf1, hx1⟩
     have hT1 : ∀ t x, T.get t = some x → ∃ v, tmps[t]? = some v ∧ VR C1 x v := fun t x ht => let ⟨v, a, b⟩ := hT t x ht; ⟨v, a, b.mono hx1.le⟩
     have hmap : D.map (mark C) = D.map (mark C1) := List.map_congr_left fun j hj => by
      have := hD j (List.mem_cons_of_mem _ hj)
      simp [mark, hx1.le.m j this, hx1.le.df j this]
     have go : ∀ u3, u3 = u' → LeavesInM (Wd none) 0 P fn tmps R (D.map (mark C)) u3 w1 := by
      rintro u3 rfl
      rw [hmap]
      exact Z4a hdc hfin D u3 H' k' hne h C1 Hl1 w1 hT1 (fun j hj => hx1.le.U j (hD j (List.mem_cons_of_mem _ hj))) hw1 hs1 hf1 (hx.trans hx1)
     cases en with
     | returned v => exact go _ hen
     | panicked ch => exact go _ hen
     | outgrown => exact hen.elim
   ·cases h
  ·cases h
def argT (xs : List AV) : Tr AV := Tr.ofL (enum xs 0)
def evDc (E : Ev) (P : Program) (L : Nat) : DcF := fun f xs u H k => match P.funcs[f]? with
 | some fn => match fn.body with
  | some c => bif Nat.ble xs.length fn.ntmps then (match evS E P fn.ntmps L c u ⟨argT xs, H, [], k⟩ with
   | some (.normal, u', e') => match e'.D, evRes P e'.T e'.H fn.results.toList with
    | [], some _ => some (settle u', e'.H, e'.k)
    | _, _ => none
   | some (.ret, u', e') => match e'.D, evRes P e'.T e'.H fn.results.toList with
    | [], some _ => some (settle u', e'.H, e'.k)
    | _, _ => none
   | some (.panic ch, u', e') => match e'.D with
    | [] => some (raised u' ch, e'.H, e'.k)
    | _ => none
   | _ => none) else none
  | none => none
 | none => none
def NamesOk (P : Program) : Prop := ∀ (f : Nat) (fn : Func), P.funcs[f]? = some fn → (fn.name == "runtime.NumGoroutine") = false
theorem SE.enter {fn : Func} {xs : List AV} {vs : Array Value} {C : Ctx} {Hl : AHeap} {w : World} {H : Hp} {k : Nat} (hn0 : Nat.ble xs.length fn.ntmps = true) (hw : WR C Hl w) (hs : SubH H Hl) (hf : Fr k C) (hv : VRs C xs vs) :
  SE C Hl ⟨argT xs, H, [], k⟩ fn.ntmps { tmps := vs ++ Array.replicate (fn.ntmps - vs.size) undef, defers := [] } w := by
 have hn : xs.length ≤ fn.ntmps := Nat.le_of_ble_eq_true hn0
 refine ⟨⟨hw, ?_, rfl, nofun, ?_⟩, hs, hf⟩
 ·intro t x hx
  rw [Tr.lk_ls] at hx
  obtain ⟨i, rfl, hi⟩ := Z8z xs 0 t x (Tr.ofL_get _ _ _ hx)
  rw [Nat.zero_add]
  have hlt : i < vs.size := by rw [← hv.1]; exact (List.getElem?_eq_some_iff.1 hi).1
  have hvi : vs[i]? = some vs[i] := Array.getElem?_eq_getElem hlt
  exact ⟨vs[i], by rw [Array.getElem?_append_left hlt]; exact hvi, hv.2 i x _ hi hvi⟩
 ·have := hv.1
  simp only [Array.size_append, Array.size_replicate]
  omega
theorem Zbw {E : Ev} (hE : EvOk P E) (hm : P.follows .mixedOrders = true) {L : Nat} : ∀ f xs u H k u' H' k', evDc E P L f xs u H k = some (u', H', k') → H'.R = H.R := by
 intro f xs u H k u' H' k' h
 unfold evDc at h
 split at h
 ·rename_i fn hfn
  split at h
  ·rename_i c hc
   cases hn0 : Nat.ble xs.length fn.ntmps with
   | false => rw [hn0] at h; cases h
   | true =>
    rw [hn0, cond_true] at h
    split at h
    ·rename_i u1 e1 he
     split at h
     ·cases h; exact Zfh hE hm c u _ _ u1 e1 he
     ·cases h
    ·rename_i u1 e1 he
     split at h
     ·cases h; exact Zfh hE hm c u _ _ u1 e1 he
     ·cases h
    ·rename_i ch u1 e1 he
     split at h
     ·cases h; exact Zfh hE hm c u _ _ u1 e1 he
     ·cases h
    ·cases h
  ·cases h
 ·cases h
theorem Zff {E : Ev} (hE : EvOk P E) (hm : P.follows .mixedOrders = true) (hnm : NamesOk P) {L : Nat} : ∀ f xs u H k u' H' k', evDc E P L f xs u H k = some (u', H', k') → EDCall P f xs u H k u' H' k' := by
 intro f xs u H k u' H' k' h
 have hRR := Zbw hE hm f xs u H k u' H' k' h
 unfold evDc at h
 split at h
 ·rename_i fn hfn
  split at h
  ·rename_i c hc
   cases hn0 : Nat.ble xs.length fn.ntmps with
   | false => rw [hn0] at h; cases h
   | true =>
    rw [hn0, cond_true] at h
    refine ⟨⟨fn, hfn, by rw [hc]; rfl, hnm f fn hfn⟩, hRR, fun C Hl w vs hw hs hf hv => ?_⟩
    refine callsDIn_of_wpSIn hfn hc trivial fun c0 cs hu => ?_
    have hS := SE.enter (fn := fn) hn0 hw hs hf hv
    have run : ∀ x u1 e1, evS E P fn.ntmps L c u ⟨argT xs, H, [], k⟩ = some (x, u1, e1) → ∀ (Rr : Ending → FrameMode → World → Prop),
      (∀ C1 Hl1 a1 w1, SE C1 Hl1 e1 fn.ntmps a1 w1 → EX k C Hl w e1.k C1 Hl1 w1 → bodyPostS P fn c0 cs Rr x a1 ({ c0 with mode := u1 } :: cs) w1) →
      c.wpSIn (Wd none) 0 P (bodyPostS P fn c0 cs Rr) { tmps := vs ++ Array.replicate (fn.ntmps - vs.size) undef, defers := [] } (c0 :: cs) w := by
     intro x u1 e1 he Rr hk b kk hb hr hF hroom
     obtain ⟨x2, a2, cs2, w2, hl, ⟨hcs, rfl, C2, Hl2, hs2, hx2⟩, harr⟩ := Zfz hE hm c u _ x u1 e1 he C Hl _ w hS (.refl ..) c0 cs hu b kk hb hr hF hroom
     subst hcs
     exact ⟨x2, a2, _, w2, hl, hk C2 Hl2 a2 w2 hs2 hx2, harr⟩
    have ret : ∀ x u1 e1, (x = .normal ∨ x = .ret) → evS E P fn.ntmps L c u ⟨argT xs, H, [], k⟩ = some (x, u1, e1) → (match e1.D, evRes P e1.T e1.H fn.results.toList with | [], some _ => some (settle u1, e1.H, e1.k) | _, _ => none) = some (u', H', k') →
      c.wpSIn (Wd none) 0 P (bodyPostS P fn c0 cs (fun en u1 w' => ∃ C' Hl', (match en with | .returned _ => settle u1 = u' | .panicked ch => raised u1 ch = u' | .outgrown => False) ∧ WR C' Hl' w' ∧ SubH H' Hl' ∧ Fr k' C' ∧ EX k C Hl w k' C' Hl' w')) { tmps := vs ++ Array.replicate (fn.ntmps - vs.size) undef, defers := [] } (c0 :: cs) w := by
     intro x u1 e1 hx he hh
     split at hh
     ·rename_i ys hD hr
      cases hh
      refine run x u1 e1 he _ fun C1 Hl1 a1 w1 hs1 hx1 => ?_
      have hd : a1.defers = [] := by rw [hs1.sr.df]; show List.map (mark C1) e1.D = []; rw [hD]; rfl
      obtain ⟨v, g1, g2⟩ := Z3d (s := ⟨e1.T.ls, Hl1, e1.D, fn.ntmps⟩) (fn := fn) hs1.sr.wr hs1.sr.sl (Z4n hs1.hs _ _ hr)
      rcases hx with rfl | rfl <;> exact ⟨hd, u1, rfl, v, g1, C1, Hl1, rfl, hs1.sr.wr, hs1.hs, hs1.fr, hx1⟩
     ·cases hh
    split at h
    ·rename_i u1 e1 he; exact ret _ u1 e1 (.inl rfl) he h
    ·rename_i u1 e1 he; exact ret _ u1 e1 (.inr rfl) he h
    ·rename_i ch u1 e1 he
     split at h
     ·rename_i hD
      cases h
      refine run _ u1 e1 he _ fun C1 Hl1 a1 w1 hs1 hx1 => ?_
      have hd : a1.defers = [] := by rw [hs1.sr.df]; show List.map (mark C1) e1.D = []; rw [hD]; rfl
      exact ⟨hd, u1, rfl, C1, Hl1, rfl, hs1.sr.wr, hs1.hs, hs1.fr, hx1⟩
     ·cases h
    ·cases h
  ·cases h
 ·cases h
def evFun (E : Ev) (P : Program) (L : Nat) : CallF := fun f xs H k => match P.funcs[f]? with
 | some fn => match fn.body with
  | some c => bif Nat.ble xs.length fn.ntmps then (match evC E P fn.ntmps false L c ⟨argT xs, H, [], k⟩ with
   | some (x, e') => match (match x with | .normal => some FrameMode.returning | .ret => some .returning | .panic ch => some (.panicking ch) | _ => none) with
    | some u => match evLeave (evDc E P L) e'.D u e'.H e'.k with
     | some (.returning, H2, k2) => match evRes P e'.T H2 fn.results.toList with
      | some ys => some (.ret (mkRes ys), H2, k2)
      | none => none
     | some (.panicking ch, H2, k2) => some (.panic ch, H2, k2)
     | _ => none
    | none => none
   | none => none) else none
  | none => none
 | none => none
theorem Zds {E : Ev} (hE : EvOk P E) (hm : P.follows .mixedOrders = true) (hnm : NamesOk P) {L : Nat} : ∀ f xs H k r H' k', evFun E P L f xs H k = some (r, H', k') → ECall P f xs H k r H' k' := by
 intro f xs H k r H' k' h
 unfold evFun at h
 split at h
 ·rename_i fn hfn
  split at h
  ·rename_i c hc
   cases hn0 : Nat.ble xs.length fn.ntmps with
   | false => rw [hn0] at h; cases h
   | true =>
    rw [hn0, cond_true] at h
    split at h
    ·rename_i x e1 he
     split at h
     ·rename_i u hu
      have hRR : H'.R = H.R := by
       have h1 := Zbu hE hm c _ x e1 he
       split at h
       ·rename_i H2 k2 hl
        split at h
        ·cases h; exact (Z3r (Zbw hE hm) _ _ _ _ hl).trans h1
        ·cases h
       ·rename_i ch H2 k2 hl
        cases h; exact (Z3r (Zbw hE hm) _ _ _ _ hl).trans h1
       ·cases h
      refine ⟨⟨fn, hfn, by rw [hc]; rfl, hnm f fn hfn⟩, hRR, fun C Hl w vs hw hs hf hv => ?_⟩
      refine callsIn_of_wp_marks hfn hc trivial ?_ rfl
      have hS := SE.enter (fn := fn) hn0 hw hs hf hv
      refine wpIn_mono ((Z9k hE nofun (fun _ => rfl) hm c _ x e1 he).2 C Hl _ w hS) ?_
      rintro x' a1 w1 ⟨rfl, C1, Hl1, hs1, hx1⟩
      have hne : u ≠ .run := by rintro rfl; cases x' <;> cases hu
      have key : ∀ (u2 : FrameMode) (H2 : Hp) (k2 : Nat), evLeave (evDc E P L) e1.D u e1.H e1.k = some (u2, H2, k2) → (∀ C2 Hl2 w2, (∀ t x, e1.T.get t = some x → ∃ v, a1.tmps[t]? = some v ∧ VR C2 x v) → WR C2 Hl2 w2 → SubH H2 Hl2 → Fr k2 C2 → EX k C Hl w k2 C2 Hl2 w2 →
        LeavesInM (Wd none) 0 P fn a1.tmps (fun en w' => ∃ C' Hl', ER C' r en ∧ WR C' Hl' w' ∧ SubH H' Hl' ∧ Fr k' C' ∧ EX k C Hl w k' C' Hl' w') [] u2 w2) →
        LeavesInM (Wd none) 0 P fn a1.tmps (fun en w' => ∃ C' Hl', ER C' r en ∧ WR C' Hl' w' ∧ SubH H' Hl' ∧ Fr k' C' ∧ EX k C Hl w k' C' Hl' w') a1.defers u w1 := by
       intro u2 H2 k2 hl hfin
       rw [hs1.sr.df]
       exact Z4a (Zff hE hm hnm) hfin e1.D u e1.H e1.k hne hl C1 Hl1 w1 (fun t x ht => hs1.sr.sl t x (by rw [Tr.lk_ls]; exact ht)) hs1.sr.du hs1.sr.wr hs1.hs hs1.fr hx1
      have all : LeavesInM (Wd none) 0 P fn a1.tmps (fun en w' => ∃ C' Hl', ER C' r en ∧ WR C' Hl' w' ∧ SubH H' Hl' ∧ Fr k' C' ∧ EX k C Hl w k' C' Hl' w') a1.defers u w1 := by
       split at h
       ·rename_i H2 k2 hl
        split at h
        ·rename_i ys hr
         cases h
         refine key _ _ _ hl fun C2 Hl2 w2 hT hw2 hs2 hf2 hx2 => ?_
         simp only [LeavesInM, LeavesIn]
         obtain ⟨v, g1, g2⟩ := Z3d (s := ⟨e1.T.ls, Hl2, [], fn.ntmps⟩) (a := ⟨a1.tmps, []⟩) (fn := fn) hw2 (fun t x ht => hT t x (by rw [← Tr.lk_ls]; exact ht)) (Z4n hs2 _ _ hr)
         exact ⟨v, g1, C2, Hl2, g2, hw2, hs2, hf2, hx2⟩
        ·cases h
       ·rename_i ch H2 k2 hl
        cases h
        refine key _ _ _ hl fun C2 Hl2 w2 hT hw2 hs2 hf2 hx2 => ?_
        simp only [LeavesInM, LeavesIn]
        exact ⟨C2, Hl2, rfl, hw2, hs2, hf2, hx2⟩
       ·cases h
      cases x' with
      | normal => cases hu; exact all
      | ret => cases hu; exact all
      | panic ch => cases hu; exact all
      | _ => cases hu
     ·cases h
    ·cases h
  ·cases h
 ·cases h
end
end Go.Sx
namespace Go.Sx
open Go
section
variable {P : Program}
def exitCode : Exit → Option (Option Code)
 | .normal => some none
 | .ret => some (some .ret)
 | .exit i => some (some (.exit i))
 | .goto i => some (some (.goto i))
 | _ => none
def evRnd (E : Ev) (P : Program) (L : Nat) : CallF := fun id xs H k => match H.own id with
 | some (.loop T nn ps assign body .ready none) => bif Nat.beq ps.size xs.length && ps.all (fun t => Nat.blt t nn) then (match evC E P nn true L assign ⟨(Tr.ofL T).prm ps.toList xs, H, [], k⟩ with
  | some (.normal, e1) => match e1.H.get id with
   | some (.loop T1 n1 ps1 as1 b1 .ready none) => match e1.D, evC E P nn true L body ⟨e1.T, e1.H.put id (some (.loop T1 n1 ps1 as1 b1 .busy none)), [], e1.k⟩ with
    | [], some (x, e2) => match exitCode x, e2.H.get id with
     | some j, some (.loop T2 n2 ps2 as2 b2 _ _) => some (.ret (.v (.bool j.isNone)), e2.H.put id (some (.loop T2 n2 ps2 as2 b2 (if j.isNone then .ready else .done) j)), e2.k)
     | _, _ => none
    | _, _ => none
   | _ => none
  | _ => none) else none
 | _ => none
theorem Zdu {E : Ev} (hE : EvOk P E) (hm : P.follows .mixedOrders = true) {L : Nat} : ∀ id xs H k r H' k', evRnd E P L id xs H k = some (r, H', k') → ERound P id xs H k r H' k' := by
 intro id xs H k r H' k' h
 unfold evRnd at h
 split at h
 ·rename_i T nn ps assign body hg0
  obtain ⟨hfree, hg⟩ := Hp.own_spec hg0
  cases hc : (Nat.beq ps.size xs.length && ps.all (fun t => Nat.blt t nn)) with
  | false => rw [hc] at h; cases h
  | true =>
   rw [hc, cond_true] at h
   rw [Bool.and_eq_true] at hc
   have hps := Nat.eq_of_beq_eq_true hc.1
   split at h
   ·rename_i e1 he1
    split at h
    ·rename_i T1 n1 ps1 as1 b1 hg1
     split at h
     ·rename_i x e2 hD1 he2
      split at h
      ·rename_i j T2 n2 ps2 as2 b2 st2 pd2 hj hg2
       cases h
       have hR1 := Zbu hE hm assign _ _ _ he1
       have hR2 := Zbu hE hm body _ _ _ he2
       have f1 : getR e1.H.R id = none := by rw [hR1]; exact hfree
       have f2 : getR e2.H.R id = none := by rw [hR2]; exact f1
       refine ⟨hR2.trans hR1, ?_⟩
       intro C Hl w vs l N hml hw hs hf hv
       obtain ⟨hu, hor⟩ := hw.ids _ _ (hs _ _ hg)
       obtain ⟨r0, h1, h2, h3, h4, h5, h6, h7, h8⟩ := Z1x hor hml
       refine ⟨r0.fn, _, r0.assign, r0.body, run_yield h1 (by rw [← hv.1, ← hps, h4]), ?_⟩
       refine roundIn_of_wpIn (F := Wd none) trivial ?_
       have hfold : ((r0.params.zip vs).foldl (fun tmps (x : Tmp × Value) => tmps.setIfInBounds x.1 x.2) r0.tmps) = ((ps.toList.zip vs.toList).foldl (fun tmps (x : Tmp × Value) => tmps.setIfInBounds x.1 x.2) r0.tmps) := by
        rw [h4, ← Array.foldl_toList, Array.toList_zip]
       have hpn : ∀ t, t ∈ ps.toList → t < nn := by
        intro t ht
        have := Array.all_eq_true'.1 hc.2 t (by simpa using ht)
        rwa [Nat.blt_eq] at this
       obtain ⟨hq1, hq2⟩ := Z6s (C := C) (n := nn) ps.toList xs T r0.tmps vs.toList (by simpa using hps) (by rw [hv.1]; simp) hpn h7 h8 (fun i y v hy hvv => hv.2 i y v hy (by rw [← Array.getElem?_toList]; exact hvv))
       have hag : Agree ((Tr.ofL T).prm ps.toList xs) (prm T ps.toList xs) := Tr.prm_agree _ _ _ _ fun t y hy => Tr.ofL_get _ _ _ hy
       have hS : SE C Hl ⟨(Tr.ofL T).prm ps.toList xs, H, [], k⟩ nn { tmps := (r0.params.zip vs).foldl (fun tmps (x : Tmp × Value) => tmps.setIfInBounds x.1 x.2) r0.tmps, defers := [] } w := by
        refine ⟨⟨hw, ?_, rfl, nofun, ?_⟩, hs, hf⟩
        ·intro t y hy
         rw [hfold]
         exact hq2 t y (hag t y (by rw [← Tr.lk_ls]; exact hy))
        ·rw [hfold]; exact hq1
       rw [h5, h6]
       refine wpIn_mono ((Z9k (ro := some l) hE (fun _ => rfl) (fun h => by cases h) hm assign _ _ _ he1).2 C Hl _ w hS) ?_
       rintro x1 a1 w1 ⟨rfl, C1, Hl1, hs1, hx1⟩
       have hm1 : C1.m id = some (l, N) := by rw [hx1.le.m id hu]; exact hml
       obtain ⟨j1, hj1⟩ := Z1k (hs1.hs _ _ hg1)
       obtain ⟨_, hor1⟩ := hs1.sr.wr.ids _ _ (List.mem_of_getElem? hj1)
       obtain ⟨r1, g1, g2, g3, g4, g5, g6, g7, g8⟩ := Z1x hor1 hm1
       obtain ⟨hb1, hb2⟩ := Z6p (Z := []) (st' := .busy) (pend' := r1.pending) hs1.sr.wr hj1 hm1 g1
       refine ⟨_, run_beginRound g1 g2, ?_⟩
       rw [g3] at hb1 hb2
       have hS1 : SE C1 (Hl1.set j1 (id, .loop T1 n1 ps1 as1 b1 .busy none)) ⟨e1.T, e1.H.put id (some (.loop T1 n1 ps1 as1 b1 .busy none)), [], e1.k⟩ nn a1 (w1.putObj l (.loop { r1 with state := .busy })) := by
        have hdf := hs1.sr.df
        have hdu := hs1.sr.du
        simp only [hD1] at hdf hdu
        have e0 : ({ r1 with state := .busy, pending := none } : Loop) = { r1 with state := .busy } := by rw [← g3]
        rw [← e0]
        exact ⟨⟨hb1, hs1.sr.sl, hdf, nofun, hs1.sr.sz⟩, hs1.hs.set hs1.sr.wr f1 hj1, hs1.fr⟩
       refine wpIn_mono ((Z9k (ro := some l) hE (fun _ => rfl) (fun h => by cases h) hm body _ _ _ he2).2 C1 _ _ _ hS1) ?_
       rintro x2 a2 w2 ⟨rfl, C2, Hl2, hs2, hx2⟩
       have hx12 : EX k C Hl w e2.k C2 Hl2 w2 := by
        have e0 : ({ r1 with state := .busy, pending := none } : Loop) = { r1 with state := .busy } := by rw [← g3]
        rw [← e0] at hx2
        exact (hx1.trans hb2.same).trans hx2
       have hm2 : C2.m id = some (l, N) := by rw [hx12.le.m id hu]; exact hml
       obtain ⟨j2, hj2⟩ := Z1k (hs2.hs _ _ hg2)
       obtain ⟨_, hor2⟩ := hs2.sr.wr.ids _ _ (List.mem_of_getElem? hj2)
       obtain ⟨r2, k1, k2, k3, k4, k5, k6, k7, k8⟩ := Z1x hor2 hm2
       have big : ∀ jump : Option Code, ∃ v w4, (Instr.endRound l jump).run P w2 = .ok v w4 ∧ ∃ C' Hl', ER C' (.ret (.v (.bool jump.isNone))) (.returned v) ∧ WR C' Hl' w4 ∧ SubH (e2.H.put id (some (.loop T2 n2 ps2 as2 b2 (if jump.isNone then .ready else .done) jump))) Hl' ∧ Fr e2.k C' ∧ EX k C Hl w e2.k C' Hl' w4 := by
        intro jump
        obtain ⟨t1, t2⟩ := Z6p (Z := []) (st' := (if jump.isNone then .ready else .done)) (pend' := jump) hs2.sr.wr hj2 hm2 k1
        exact ⟨_, _, run_endRound jump k1, C2, _, .v _, t1, hs2.hs.set hs2.sr.wr f2 hj2, hs2.fr, hx12.trans t2.same⟩
       cases x2 with
       | normal => cases hj; exact big none
       | ret => cases hj; exact big (some .ret)
       | exit i => cases hj; exact big (some (.exit i))
       | goto i => cases hj; exact big (some (.goto i))
       | _ => cases hj
      ·cases h
     ·cases h
    ·cases h
   ·cases h
 ·cases h
def KOk (P : Program) (K : CallF) : Prop := ∀ f xs H k r H' k', K f xs H k = some (r, H', k') → ECall P f xs H k r H' k'
def noK : CallF := fun _ _ _ _ => none
def orK (K F : CallF) : CallF := fun f xs H k => match K f xs H k with
 | some r => some r
 | none => F f xs H k
theorem Zg1 {K F : CallF} (hK : KOk P K) (hF : KOk P F) : KOk P (orK K F) := by
 intro f xs H k r H' k' h
 unfold orK at h
 split at h
 ·rename_i r' hr; cases h; exact hK _ _ _ _ _ _ _ hr
 ·exact hF _ _ _ _ _ _ _ h
def evN (P : Program) (K : CallF) (L : Nat) : Nat → Ev
 | 0 => ⟨K, fun _ _ _ _ => none⟩
 | m + 1 => ⟨orK K (evFun (evN P K L m) P L), evRnd (evN P K L m) P L⟩
theorem Zc0 (hm : P.follows .mixedOrders = true) (hnm : NamesOk P) {K : CallF} (hK : KOk P K) {L : Nat} : ∀ m, EvOk P (evN P K L m)
 | 0 => ⟨hK, fun _ _ _ _ _ _ _ h => by simp [evN] at h⟩
 | m + 1 => ⟨Zg1 hK (Zds (Zc0 hm hnm hK m) hm hnm), Zdu (Zc0 hm hnm hK m) hm⟩
def namesOk (P : Program) : Bool := P.funcs.all fun fn => !(fn.name == "runtime.NumGoroutine")
theorem Z7x (h : namesOk P = true) : NamesOk P := by
 intro f fn hf
 have := Array.all_eq_true'.1 h fn (Array.mem_of_getElem? hf)
 simpa using this
theorem Z6z {K : CallF} (hK : KOk P K) {f L m : Nat} {v : Value} (hm : P.follows .mixedOrders = true) (hnm : namesOk P = true) (h : ((evN P K L m).call f [] ⟨.lf, []⟩ 0).map (fun r => r.1) = some (.ret (.v v))) : ACalls P f [] [] (Gives (.v v)) := by
 cases hc : (evN P K L m).call f [] ⟨.lf, []⟩ 0 with
 | none => rw [hc] at h; cases h
 | some r =>
  obtain ⟨r, H', k'⟩ := r
  rw [hc] at h
  simp only [Option.map_some, Option.some.injEq] at h
  subst h
  have hE := (Zc0 hm (Z7x hnm) hK m).call _ _ _ _ _ _ _ hc
  refine ⟨hE.1, fun Z C w vs hw hv => ?_⟩
  have hempty : WR (baseC w) [] w := Z9d w
  refine (hE.2.2 (baseC w) [] w vs hempty (fun i ob h => by simp [Hp.get, getR, Tr.get, Tr.getF_lf] at h) (fun _ _ _ => nofun) ⟨hv.1, fun i x u h => by simp at h⟩).mono ?_
  rintro en w' ⟨C', Hl', x1, x2, x3, x4, x5⟩
  refine ⟨C, [], .ret (.v v), ⟨rfl, rfl⟩, ⟨?_, List.nodup_nil, nofun, nofun, fun b ⟨i, o, N, h, _⟩ => by cases h⟩, ⟨.refl C, fun _ _ h => h, x5.x.os, x5.x.tape, x5.x.output, x5.x.size, ?_, fun _ o h => .inl ⟨o, h⟩, (fun b ⟨i, o, N, h, _⟩ => nomatch h), nofun⟩, ?_⟩
  ·intro b o hb
   have h1 := hw.hp b o hb
   have hlt : b < w.heap.size := (Array.getElem?_eq_some_iff.1 h1).1
   rw [x5.x.fr b hlt (fun ⟨i, o, N, h, _⟩ => by cases h)]; exact h1
  ·intro b hlt _
   exact x5.x.fr b hlt (fun ⟨i, o, N, h, _⟩ => by cases h)
  ·cases en with
   | returned u => have e := VR.val x1; subst e; exact .v _
   | panicked ch => exact x1.elim
   | outgrown => exact x1.elim
end
end Go.Sx
namespace Go.Sx
open Go
mutual
def AV.ren (ρ : Nat → Nat) : AV → AV
 | .v x => .v x
 | .agg cs => .agg (renL ρ cs)
 | .tup cs => .tup (renL ρ cs)
 | .lst es => .lst (renLL ρ es)
 | .own id sz off len => .own (ρ id) sz off len
 | .ptr id sz i c => .ptr (ρ id) sz i c
 | .elt es i c => .elt (renLL ρ es) i c
 | .fn f cap => .fn f (renL ρ cap)
 | .map id => .map (ρ id)
 | .ifc t x => .ifc t (AV.ren ρ x)
 | .yld id => .yld (ρ id)
def renL (ρ : Nat → Nat) : List AV → List AV
 | [] => []
 | x :: r => AV.ren ρ x :: renL ρ r
def renLL (ρ : Nat → Nat) : List (List AV) → List (List AV)
 | [] => []
 | l :: r => renL ρ l :: renLL ρ r
end
theorem Z6u (ρ : Nat → Nat) : ∀ l, renL ρ l = l.map (AV.ren ρ)
 | [] => rfl
 | x :: r => by rw [renL, Z6u ρ r]; rfl
theorem Z3z (ρ : Nat → Nat) : ∀ l, renLL ρ l = l.map (renL ρ)
 | [] => rfl
 | x :: r => by rw [renLL, Z3z ρ r]; rfl
theorem Z2e {ρ : Nat → Nat} {l : List AV} {i : Nat} {c : AV} (h : (renL ρ l)[i]? = some c) : ∃ d, l[i]? = some d ∧ c = d.ren ρ := by
 rw [Z6u, List.getElem?_map] at h
 cases hl : l[i]? with
 | none => rw [hl] at h; cases h
 | some d => rw [hl] at h; exact ⟨d, rfl, (Option.some.inj h).symm⟩
theorem Z1r {ρ : Nat → Nat} {l : List (List AV)} {i : Nat} {c : List AV} (h : (renLL ρ l)[i]? = some c) : ∃ d, l[i]? = some d ∧ c = renL ρ d := by
 rw [Z3z, List.getElem?_map] at h
 cases hl : l[i]? with
 | none => rw [hl] at h; cases h
 | some d => rw [hl] at h; exact ⟨d, rfl, (Option.some.inj h).symm⟩
theorem renL_len {ρ : Nat → Nat} {l : List AV} : (renL ρ l).length = l.length := by rw [Z6u, List.length_map]
theorem Z3y {ρ : Nat → Nat} {l : List (List AV)} : (renLL ρ l).length = l.length := by rw [Z3z, List.length_map]
theorem renLL_nil {ρ : Nat → Nat} {l : List (List AV)} : renLL ρ l = [] ↔ l = [] := by rw [Z3z, List.map_eq_nil_iff]
theorem VR.ren {C C' : Ctx} {ρ : Nat → Nat} (hhp : ∀ b o, C.hp b = some o → C'.hp b = some o) (hm : ∀ i, i ∈ C.U → ρ i ∈ C'.U ∧ C'.m (ρ i) = C.m i) {x : AV} {v : Value} (h : VR C x v) : VR C' (x.ren ρ) v := by
 induction h with
 | v x => exact .v x
 | agg cs vs hl _ ih =>
  refine .agg _ vs (renL_len.trans hl) fun i c x hc hx => ?_
  obtain ⟨d, hd, rfl⟩ := Z2e hc
  exact ih i d x hd hx
 | tup cs vs hl _ ih =>
  refine .tup _ vs (renL_len.trans hl) fun i c x hc hx => ?_
  obtain ⟨d, hd, rfl⟩ := Z2e hc
  exact ih i d x hd hx
 | lstNil => exact .lstNil
 | lst es a sz cap cells elem fz xs hs hb hz hc _ ho hcap ih =>
  have h := VR.lst (C := C') (renLL ρ es) a sz cap cells elem fz xs (fun e => hs (fun h => e (renLL_nil.2 h))) (fun e => hhp _ _ (hb (fun h => e (renLL_nil.2 h))))
   (fun e he => by
    obtain ⟨i, hi⟩ := List.mem_iff_getElem?.1 he
    obtain ⟨d, hd, rfl⟩ := Z1r hi
    rw [renL_len]; exact hz d (List.mem_of_getElem? hd))
   (fun i e j c h1 h2 => by
    obtain ⟨d, hd, rfl⟩ := Z1r h1
    obtain ⟨y, hy, rfl⟩ := Z2e h2
    exact hc i d j y hd hy)
   (fun i e j c h1 h2 => by
    obtain ⟨d, hd, rfl⟩ := Z1r h1
    obtain ⟨y, hy, rfl⟩ := Z2e h2
    exact ih i d j y hd hy)
   (fun i e j c h1 h2 => by
    obtain ⟨d, hd, rfl⟩ := Z1r h1
    obtain ⟨y, hy, rfl⟩ := Z2e h2
    exact ho i d j y hd hy)
   (by rw [Z3y]; exact hcap)
  rw [Z3y] at h
  exact h
 | own id sz off len b N cap hid hu hcap hlen hml => exact .own (ρ id) sz off len b N cap ((hm id hu).2.trans hid) (hm id hu).1 hcap hlen hml
 | ownNil id sz hid hu => exact .ownNil (ρ id) sz ((hm id hu).2.trans hid) (hm id hu).1
 | ptr id sz i c b N hid hu => exact .ptr (ρ id) sz i c b N ((hm id hu).2.trans hid) (hm id hu).1
 | elt es i c a sz cap n _ hz hi ih =>
  refine .elt (renLL ρ es) i c a sz cap n ih (fun e he => ?_) (by rw [Z3y]; exact hi)
  obtain ⟨j, hj⟩ := List.mem_iff_getElem?.1 he
  obtain ⟨d, hd, rfl⟩ := Z1r hj
  rw [renL_len]; exact hz d (List.mem_of_getElem? hd)
 | fn f cap vs hl _ ih =>
  refine .fn f _ vs (renL_len.trans hl) fun i c x hc hx => ?_
  obtain ⟨d, hd, rfl⟩ := Z2e hc
  exact ih i d x hd hx
 | map id b N hid hu => exact .map (ρ id) b N ((hm id hu).2.trans hid) (hm id hu).1
 | ifc t x v _ ih => exact .ifc t _ v ih
 | yld id l N hid hu => exact .yld (ρ id) l N ((hm id hu).2.trans hid) (hm id hu).1
def AObj.ren (ρ : Nat → Nat) : AObj → AObj
 | .rows el sz es => .rows el sz (renLL ρ es)
 | .mp es => .mp (es.map fun p => (p.1, p.2.ren ρ))
 | o => o
theorem OR.ren {C C' : Ctx} {ρ : Nat → Nat} {w : World} {i : Nat} {o : AObj} (hhp : ∀ b o, C.hp b = some o → C'.hp b = some o) (hm : ∀ i, i ∈ C.U → ρ i ∈ C'.U ∧ C'.m (ρ i) = C.m i) (hi : i ∈ C.U) (hp : plainOb o = true) (h : OR C i w o) : OR C' (ρ i) w (o.ren ρ) := by
 have hmi := (hm i hi).2
 cases o with
 | rows el sz es =>
  refine ⟨fun e he => ?_, ?_⟩
  ·obtain ⟨j, hj⟩ := List.mem_iff_getElem?.1 he
   obtain ⟨d, hd, rfl⟩ := Z1r hj
   rw [renL_len]; exact h.1 d (List.mem_of_getElem? hd)
  ·rcases h.2 with ⟨a, b⟩ | ⟨b, N, cells, hb, hh, hs, hl, hc⟩
   ·exact .inl ⟨hmi.trans a, renLL_nil.2 b⟩
   ·refine .inr ⟨b, N, cells, hmi.trans hb, hh, hs, by rw [Z3y]; exact hl, fun i e j c h1 h2 => ?_⟩
    obtain ⟨d, hd, rfl⟩ := Z1r h1
    obtain ⟨y, hy, rfl⟩ := Z2e h2
    obtain ⟨x, g1, g2, g3⟩ := hc i d j y hd hy
    exact ⟨x, g1, g2.ren hhp hm, g3⟩
 | mp es =>
  obtain ⟨b, N, ents, clock, hb, hh, hs, h1, h2, h3⟩ := h
  refine ⟨b, N, ents, clock, hmi.trans hb, hh, by rw [List.length_map]; exact hs, h1, h2, fun i k x hi => ?_⟩
  rw [List.getElem?_map] at hi
  cases he : es[i]? with
  | none => rw [he] at hi; cases hi
  | some p =>
   rw [he] at hi
   simp only [Option.map_some, Option.some.injEq, Prod.mk.injEq] at hi
   obtain ⟨rfl, rfl⟩ := hi
   obtain ⟨e, g1, g2, g3⟩ := h3 i p.1 p.2 he
   exact ⟨e, g1, g2, g3.ren hhp hm⟩
 | raw o =>
  obtain ⟨b, N, hb, hh⟩ := h
  exact ⟨b, N, hmi.trans hb, hh⟩
 | _ => cases hp
def renH (ρ : Nat → Nat) (H : AHeap) : AHeap := H.map fun p => (ρ p.1, p.2.ren ρ)
def AEnd.ren (ρ : Nat → Nat) : AEnd → AEnd
 | .ret x => .ret (x.ren ρ)
 | .panic ch => .panic ch
end Go.Sx
namespace Go.Sx
open Go
structure DCalls (P : Program) (f : Nat) (xs : List AV) (u : FrameMode) (H : AHeap) (u2 : FrameMode) (R : AHeap → Prop) : Prop where
 ok : Callable P f
 run : ∀ Z C w vs, WR C H w → VRs C xs vs → CallsDIn (Wd none) 0 P f vs u w (fun en u' w' => ∃ C' H', R H' ∧ (match en with | .returned _ => settle u' = u2 | .panicked ch => raised u' ch = u2 | .outgrown => False) ∧ WR C' H' w' ∧ Ext Z C H w C' H' w')
theorem DCalls.frame {P : Program} {f : Nat} {xs : List AV} {u u2 : FrameMode} {H : AHeap} {R : AHeap → Prop} (h : DCalls P f xs u H u2 R) (K Fr : AHeap) (hp : K.Perm (H ++ Fr)) :
  DCalls P f xs u K u2 (fun K' => ∃ H', R H' ∧ K' = H' ++ Fr) :=
 ⟨h.ok, fun Z C w vs hw hv => by
  have hw1 : WR C (H ++ Fr) w := hw.perm hp
  refine CallsDIn.mono (h.run Z C w vs hw1.left hv) ?_
  rintro e u' w' ⟨C', H', r, hu, hw', he⟩
  obtain ⟨h1, h2⟩ := he.frame hw1 hw'
  exact ⟨C', _, ⟨H', r, rfl⟩, hu, h1, h2.permL hp.symm⟩⟩
section
variable {P : Program} {ro : Option Nat} {Q : Exit → St → Prop} {ops : Array Oper} {o : Oper} {rest : List Oper} {s : St}
theorem Zac {fo : Operand} {args : Array Operand} {ats : Array TypeId} {f : Nat} {caps xs : List AV} {R : AEnd → AHeap → Prop} (Hf Fr : AHeap) (hw : Wanted ops s.T o true) (hd : dok o.dst s.n = true)
  (ho : o.op = .call { callee := .value fo, args := args, argTypes := ats }) (hfo : ev s.T fo = some (.fn (.func f) caps)) (hxs : evs s.T args.toList = some xs) (hp : s.H.Perm (Hf ++ Fr)) (hc : ACalls P f (xs ++ caps) Hf R)
  (h : ∀ x H', R (.ret x) H' → AOps P ro ops rest Q { s with T := put s.T o.dst x, H := H' ++ Fr }) (hpn : ∀ ch H', R (.panic ch) H' → Q (.panic ch) { s with H := H' ++ Fr }) : AOps P ro ops (o :: rest) Q s :=
 Z10 hw (Z5n Hf Fr ho hfo hxs hp hd hc h hpn)
end
def FinD (P : Program) (fn : Func) (R : AEnd → AHeap → Prop) (s : St) : FrameMode → AHeap → Prop
 | .returning, H2 => ∃ ys, Res P s.T H2 fn.results.toList ys ∧ ∃ H'', H''.Sublist H2 ∧ R (.ret (mkRes ys)) H''
 | .panicking ch, H2 => ∃ H'', H''.Sublist H2 ∧ R (.panic ch) H''
 | _, _ => False
def exitMode : Exit → Option FrameMode
 | .normal => some .returning
 | .ret => some .returning
 | .panic ch => some (.panicking ch)
 | _ => none
def RetD (P : Program) (fn : Func) (R : AEnd → AHeap → Prop) (x : Exit) (s : St) : Prop :=
 ∃ u, exitMode x = some u ∧ ((s.D = [] ∧ FinD P fn R s u s.H) ∨
  ∃ i g cs xs H1 u2 R1, s.D = [i] ∧ s.H.Perm ((i, .dfr (.func g) cs xs) :: H1) ∧ DCalls P g (xs ++ cs) u H1 u2 R1 ∧ ∀ H2, R1 H2 → FinD P fn R s u2 H2)
end Go.Sx
namespace Go.Sx
open Go
section
variable {P : Program} {ops : Array Oper} {o : Oper} {T : List (Nat × AV)}
def bstr (b : List Nat) : Str := ⟨(b.map UInt8.ofNat).toArray⟩
end
end Go.Sx
namespace Go.Sx
open Go
variable {P : Program} {ro : Option Nat} {Q : Exit → St → Prop} {s : St}
theorem Zd8 {x y : Code} {α : Type} (inv : α → St) (J : α → Prop) (h : AWp P ro x (thenQ (fun s' => ∃ a, J a ∧ Weak s' (inv a)) Q) s) (hy : ∀ a, J a → AWp P ro y Q (inv a)) : AWp P ro (.seq x y) Q s :=
 Z4 (Z9c h (by
  intro e s h
  cases e with
  | normal => obtain ⟨a, ja, hw⟩ := h; exact Z1d hw (hy a ja)
  | _ => exact h))
end Go.Sx
namespace Go.Sx
open Go
def PanR (ch : List PanicEntry) (Hn : AHeap) : AEnd → AHeap → Prop := fun e H => e = .panic ch ∧ H = Hn
section
variable {P : Program} {ro : Option Nat} {Q : Exit → St → Prop} {ops : Array Oper} {rest : List Oper} {o : Oper} {T : List (Nat × AV)} {H : AHeap} {D : List Nat} {n d ty : Nat} {po : String} {af : Array Edge}
end
section
variable {P : Program} {ro : Option Nat} {Q : Exit → St → Prop} {ops : Array Oper} {rest : List Oper} {o : Oper} {T : List (Nat × AV)} {H : AHeap} {D : List Nat} {n d ty : Nat} {po : String} {af : Array Edge}
end
section
variable {P : Program} {ro : Option Nat} {Q : Exit → St → Prop} {ops : Array Oper} {rest : List Oper} {T : List (Nat × AV)} {H : AHeap} {D : List Nat} {n d ty : Nat} {po : String} {af : Array Edge}
end
section
variable {P : Program} {ro : Option Nat} {Q : Exit → St → Prop} {ops : Array Oper} {rest : List Oper} {T : List (Nat × AV)} {H : AHeap} {D : List Nat} {n d ty : Nat} {po : String} {af : Array Edge} {op : Op} {x : AV}
theorem zTE {g gt : Nat} {og : Oper} (he : Eff P { dst := some d, op := op, type := ty, pos := po, after := af, guard := some (g, true) } T [] x []) (h : AOps P ro ops rest Q ⟨(d, x) :: T, H, D, n⟩) (g1 : ops[g]? = some og := by rfl) (g2 : og.dst = some gt := by rfl) (g3 : lk T gt = some (.v (.bool true)) := by rfl) (hd : Nat.blt d n = true := by rfl) : AOps P ro ops ({ dst := some d, op := op, type := ty, pos := po, after := af, guard := some (g, true) } :: rest) Q ⟨T, H, D, n⟩ := Z5 (wT rfl g1 g2 g3) hd he h
end
section
variable {P : Program} {ro : Option Nat} {Q : Exit → St → Prop} {ops : Array Oper} {rest : List Oper} {T : List (Nat × AV)} {H : AHeap} {D : List Nat} {n d ty : Nat} {po : String} {af : Array Edge} {op : Op} {x : AV}
end
section
variable {P : Program} {α : Type} {T : List (Nat × AV)} {o : Oper}
theorem Zf6 {t e n : Nat} {p q : Operand} {f : α → List AV} {l : List α} {kd : IntKind} {k : Int} [h : UD P t (.slice e)] {bb : Bool} [k1 : TK P e bb n] (hf : ∀ a, (f a).length = n) (j : Nat) (hj : j < l.length) (ho : o.op = .indexAddr t p q) (hp : ev T p = some (.lst (l.map f))) (hq : ev T q = some (.v (.int kd k))) (hk : k = (j : Int)) : Eff P o T [] (.elt (l.map f) j 0) [] := by
 subst hk
 exact Z0u ho hp hq (fun e he => by obtain ⟨a, _, rfl⟩ := List.mem_map.1 he; exact hf a) (Int.natCast_nonneg _) (by simp only [List.length_map]; omega)
theorem Zf7 {t c : Nat} {p : Operand} {f : α → List AV} {l : List α} {j : Nat} {x : AV} (hj : j < l.length) (ho : o.op = .load t p) (hp : ev T p = some (.elt (l.map f) j c)) (hx : Ld P t ((f l[j]).drop c) x) : Eff P o T [] x [] :=
 Z53 ho hp (by rw [List.getElem?_map, List.getElem?_eq_getElem hj]; rfl) hx
end
theorem Zft {P : Program} {ops : Array Oper} {rest : List Oper} {T : List (Nat × AV)} {H : AHeap} {D : List Nat} {n d ty : Nat} {po : String} {af : Array Edge} {op : Op} {x : AV} {H0 : AHeap} {KK : St → Prop} {kk : Nat} {M : List (Nat × (Nat × AObj))} {g gt : Nat} {gb : Bool} {og : Oper} (he : Eff P { dst := some d, op := op, type := ty, pos := po, after := af, guard := some (g, gb) } T [] x []) (h : Calm P ops H0 KK (kk + 1) rest M ⟨(d, x) :: T, H, D, n⟩) (g1 : ops[g]? = some og := by rfl) (g2 : og.dst = some gt := by rfl) (g3 : lk T gt = some (.v (.bool gb)) := by rfl) (hd : Nat.blt d n = true := by rfl) : Calm P ops H0 KK kk ({ dst := some d, op := op, type := ty, pos := po, after := af, guard := some (g, gb) } :: rest) M ⟨T, H, D, n⟩ := Za (wY rfl g1 g2 g3) hd he h
end Go.Sx
namespace Go.Sx
open Go Go.Proofs
abbrev solC (es : List Edg) : List AV := [.v (.slice none 0 0), .v (.slice none 0 0), .v (.slice none 0 0), .lst (es.map Edg.cells), .v (.slice none 0 0)]
abbrev solA (es : List Edg) : AV := .agg (solC es)
def endsF (es : List Edg) (f : Edg → Bool) (g : Edg → MRef) (i : Nat) : List MRef := ((es.take i).filter f).map g
theorem Zbq (es : List Edg) (f : Edg → Bool) (g : Edg → MRef) {i : Nat} (hi : i < es.length) : endsF es f g (i + 1) = if f es[i] then endsF es f g i ++ [g es[i]] else endsF es f g i := by
 unfold endsF
 rw [List.take_succ_eq_append_getElem hi, List.filter_append, List.map_append]
 by_cases h : f es[i] = true
 ·simp [h]
 ·simp [h]
theorem Z6m (es : List Edg) (f : Edg → Bool) (g : Edg → MRef) (i : Nat) : (endsF es f g i).length ≤ es.length := by
 unfold endsF
 rw [List.length_map]
 have h1 := List.length_filter_le f (es.take i)
 have h2 : (es.take i).length ≤ es.length := by rw [List.length_take]; omega
 omega
theorem Zee (es : List Edg) (hl : es.length ≤ 1000) (k : Nat) (m : MRef) (g1 g2 : Nat) (f : Edg → Bool) (g : Edg → MRef)
  (h1 : ∀ e, ACalls Tryz.prog g1 [e.av, .ptr k 3 0 0] [(k, .rows 24 3 [m.cells])] (GivesH (bA (f e)) [(k, .rows 24 3 [m.cells])]))
  (h2 : ∀ e, ACalls Tryz.prog g2 [e.av] [] (Gives (g e).av)) :
  ACalls Tryz.prog 12 [solA es, .fn (.func g1) [.ptr k 3 0 0], .fn (.func g2) []] [(k, .rows 24 3 [m.cells])] (GP (fun q : Nat => .own q 3 0 (risM (endsF es f g es.length)).length) (fun q => [(q, .rows 24 3 ((risM (endsF es f g es.length)).map MRef.cells))]) (fun _ => True)) := by
 refine Zw (n := 29) Tryz.func12 rfl (by decide +kernel) rfl rfl ?_
 refine wk ?_
 refine Zb3 (fun idb => ?_)
 refine zA ?_
 refine zN ?_
 refine tqN ?_
 refine qS ?_
 refine qR ?_
 refine Z1a (w0 rfl) rfl (fun id => Zfc id 24 3 (.inl rfl) rfl) (fun id => ?_)
 refine wk ?_
 refine Z06 (α := Nat × Nat) (fun y => ⟨[(13, iA y.2), (12, iA es.length), (11, .lst (es.map Edg.cells)), (1, .fn (.func g1) [.ptr k 3 0 0]), (2, .fn (.func g2) []), (7, .own y.1 3 0 (endsF es f g y.2).length)], [(y.1, .rows 24 3 ((endsF es f g y.2).map MRef.cells)), (k, .rows 24 3 [m.cells])], [], 29⟩) (fun y => y.2 ≤ es.length) (fun y => es.length - y.2) (id, 0) (Nat.zero_le _) (Z8 [0, 2] ⟨rfl, (by show some (iA _) = some (iA _); rw [List.length_map]), rfl, rfl, rfl, rfl, trivial⟩ rfl (by simp) rfl rfl) ?_
 rintro ⟨id, i⟩ hJ
 simp only at hJ
 have hel := Z6m es f g i
 refine wk ?_
 refine Ze rfl (fun hc => ?_) (fun hc => ?_)
 rotate_left
 ·have hi : ¬ i < es.length := by simpa using hc
  clear hc
  have hi : i = es.length := by omega
  subst hi
  refine wk ?_
  refine zCP [(id, .rows 24 3 ((endsF es f g es.length).map MRef.cells))] [(k, .rows 24 3 [m.cells])] (.refl _) (Zde id (endsF es f g es.length).length (endsF es f g es.length) rfl (by omega)) (fun _ _ => ?_)
  refine wk ?_
  exact Zr rfl (Zy rfl Zu) (.cons_cons _ (List.nil_sublist _)) (gp id trivial rfl rfl)
 have hi : i < es.length := by simpa using hc
 clear hc
 have he := Zbq es f g hi
 refine wk ?_
 refine zE (Zf6 (f := Edg.cells) (n := 7) (fun _ => rfl) i hi rfl rfl rfl rfl) ?_
 refine zE (Zf7 (f := Edg.cells) (x := es[i].av) hi rfl rfl Zc4) ?_
 refine Zhr (fun id7 => ?_)
 refine wk ?_
 refine zCH 2 (h1 es[i]) ?_
 refine zN ?_
 refine tqN ?_
 cases hf : f es[i] with
 | false =>
  rw [hf, if_neg (by decide)] at he
  refine wk ?_
  exact ⟨(id, i + 1), (by show i + 1 ≤ es.length; omega), (by show es.length - (i + 1) < es.length - i; omega), Z8 [1, 2] ⟨rfl, rfl, rfl, rfl, rfl, (by show some (AV.own _ _ _ _) = some (AV.own _ _ _ _); rw [he]), trivial⟩ (by show some [(_, AObj.rows _ _ _), (_, AObj.rows _ _ _)] = some [(_, AObj.rows _ _ _), (_, AObj.rows _ _ _)]; rw [he]) (by decide) rfl rfl⟩
 | true =>
  rw [hf, if_pos rfl] at he
  refine wk ?_
  refine zCG (h2 es[i]) ?_
  refine Z1a (w0 rfl) rfl (fun id => Z11 id (ps := [(0, .tmp 23)]) rfl rfl rfl rfl rfl rfl rfl rfl) (fun id3 => ?_)
  refine Z34 2 (w0 rfl) rfl rfl rfl rfl (by simp) rfl ⟨rfl, _, _, List.mem_of_getElem? (i := 0) rfl, by simp, rfl⟩ (by simp; omega) (by simp [maxLen]; omega) (fun id4 => ?_)
  refine wk ?_
  exact ⟨(id4, i + 1), (by show i + 1 ≤ es.length; omega), (by show es.length - (i + 1) < es.length - i; omega), Z8 [2, 3] ⟨rfl, rfl, rfl, rfl, rfl, (by show some (AV.own _ _ _ _) = some (AV.own _ _ _ _); rw [he]; simp), trivial⟩ (by show some [(_, AObj.rows _ _ _), (_, AObj.rows _ _ _)] = some [(_, AObj.rows _ _ _), (_, AObj.rows _ _ _)]; rw [he]; simp [cellsA]; rfl) (by decide) rfl rfl⟩
def calleesL (es : List Edg) (m : MRef) : List MRef := risM (endsF es (fun e => decide (e.m = m)) Edg.t es.length)
def callersL (es : List Edg) (m : MRef) : List MRef := risM (endsF es (fun e => decide (e.t = m)) Edg.m es.length)
theorem Z79 (es : List Edg) (hl : es.length ≤ 1000) (m : MRef) : ACalls Tryz.prog 6 [solA es, m.av] [] (GP (fun q : Nat => .own q 3 0 (calleesL es m).length) (fun q => [(q, .rows 24 3 ((calleesL es m).map MRef.cells))]) (fun _ => True)) := by
 refine Zw (n := 8) Tryz.func6 rfl (by decide +kernel) rfl rfl ?_
 refine wk ?_
 refine Zb3 (fun id1 => ?_)
 refine Zb3 (fun id2 => ?_)
 refine wk ?_
 refine zE (Z1v rfl rfl) ?_
 refine zCP [(id2, .rows 24 3 [m.cells])] [(id1, .rows 30 5 [solC es])] (.refl _) (Zee es hl id2 m 13 14 _ _ (fun e => Zhj e id2 m) Zhk) (fun q _ => ?_)
 refine wk ?_
 exact Zr rfl (Zy rfl Zu) (.cons_cons _ (List.nil_sublist _)) (gp q trivial rfl rfl)
theorem Zbc (es : List Edg) (hl : es.length ≤ 1000) (m : MRef) : ACalls Tryz.prog 7 [solA es, m.av] [] (GP (fun q : Nat => .own q 3 0 (callersL es m).length) (fun q => [(q, .rows 24 3 ((callersL es m).map MRef.cells))]) (fun _ => True)) := by
 refine Zw (n := 8) Tryz.func7 rfl (by decide +kernel) rfl rfl ?_
 refine wk ?_
 refine Zb3 (fun id1 => ?_)
 refine Zb3 (fun id2 => ?_)
 refine wk ?_
 refine zE (Z1v rfl rfl) ?_
 refine zCP [(id2, .rows 24 3 [m.cells])] [(id1, .rows 30 5 [solC es])] (.refl _) (Zee es hl id2 m 15 16 _ _ (fun e => Zhl e id2 m) Zhm) (fun q _ => ?_)
 refine wk ?_
 exact Zr rfl (Zy rfl Zu) (.cons_cons _ (List.nil_sublist _)) (gp q trivial rfl rfl)
end Go.Sx
namespace Go.Sx
open Go
section
variable {α : Type} [DecidableEq α]
abbrev setF (kv : α → List Value) (out : List α) : List (Value × AV) := fmp kv (out.map fun x => (x, bA true))
theorem Zdv (out : List α) (k : α) : fget (out.map fun x => (x, bA true)) k = if k ∈ out then some (bA true) else none := by
 induction out with
 | nil => rfl
 | cons x out ih =>
  rw [List.map_cons]
  unfold fget
  by_cases h : k = x
  ·subst h
   simp
  ·rw [decide_eq_false h, cond_false, ih]
   simp [h]
theorem Zdy {out : List α} {k : α} (h : k ∉ out) : fput (out.map fun x => (x, bA true)) k (bA true) = (out ++ [k]).map fun x => (x, bA true) := by
 induction out with
 | nil => rfl
 | cons x out ih =>
  rw [List.map_cons]
  unfold fput
  have h1 : ¬ k = x := fun e => h (by rw [e]; exact List.mem_cons_self)
  rw [decide_eq_false h1, cond_false, ih fun e => h (List.mem_cons_of_mem _ e)]
  rfl
variable {P : Program} {T : List (Nat × AV)} {o : Oper} {kt : TypeId} {kv : α → List Value} {ks : List CK}
theorem Zdj {t et id : Nat} {p q : Operand} {k : α} {out : List α} [hu : UD P t (.map kt et)] [hk : FKey P kt kv ks] (hz : P.zv et = some (.bool false)) (ho : o.op = .lookup t p q false)
  (hp : ev T p = some (.map id)) (hq : ev T q = some (.agg ((kv k).map .v))) : Eff P o T [(id, .mp (setF kv out))] (bA (decide (k ∈ out))) [] :=
 Z01 (by intro c; rw [ho]; nofun) fun C H a w hw hn hv => by
  have hpv := hv p (by rw [ho]; simp [Op.operands]) _ hp
  have hqv := (hv q (by rw [ho]; simp [Op.operands]) _ hq).aggV
  obtain ⟨_, b, N, ents, clock, hm, hh, hl, _, _, hrow⟩ := hw.ids _ _ (hn _ List.mem_cons_self)
  have hpe : a.eval p = .map (some b) := by
   generalize a.eval p = u at hpv
   cases hpv with
   | map _ b' N' hid _ => rw [hm] at hid; cases hid; rfl
  have hget : (getObj b).run P w = .ok (.map ents clock) w := by simp [getObj, Sem.run, hh]
  have hl2 : (out.map fun x => (x, bA true)).length = ents.toList.length := by simpa [fmp] using hl.symm
  have hchk := fun b => hk.chk b k w
  have hrun := Z4h (P := P) (kt := kt) (kv := kv) k ents.toList w
  unfold kagg at hchk hrun
  have hg := Zdv out k
  rcases Z5k (P := P) (kt := kt) (C := C) k w (out.map fun x => (x, bA true)) ents.toList 0 hl2 (fun i a b c => by rw [Array.getElem?_toList]; exact hrow i a b c) with ⟨h1, h2⟩ | ⟨i', x, v, h1, h2, h3, _⟩
  ·rw [kagg] at h2
   rw [h1] at hg
   have hno : k ∉ out := fun hm => by rw [if_pos hm] at hg; cases hg
   rw [decide_eq_false hno]
   refine ⟨.bool false, ?_, .v _⟩
   simp [execOp, ho, Instr.lookup, hpe, hqv, Go.run_underlying hu.ud, hget, hchk, hrun, h2, Z2z hz, Result.andThen, Sem.run_bind]
  ·rw [kagg] at h2
   rw [h1] at hg
   have hyes : k ∈ out := Decidable.byContradiction fun hm => by rw [if_neg hm] at hg; cases hg
   rw [if_pos hyes] at hg
   cases hg
   rw [decide_eq_true hyes]
   have hv3 := VR.val h3
   subst hv3
   refine ⟨.bool true, ?_, .v _⟩
   simp [execOp, ho, Instr.lookup, hpe, hqv, Go.run_underlying hu.ud, hget, hchk, hrun, h2, Result.andThen, Sem.run_bind]
end
end Go.Sx
namespace Go.Sx
open Go Go.Proofs
inductive Rch (es : List Edg) (a : MRef) : MRef → Prop
 | refl : Rch es a a
 | step {x : MRef} {e : Edg} (h : Rch es a x) (he : e ∈ es) (hm : e.m = x) : Rch es a e.t
theorem Rch.trans {es : List Edg} {a b c : MRef} (h : Rch es a b) (k : Rch es b c) : Rch es a c := by
 induction k with
 | refl => exact h
 | step _ he hm ih => exact ih.step he hm
theorem mem_callees {es : List Edg} {m x : MRef} : x ∈ calleesL es m ↔ ∃ e, e ∈ es ∧ e.m = m ∧ e.t = x := by
 unfold calleesL risM endsF
 rw [Z40, List.take_length, List.mem_map]
 constructor
 ·rintro ⟨e, he, rfl⟩
  rw [List.mem_filter, decide_eq_true_eq] at he
  exact ⟨e, he.1, he.2, rfl⟩
 ·rintro ⟨e, h1, h2, rfl⟩
  exact ⟨e, List.mem_filter.2 ⟨h1, decide_eq_true h2⟩, rfl⟩
theorem mem_callers {es : List Edg} {m x : MRef} : x ∈ callersL es m ↔ ∃ e, e ∈ es ∧ e.t = m ∧ e.m = x := by
 unfold callersL risM endsF
 rw [Z40, List.take_length, List.mem_map]
 constructor
 ·rintro ⟨e, he, rfl⟩
  rw [List.mem_filter, decide_eq_true_eq] at he
  exact ⟨e, he.1, he.2, rfl⟩
 ·rintro ⟨e, h1, h2, rfl⟩
  exact ⟨e, List.mem_filter.2 ⟨h1, decide_eq_true h2⟩, rfl⟩
theorem Z36 (es : List Edg) (m : MRef) : (calleesL es m).length ≤ es.length := by
 unfold calleesL
 exact Nat.le_trans (Z6v _) (Z6m _ _ _ _)
theorem Z8n (es : List Edg) (m : MRef) : (callersL es m).length ≤ es.length := by
 unfold callersL
 exact Nat.le_trans (Z6v _) (Z6m _ _ _ _)
structure RJ (es : List Edg) (m : MRef) (todo had : List MRef) : Prop where
 nd : had.Nodup
 u : ∀ x, x ∈ had → x ∈ m :: es.map Edg.t
 ut : ∀ x, x ∈ todo → x ∈ m :: es.map Edg.t
 cl : ∀ x, x ∈ had → ∀ y, y ∈ calleesL es x → y ∈ had ∨ y ∈ todo
 m0 : m ∈ had ∨ m ∈ todo
 so : ∀ x, x ∈ had ∨ x ∈ todo → Rch es m x
 ln : todo.length ≤ had.length * es.length + 1
theorem RJ.start (es : List Edg) (m : MRef) : RJ es m [m] [] where
 nd := List.nodup_nil
 u := nofun
 ut := fun x hx => by rw [List.mem_singleton.1 hx]; exact List.mem_cons_self
 cl := nofun
 m0 := .inr List.mem_cons_self
 so := fun x hx => by rcases hx with hx | hx; cases hx; rw [List.mem_singleton.1 hx]; exact .refl
 ln := by simp
theorem RJ.len {es : List Edg} {m : MRef} {todo had : List MRef} (h : RJ es m todo had) : had.length ≤ es.length + 1 := by
 have := Z12 h.nd h.u
 simpa using this
theorem RJ.skip {es : List Edg} {m x : MRef} {todo had : List MRef} (h : RJ es m (todo ++ [x]) had) (hx : x ∈ had) : RJ es m todo had where
 nd := h.nd
 u := h.u
 ut := fun y hy => h.ut y (List.mem_append_left _ hy)
 cl := fun y hy z hz => by
  rcases h.cl y hy z hz with h1 | h1
  ·exact .inl h1
  ·rcases List.mem_append.1 h1 with h2 | h2
   ·exact .inr h2
   ·rw [List.mem_singleton.1 h2]; exact .inl hx
 m0 := by
  rcases h.m0 with h1 | h1
  ·exact .inl h1
  ·rcases List.mem_append.1 h1 with h2 | h2
   ·exact .inr h2
   ·rw [List.mem_singleton.1 h2]; exact .inl hx
 so := fun y hy => h.so y (hy.imp id fun h1 => List.mem_append_left _ h1)
 ln := by have := h.ln; rw [List.length_append] at this; simp only [List.length_singleton] at this; omega
theorem RJ.go {es : List Edg} {m x : MRef} {todo had : List MRef} (h : RJ es m (todo ++ [x]) had) (hx : x ∉ had) : RJ es m (todo ++ calleesL es x) (had ++ [x]) where
 nd := by
  rw [List.nodup_append]
  refine ⟨h.nd, by simp, fun a ha b hb e => ?_⟩
  rw [List.mem_singleton.1 hb] at e
  exact hx (e ▸ ha)
 u := fun y hy => by
  rcases List.mem_append.1 hy with h1 | h1
  ·exact h.u y h1
  ·rw [List.mem_singleton.1 h1]; exact h.ut x (List.mem_append_right _ List.mem_cons_self)
 ut := fun y hy => by
  rcases List.mem_append.1 hy with h1 | h1
  ·exact h.ut y (List.mem_append_left _ h1)
  ·obtain ⟨e, h2, _, rfl⟩ := mem_callees.1 h1
   exact List.mem_cons_of_mem _ (List.mem_map.2 ⟨e, h2, rfl⟩)
 cl := fun y hy z hz => by
  rcases List.mem_append.1 hy with h1 | h1
  ·rcases h.cl y h1 z hz with h2 | h2
   ·exact .inl (List.mem_append_left _ h2)
   ·rcases List.mem_append.1 h2 with h3 | h3
    ·exact .inr (List.mem_append_left _ h3)
    ·exact .inl (List.mem_append_right _ h3)
  ·rw [List.mem_singleton.1 h1] at hz
   exact .inr (List.mem_append_right _ hz)
 m0 := by
  rcases h.m0 with h1 | h1
  ·exact .inl (List.mem_append_left _ h1)
  ·rcases List.mem_append.1 h1 with h2 | h2
   ·exact .inr (List.mem_append_left _ h2)
   ·exact .inl (List.mem_append_right _ h2)
 so := fun y hy => by
  have hxr := h.so x (.inr (List.mem_append_right _ List.mem_cons_self))
  rcases hy with hy | hy
  ·rcases List.mem_append.1 hy with h1 | h1
   ·exact h.so y (.inl h1)
   ·rw [List.mem_singleton.1 h1]; exact hxr
  ·rcases List.mem_append.1 hy with h1 | h1
   ·exact h.so y (.inr (List.mem_append_left _ h1))
   ·obtain ⟨e, h2, h3, rfl⟩ := mem_callees.1 h1
    exact hxr.step h2 h3
 ln := by
  have h1 := h.ln
  have h2 := Z36 es x
  rw [List.length_append] at h1 ⊢
  rw [List.length_append, List.length_singleton, Nat.add_mul]
  simp only [List.length_singleton] at h1
  omega
theorem RJ.fin {es : List Edg} {m : MRef} {had : List MRef} (h : RJ es m [] had) (x : MRef) : x ∈ had ↔ Rch es m x := by
 constructor
 ·intro hx
  exact h.so x (.inl hx)
 ·intro hx
  induction hx with
  | refl =>
   rcases h.m0 with h1 | h1
   ·exact h1
   ·cases h1
  | step _ he hm ih =>
   rcases h.cl _ ih _ (mem_callees.2 ⟨_, he, hm, rfl⟩) with h1 | h1
   ·exact h1
   ·cases h1
end Go.Sx
namespace Go.Sx
open Go Go.Proofs
theorem Zc2 (had : List MRef) : (had.map fun x => (x, bA true)).map Prod.fst = had := by
 induction had with
 | nil => rfl
 | cons x l ih => rw [List.map_cons, List.map_cons, ih]
theorem Zez (es : List Edg) (hl : es.length ≤ 100) (m : MRef) : ACalls Tryz.prog 4 [solA es, m.av] [] (GP (fun r : Nat × List MRef => .own r.1 3 0 (risM r.2).length) (fun r => [(r.1, .rows 24 3 ((risM r.2).map MRef.cells))]) (fun r => (∀ x, x ∈ r.2 ↔ Rch es m x) ∧ r.2.length ≤ 101)) := by
 refine Zw (n := 38) Tryz.func4 rfl (by decide +kernel) rfl rfl ?_
 refine wk ?_
 refine Zb3 (fun id1 => ?_)
 refine Zb3 (fun id2 => ?_)
 refine wk ?_
 refine Zb8 ?_
 refine wk ?_
 refine Z1a (w0 rfl) rfl (fun id => Z55 id rfl) (fun q => ?_)
 refine wk ?_
 refine Z1a (w0 rfl) rfl (fun id => Z11 id (ps := [(0, .tmp 9)]) rfl rfl rfl rfl rfl rfl rfl rfl) (fun id3 => ?_)
 refine wk ?_
 refine Zb7 ?_
 refine wk ?_
 refine Z06 (α := Nat × List MRef × List MRef) (fun y => ⟨[(6, .own y.1 3 0 y.2.1.length), (5, .map q), (2, .ptr id1 5 0 0)], [(y.1, .rows 24 3 (y.2.1.map MRef.cells)), (q, .mp (setF MRef.kv y.2.2)), (id1, .rows 30 5 [solC es])], [], 38⟩) (fun y => RJ es m y.2.1 y.2.2) (fun y => (102 - y.2.2.length) * 1000 + y.2.1.length) (id3, [m], []) (RJ.start es m) (Z8 [0, 1, 3] ⟨rfl, rfl, rfl, trivial⟩ rfl (by decide) rfl rfl) ?_
 rintro ⟨id, todo, had⟩ hJ
 have hJ : RJ es m todo had := hJ
 have hhl := hJ.len
 refine Z1d (s' := ⟨[(6, .own id 3 0 todo.length), (5, .map q), (2, .ptr id1 5 0 0)], [(id, .rows 24 3 (todo.map MRef.cells)), (q, .mp (setF MRef.kv had)), (id1, .rows 30 5 [solC es])], [], 38⟩) (.refl _) ?_
 rcases List.eq_nil_or_concat todo with rfl | ⟨t, x, rfl⟩
 ·refine wk ?_
  refine Zac [(q, .mp (setF MRef.kv had))] [(id, .rows 24 3 []), (id1, .rows 30 5 [solC es])] (w0 rfl) rfl rfl rfl rfl (List.Perm.swap _ _ _) (Zew q (had.map fun x => (x, bA true))) (fun y K hy => ?_) (fun ch K hy => by obtain ⟨i1, e1, _⟩ := hy; cases e1)
  obtain ⟨i1, e1, rfl⟩ := hy
  cases e1
  refine zCP [(i1, .rows 35 1 [[.map q]]), (q, .mp (setF MRef.kv had))] [(id, .rows 24 3 []), (id1, .rows 30 5 [solC es])] (.refl _) (Z7a (had.map fun x => (x, bA true)) (by rw [Zc2]; exact hJ.nd) (by rw [List.length_map]; omega) i1 q) (fun r _ => ?_)
  rw [Zc2]
  refine wk ?_
  exact Zr rfl (Zy rfl Zu) (.cons_cons _ (List.nil_sublist _)) (gp (r, had) ⟨hJ.fin, by show had.length ≤ 101; omega⟩ rfl rfl)
 ·rw [List.concat_eq_append] at hJ ⊢
  have hln := hJ.ln
  have hmul : had.length * es.length ≤ 101 * 100 := Nat.mul_le_mul (by omega) hl
  rw [List.length_append, List.length_singleton] at hln ⊢
  refine wk ?_
  rw [show decide (((t.length + 1 : Nat) : Int) > 0) = true from decide_eq_true (by omega)]
  refine wk ?_
  rw [show ((t.length + 1 : Nat) : Int) - 1 = (t.length : Int) by omega]
  refine zE (Z2 t.length rfl rfl rfl (by omega) (by omega) (by omega)) ?_
  refine Z0h 0 (x := x.av) (w0 rfl) rfl rfl rfl rfl (show ((t ++ [x]).map MRef.cells)[t.length]? = some x.cells by simp) Z3a ?_
  refine Zgj (fun id7 => ?_)
  refine wk ?_
  rw [show ((t.length + 1 : Nat) : Int) - 1 = (t.length : Int) by omega]
  refine zE (Z2i (k := (t.length : Int)) rfl rfl rfl (by omega) (by omega)) ?_
  rw [Int.toNat_natCast]
  refine zA ?_
  refine zN ?_
  refine tqN ?_
  refine Z1d (Z5u (m := t.length) 1 rfl) ?_
  rw [show ((t ++ [x]).map MRef.cells).take t.length = t.map MRef.cells by rw [List.map_append, List.take_left' (by rw [List.length_map])]]
  refine Z1d (s' := ⟨[(7, .ptr id7 3 0 0), (6, .own id 3 0 t.length), (5, .map q), (2, .ptr id1 5 0 0)], [(id7, .rows 24 3 [x.cells]), (id, .rows 24 3 (t.map MRef.cells)), (q, .mp (setF MRef.kv had)), (id1, .rows 30 5 [solC es])], [], 38⟩) (Z8 [0, 1, 2, 3] ⟨rfl, rfl, rfl, rfl, trivial⟩ rfl (by decide) rfl rfl) ?_
  refine wk ?_
  refine Z3j [(q, .mp (setF MRef.kv had))] (bA (decide (x ∈ had))) (w0 rfl) rfl (Zdj (kv := MRef.kv) (k := x) (by kernel_rfl) rfl rfl rfl) (fun p hp => by rw [List.mem_singleton.1 hp]; simp) ?_
  refine zN ?_
  refine tqN ?_
  by_cases hx : x ∈ had
  ·rw [decide_eq_true hx]
   refine wk ?_
   exact ⟨(id, t, had), hJ.skip hx, (by show (102 - had.length) * 1000 + t.length < (102 - had.length) * 1000 + (t.length + 1); omega), Z8 [1, 2, 3] ⟨rfl, rfl, rfl, trivial⟩ rfl (by decide) rfl rfl⟩
  ·rw [decide_eq_false hx]
   have hgo := hJ.go hx
   have hgl := hgo.len
   rw [List.length_append, List.length_singleton] at hgl
   have hcl := Z36 es x
   refine wk ?_
   refine Z4r (key := x) 2 (w0 rfl) rfl rfl rfl rfl rfl rfl ?_
   rw [Zdy hx]
   refine zN ?_
   refine tqN ?_
   refine Z1d (s' := ⟨[(7, .ptr id7 3 0 0), (6, .own id 3 0 t.length), (5, .map q), (2, .ptr id1 5 0 0)], [(id7, .rows 24 3 [x.cells]), (id, .rows 24 3 (t.map MRef.cells)), (q, .mp (setF MRef.kv (had ++ [x]))), (id1, .rows 30 5 [solC es])], [], 38⟩) (Z8 [0, 1, 2, 3] ⟨rfl, rfl, rfl, rfl, trivial⟩ rfl (by decide) rfl rfl) ?_
   refine wk ?_
   refine zCP [] _ (.refl _) (Z79 es (by omega) x) (fun q2 _ => ?_)
   refine Z34 2 (w0 rfl) rfl rfl rfl rfl (by simp) rfl ⟨rfl, _, _, List.mem_of_getElem? (i := 0) rfl, by simp, (by simp; rfl)⟩ (by simp; omega) (by simp [maxLen]; omega) (fun id8 => ?_)
   refine wk ?_
   exact ⟨(id8, t ++ calleesL es x, had ++ [x]), hgo, (by show (102 - (had ++ [x]).length) * 1000 + (t ++ calleesL es x).length < (102 - had.length) * 1000 + (t.length + 1); rw [List.length_append, List.length_append, List.length_singleton]; omega), Z8 [2, 3, 4] ⟨(by show some (AV.own _ _ _ _) = some (AV.own _ _ _ _); simp), rfl, rfl, trivial⟩ (by show some [(_, AObj.rows _ _ _), (_, AObj.mp _), (_, AObj.rows _ _ _)] = some [(_, AObj.rows _ _ _), (_, AObj.mp _), (_, AObj.rows _ _ _)]; simp; exact List.take_of_length_le (by simp)) (by decide) rfl rfl⟩
end Go.Sx
namespace Go.Sx
open Go
section
variable {P : Program}
theorem Zax {C : Ctx} {Hr : AHeap} {w : World} {r k : Nat} {el : TypeId} {sz : Nat} {es : List (List AV)} (hw : WR C ((r, .rows el sz es) :: Hr) w) (hk : k ∉ C.U) :
  ∃ C', C.Le C' ∧ WR C' ((k, .rows el sz es) :: Hr) w ∧ (∀ sz off len v, VR C (.own r sz off len) v → VR C' (.own k sz off len) v) ∧ (∀ z, z ∈ C'.U → z = k ∨ z ∈ C.U) ∧ Ext [] C ((r, .rows el sz es) :: Hr) w C' ((k, .rows el sz es) :: Hr) w := by
 let C' : Ctx := { hp := C.hp, m := fun i => if i = k then C.m r else C.m i, U := k :: C.U, df := C.df }
 have hmk : C'.m k = C.m r := if_pos rfl
 have hm : ∀ i, i ≠ k → C'.m i = C.m i := fun i hi => if_neg hi
 have hle : C.Le C' := ⟨fun _ _ h => h, fun i hi => hm i (by rintro rfl; exact hk hi), fun i hi => List.mem_cons_of_mem _ hi, fun i hi => rfl⟩
 have hr := hw.ids r _ List.mem_cons_self
 have hother : ∀ i o, (i, o) ∈ Hr → i ≠ k := by rintro i o hi rfl; exact hk (hw.ids i o (List.mem_cons_of_mem _ hi)).1
 have hrn : ∀ o, (r, o) ∉ Hr := fun o hi => by
  have := hw.nd
  simp only [List.map_cons, List.nodup_cons] at this
  exact this.1 (List.mem_map.2 ⟨_, hi, rfl⟩)
 have hblk : ∀ b, blk C' ((k, .rows el sz es) :: Hr) b → blk C ((r, .rows el sz es) :: Hr) b := by
  rintro b ⟨i, o, N, hi, hmi⟩
  rcases List.mem_cons.1 hi with h2 | h2
  ·cases h2; rw [hmk] at hmi; exact ⟨r, _, N, List.mem_cons_self, hmi⟩
  ·rw [hm i (hother i o h2)] at hmi; exact ⟨i, o, N, List.mem_cons_of_mem _ h2, hmi⟩
 refine ⟨C', hle, ⟨hw.hp, ?_, ?_, ?_, fun b hb => hw.dis b (hblk b hb)⟩, ?_, fun z hz => List.mem_cons.1 hz, ⟨hle, (fun _ h => nomatch h), rfl, rfl, rfl, Nat.le_refl _, fun _ _ _ => rfl, fun _ o h => .inl ⟨o, h⟩, fun b hb => .inl (hblk b hb), ?_⟩⟩
 ·have := hw.nd
  simp only [List.map_cons, List.nodup_cons] at this ⊢
  refine ⟨fun hmem => ?_, this.2⟩
  obtain ⟨⟨i, o⟩, hi, he⟩ := List.mem_map.1 hmem
  exact hother i o hi he
 ·intro i o hi
  rcases List.mem_cons.1 hi with h2 | h2
  ·cases h2
   refine ⟨List.mem_cons_self, hr.2.1, ?_⟩
   rcases hr.2.2 with ⟨a, b⟩ | ⟨b, N, cells, hb, hh, hs, hl, hc⟩
   ·exact .inl ⟨hmk.trans a, b⟩
   ·exact .inr ⟨b, N, cells, hmk.trans hb, hh, hs, hl, fun i e j c g1 g2 => let ⟨x, g3, g4, g5⟩ := hc i e j c g1 g2; ⟨x, g3, g4.mono hle, g5⟩⟩
  ·obtain ⟨h3, h4⟩ := hw.ids i o (List.mem_cons_of_mem _ h2)
   exact ⟨hle.U i h3, h4.keep hle h3 (fun _ _ _ => rfl)⟩
 ·intro i j o o' b N N' hi hj h2 h3
  rcases List.mem_cons.1 hi with h4 | h4
  ·cases h4
   rw [hmk] at h2
   rcases List.mem_cons.1 hj with h5 | h5
   ·cases h5; rfl
   ·rw [hm j (hother j o' h5)] at h3
    have := hw.inj r j _ o' b N N' List.mem_cons_self (List.mem_cons_of_mem _ h5) h2 h3
    subst this
    exact absurd h5 (hrn _)
  ·rw [hm i (hother i o h4)] at h2
   rcases List.mem_cons.1 hj with h5 | h5
   ·cases h5
    rw [hmk] at h3
    have := hw.inj i r o _ b N N' (List.mem_cons_of_mem _ h4) List.mem_cons_self h2 h3
    subst this
    exact absurd h4 (hrn _)
   ·rw [hm j (hother j o' h5)] at h3
    exact hw.inj i j o o' b N N' (List.mem_cons_of_mem _ h4) (List.mem_cons_of_mem _ h5) h2 h3
 ·intro sz' off len v hv
  cases hv with
  | own _ _ _ _ b N cap hid hu hcap hlen hml => exact .own k sz' off len b N cap (hmk.trans hid) List.mem_cons_self hcap hlen hml
  | ownNil _ _ hid hu => exact .ownNil k sz' (hmk.trans hid) List.mem_cons_self
 ·intro i o hi
  rcases List.mem_cons.1 hi with h2 | h2
  ·cases h2; exact .inr hk
  ·exact .inl ⟨o, List.mem_cons_of_mem _ h2⟩
def dropObs (H : Hp) : List Nat → Hp
 | [] => H
 | i :: r => dropObs (H.put i none) r
theorem Z7f : ∀ (l : List Nat) (H : Hp), (dropObs H l).R = H.R
 | [], _ => rfl
 | i :: r, H => Z7f r (H.put i none)
theorem Z52 {a : Nat} {ob : AObj} : ∀ (l : List Nat) (H : Hp), (∀ i, i ∈ l → getR H.R i = none) → (dropObs H l).get a = some ob → a ∉ l ∧ H.get a = some ob
 | [], _, _, h => ⟨nofun, h⟩
 | i :: r, H, hR, h => by
  obtain ⟨h1, h2⟩ := Z52 r (H.put i none) (fun j hj => hR j (List.mem_cons_of_mem _ hj)) h
  have h3 : a ≠ i ∧ H.get a = some ob := by
   unfold Hp.get Hp.put at h2
   unfold Hp.get
   simp only at h2
   split at h2
   ·rename_i o hg
    refine ⟨?_, h2⟩
    rintro rfl
    rw [hR a List.mem_cons_self] at hg; cases hg
   ·rename_i hg
    rcases Tr.put_get h2 with ⟨_, e⟩ | ⟨hne, e⟩
    ·cases e
    ·exact ⟨hne, e⟩
  exact ⟨fun hm => by rcases List.mem_cons.1 hm with h4 | h4; exact h3.1 h4; exact h1 h4, h3.2⟩
theorem Z5j {α : Type} : ∀ {l : List (Nat × α)}, (l.map Prod.fst).Nodup → l.Nodup
 | [], _ => List.nodup_nil
 | p :: r, h => by
  simp only [List.map_cons, List.nodup_cons] at h
  exact List.nodup_cons.2 ⟨fun hm => h.1 (List.mem_map.2 ⟨p, hm, rfl⟩), Z5j h.2⟩
theorem Zbk {f : Nat} {xs : List AV} {Hc : AHeap} {R : AEnd → AHeap → Prop} {el : TypeId} {sz sz' len : Nat} {es : List (List AV)} {H : Hp} {k : Nat} (hc : ACalls P f xs Hc R)
  (hR : ∀ e H', R e H' → ∃ r, e = .ret (.own r sz' 0 len) ∧ H' = [(r, .rows el sz es)]) (hH : ∀ p, p ∈ Hc → H.own p.1 = some p.2) (hnd : (Hc.map Prod.fst).Nodup) (hk : k < MM) :
  ECall P f xs H k (.ret (.own k sz' 0 len)) ((dropObs H (Hc.map Prod.fst)).put k (some (.rows el sz es))) (k + 1) := by
 refine ⟨hc.ok, Z7f _ _, ?_⟩
 intro C Hl w vs hw hs hf hv
 have hHl : ∀ p, p ∈ Hc → p ∈ Hl := fun p hp => hs p.1 p.2 (Hp.own_spec (hH p hp)).2
 let Fm : AHeap := Hl.filter fun p => !(Hc.map Prod.fst).contains p.1
 have hnl : Hl.Nodup := Z5j hw.nd
 have hnc : Hc.Nodup := Z5j hnd
 have hin : ∀ p, p ∈ Hl → p.1 ∈ Hc.map Prod.fst → p ∈ Hc := by
  intro p hp hm
  obtain ⟨q, hq, hqp⟩ := List.mem_map.1 hm
  have h1 := hHl q hq
  have : p = q := by
   obtain ⟨i, hi⟩ := List.mem_iff_getElem?.1 hp
   obtain ⟨j, hj⟩ := List.mem_iff_getElem?.1 h1
   have hij : i = j := by
    have hn := hw.nd
    rw [List.nodup_iff_pairwise_ne, List.pairwise_iff_getElem] at hn
    have li : i < (Hl.map Prod.fst).length := by rw [List.length_map]; exact Z08 hi
    have lj : j < (Hl.map Prod.fst).length := by rw [List.length_map]; exact Z08 hj
    have e1 : (Hl.map Prod.fst)[i] = (Hl.map Prod.fst)[j] := by
     have a1 := (List.getElem?_eq_some_iff.1 hi).2
     have a2 := (List.getElem?_eq_some_iff.1 hj).2
     simp only [List.getElem_map, a1, a2, hqp]
    rcases Nat.lt_trichotomy i j with h | h | h
    ·exact absurd e1 (hn i j li lj h)
    ·exact h
    ·exact absurd e1.symm (hn j i lj li h)
   subst hij
   rw [hi] at hj; exact Option.some.inj hj
  rw [this]; exact hq
 have hp : Hl.Perm (Hc ++ Fm) := by
  refine (List.perm_ext_iff_of_nodup hnl ?_).2 fun p => ?_
  ·rw [List.nodup_append]
   refine ⟨hnc, hnl.filter _, ?_⟩
   rintro a ha b hb rfl
   have := (List.mem_filter.1 hb).2
   rw [Bool.not_eq_true', ← Bool.not_eq_true, List.contains_iff_mem] at this
   exact this (List.mem_map.2 ⟨a, ha, rfl⟩)
  ·rw [List.mem_append]
   constructor
   ·intro hp
    by_cases hm : p.1 ∈ Hc.map Prod.fst
    ·exact .inl (hin p hp hm)
    ·exact .inr (List.mem_filter.2 ⟨hp, by rw [Bool.not_eq_true', ← Bool.not_eq_true, List.contains_iff_mem]; exact hm⟩)
   ·rintro (h | h)
    ·exact hHl p h
    ·exact (List.mem_filter.1 h).1
 refine ((hc.frame Hl Fm hp).run (Zx k k) C w vs hw hv).mono ?_
 rintro en w' ⟨C', H', x, hRx, hw', hx, her⟩
 obtain ⟨H0, hR0, rfl⟩ := hRx
 obtain ⟨r, rfl, rfl⟩ := hR _ _ hR0
 have hav : ∀ z, z < MM → z ∉ C.U → z ∉ C'.U := fun z hz hu => hx.av z (mem_Zx.2 ⟨hz, by omega⟩) hu
 obtain ⟨C2, g1, g2, g3, g4, g5⟩ := Zax (Hr := Fm) hw' (hav k hk (hf k (Nat.le_refl _) hk))
 refine ⟨C2, (k, .rows el sz es) :: Fm, ?_, g2, ?_, ?_, ⟨(hx.subZ (fun _ h => absurd h List.not_mem_nil)).trans g5, ?_, Nat.le_succ _⟩⟩
 ·cases en with
  | returned v => exact g3 _ _ _ _ her
  | panicked ch => exact her.elim
  | outgrown => exact her.elim
 ·intro i ob h
  rcases Hp.put_get' h with ⟨rfl, e⟩ | h
  ·cases e; exact List.mem_cons_self
  ·obtain ⟨h1, h2⟩ := Z52 _ H (fun j hj => by
    obtain ⟨p, hp, rfl⟩ := List.mem_map.1 hj
    exact (Hp.own_spec (hH p hp)).1) h
   exact List.mem_cons_of_mem _ (List.mem_filter.2 ⟨hs i ob h2, by rw [Bool.not_eq_true', ← Bool.not_eq_true, List.contains_iff_mem]; exact h1⟩)
 ·intro z h1 h2 hm
  rcases g4 z hm with rfl | h3
  ·omega
  ·exact hav z h2 (hf z (by omega) h2) h3
 ·intro z hz hm
  rcases g4 z hm with rfl | h3
  ·exact .inr ⟨Nat.le_refl _, Nat.lt_succ_self _⟩
  ·by_cases h4 : z ∈ C.U
   ·exact .inl h4
   ·exact absurd h3 (hav z hz h4)
end
end Go.Sx
namespace Go.Sx
open Go Go.Proofs
def mks : List (Value × AV) → Option (List (MRef × AV))
 | [] => some []
 | (.agg cs, x) :: r => (match cs.toList, mks r with
  | [.string a, .string b, .string c], some l => some ((⟨a, b, c⟩, x) :: l)
  | _, _ => none)
 | _ => none
theorem Z9z : ∀ (es : List (Value × AV)) (l : List (MRef × AV)), mks es = some l → es = fmp MRef.kv l
 | [], l, h => by cases h; rfl
 | (v, x) :: r, l, h => by
  unfold mks at h
  cases v with
  | agg cs =>
   simp only at h
   split at h
   ·rename_i a b c l' h1 h2
    cases h
    have hc : cs = #[.string a, .string b, .string c] := by apply Array.ext'; simpa using h1
    rw [Z9z r l' h2, hc]
    rfl
   ·cases h
  | _ => cases h
def k9 : CallF := fun f xs H k => bif Nat.beq f 9 then (match xs with
 | [.fn (.func g) [.ptr i1 s1 a b], .fn (.func g2) []] => bif (Nat.beq g 26 && Nat.beq g2 11) && (Nat.beq s1 1 && (Nat.beq a 0 && Nat.beq b 0)) then (match H.own i1 with
  | some (.rows el sz [[.map q]]) => bif Nat.beq el 35 && Nat.beq sz 1 then (match H.own q with
   | some (.mp es) => (match mks es with
    | some l => bif (decide (l.map Prod.fst).Nodup && Nat.ble l.length 1000) && !(Nat.beq i1 q || Nat.ble MM k) then some (.ret (.own k 3 0 (risM (l.map Prod.fst)).length), (dropObs H [i1, q]).put k (some (.rows 24 3 ((risM (l.map Prod.fst)).map MRef.cells))), k + 1) else none
    | none => none)
   | _ => none) else none
  | _ => none) else none
 | _ => none) else none
theorem Zge : KOk Tryz.prog k9 := by
 intro f xs H k r H' k' h
 unfold k9 at h
 cases hf : Nat.beq f 9 with
 | false => rw [hf] at h; cases h
 | true =>
 rw [hf, cond_true] at h
 have hf := Nat.eq_of_beq_eq_true hf
 subst hf
 split at h
 case h_2 => cases h
 rename_i g i1 s1 a b g2'
 cases hg : ((Nat.beq g 26 && Nat.beq g2' 11) && (Nat.beq s1 1 && (Nat.beq a 0 && Nat.beq b 0))) with
 | false => rw [hg] at h; cases h
 | true =>
 rw [hg, cond_true] at h
 simp only [Bool.and_eq_true] at hg
 obtain ⟨⟨g1, g5⟩, g2, g3, g4⟩ := hg
 have g1 := Nat.eq_of_beq_eq_true g1
 have g2 := Nat.eq_of_beq_eq_true g2
 have g3 := Nat.eq_of_beq_eq_true g3
 have g4 := Nat.eq_of_beq_eq_true g4
 have g5 := Nat.eq_of_beq_eq_true g5
 subst g1 g2 g3 g4 g5
 split at h
 case h_2 => cases h
 rename_i el sz q hi1
 cases hg : (Nat.beq el 35 && Nat.beq sz 1) with
 | false => rw [hg] at h; cases h
 | true =>
 rw [hg, cond_true] at h
 simp only [Bool.and_eq_true] at hg
 obtain ⟨g1, g2⟩ := hg
 have g1 := Nat.eq_of_beq_eq_true g1
 have g2 := Nat.eq_of_beq_eq_true g2
 subst g1 g2
 split at h
 case h_2 => cases h
 rename_i es hq
 split at h
 case h_2 => cases h
 rename_i l hl
 cases hg : ((decide (l.map Prod.fst).Nodup && Nat.ble l.length 1000) && !(Nat.beq i1 q || Nat.ble MM k)) with
 | false => rw [hg] at h; cases h
 | true =>
 rw [hg, cond_true] at h
 cases h
 simp only [Bool.and_eq_true, decide_eq_true_eq, Bool.not_eq_true', Bool.or_eq_false_iff] at hg
 obtain ⟨⟨hnd, hle⟩, hne, hkk⟩ := hg
 have hle := Nat.le_of_ble_eq_true hle
 have hne : i1 ≠ q := by rintro rfl; simp at hne
 have hk : k < MM := by
  rcases Nat.lt_or_ge k MM with h | h
  ·exact h
  ·have h1 : Nat.ble MM k = true := by rw [Nat.ble_eq]; exact h
   rw [h1] at hkk; cases hkk
 have hes := Z9z es l hl
 subst hes
 refine Zbk (Hc := [(i1, .rows 35 1 [[.map q]]), (q, .mp (fmp MRef.kv l))]) (Z7a l hnd hle i1 q) ?_ ?_ ?_ hk
 ·rintro e H' ⟨r, _, rfl, rfl⟩
  exact ⟨r, rfl, rfl⟩
 ·intro p hp
  simp only [List.mem_cons, List.not_mem_nil, or_false] at hp
  rcases hp with rfl | rfl
  ·exact hi1
  ·exact hq
 ·simp [hne]
end Go.Sx
namespace Go.Sx
open Go Go.Proofs
theorem Zey : ACalls Tryz.prog 8 [] [] (Gives (.v (.bool true))) := Z6z Zge (L := 2000) (m := 40) (by decide +kernel) (by decide +kernel) (by kernel_rfl)
end Go.Sx
