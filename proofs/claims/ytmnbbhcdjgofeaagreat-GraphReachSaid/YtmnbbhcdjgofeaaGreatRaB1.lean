/- YtmnbbhcdjgofeaaGreatRaB1: texts of this claim, one behind the other. -/
import Derived.Test.YtmnbbhcdjgofeaaGreatProg
import Derived.AtR
import Derived.Maps.RangeRun
import Derived.Lib.Bytealg
import Derived.Laws.Externs
import Derived.Test.YtmnbbhcdjgofeaaGreatRaB0
set_option linter.unusedVariables false
set_option linter.unusedSimpArgs false
set_option linter.unusedSectionVars false
set_option linter.unnecessarySimpa false
namespace Go.Sx
open Go
theorem Z71 {a b : Bool} (h : (a && b) = true) : a = true := by cases a <;> simp_all
theorem Z72 {a b : Bool} (h : (a && b) = true) : b = true := by cases a <;> simp_all
theorem Z8b {a : Bool} (h : (!a) = true) : a = false := by cases a <;> simp_all
section
variable {P : Program} {ro : Option Nat} {Q : Exit → St → Prop} {s : St} {ops : Array Oper} {o : Oper} {rest : List Oper} {T : List (Nat × AV)}
theorem w0 (h : o.guard = none) : Wanted ops T o true := .inl ⟨h, rfl⟩
theorem wT {g t : Nat} {d : Bool} {og : Oper} (h : o.guard = some (g, true)) (h1 : ops[g]? = some og) (h2 : og.dst = some t) (h3 : lk T t = some (.v (.bool d))) : Wanted ops T o d :=
 .inr ⟨g, true, d, og, t, h, h1, h2, .inl ⟨h3, by cases d <;> rfl⟩⟩
theorem wF {g t : Nat} {d : Bool} {og : Oper} (h : o.guard = some (g, false)) (h1 : ops[g]? = some og) (h2 : og.dst = some t) (h3 : lk T t = some (.v (.bool d))) : Wanted ops T o (!d) :=
 .inr ⟨g, false, d, og, t, h, h1, h2, .inl ⟨h3, by cases d <;> rfl⟩⟩
theorem Z04 {e : Bool} {p : Operand} {x y : AV} (hg : e = true) (h : ev T p = some (cond e x y)) : ev T p = some x := by subst hg; exact h
theorem Z0e : evs T [] = some [] := rfl
theorem Zj {p : Operand} {ps : List Operand} {x : AV} {xs : List AV} (h : ev T p = some x) (hs : evs T ps = some xs) : evs T (p :: ps) = some (x :: xs) := by simp [evs, h, hs]
theorem Z1y {x : AV} {e : Bool} (hw : Wanted ops s.T o e) (hd : dok o.dst s.n = true) (he : e = true → Eff P o s.T [] x [])
  (h : AOps P ro ops rest Q { s with T := put s.T o.dst (cond e x (.v undef)) }) : AOps P ro ops (o :: rest) Q s := by
 cases e
 ·exact Zd4 hw hd h
 ·exact Z3j [] x hw hd (he rfl) nofun h
variable {H0 : AHeap} {K : St → Prop} {k : Nat} {M : List (Nat × (Nat × AObj))}
theorem Zc {x : AV} {e : Bool} (hw : Wanted ops s.T o e) (hd : dok o.dst s.n = true) (he : e = true → Eff P o s.T [] x [])
  (h : Calm P ops H0 K (k + 1) rest M { s with T := put s.T o.dst (cond e x (.v undef)) }) : Calm P ops H0 K k (o :: rest) M s := by
 cases e
 ·exact .off hw hd h
 ·exact .eff [] x hw hd (he rfl) nofun h
theorem Z53 {t : TypeId} {p : Operand} {i c : Nat} {es : List (List AV)} {e : List AV} {x : AV} (ho : o.op = .load t p) (hp : ev T p = some (.elt es i c)) (he : es[i]? = some e) (hl : Ld P t (e.drop c) x) : Eff P o T [] x [] :=
 Z1l ho hp ⟨e, he, rfl⟩ hl
theorem Z0l {c p : Operand} {e d b : Bool} {u : AV} (ho : o.op = .pick c p (.const (.bool false))) (hc : ev T c = some (.v (.bool d))) (hp : ev T p = some (cond e (.v (.bool b)) u)) (he : d = true → e = true) :
  Eff P o T [] (.v (.bool (d && b))) [] := by
 cases d
 ·have := Z17 (P := P) ho hc hp rfl
  simpa using this
 ·have h1 := he rfl
  subst h1
  have := Z17 (P := P) ho hc hp rfl
  simpa using this
def Ctx.hpSet (C : Ctx) (b : Option Nat) (o : Option Obj) : Ctx := { C with hp := fun x => if some x = b then o else C.hp x }
theorem frz {C : Ctx} {id sz el : Nat} {es : List (List AV)} {R : AHeap} {w : World} (hw : WR C ((id, .rows el sz es) :: R) w) :
  ∃ (b : Option Nat) (ob : Option Obj), (∀ N bb, C.m id = some (bb, N) → b = some bb) ∧ (∀ x, some x = b → C.hp x = none ∧ ∃ N, C.m id = some (x, N)) ∧ (∀ x, some x = b → ob = w.heap[x]?) ∧
   WR (C.hpSet b ob) R w ∧ C.Le (C.hpSet b ob) ∧ (∀ v len, len = es.length → VR C (.own id sz 0 len) v → VR (C.hpSet b ob) (.lst es) v) := by
 obtain ⟨hu, hlen, hor⟩ := hw.ids id _ List.mem_cons_self
 have hnd := hw.nd
 simp only [List.map_cons, List.nodup_cons] at hnd
 have hR : WR C R w := hw.sub (fun p hp => List.mem_cons_of_mem _ hp) hnd.2
 rcases hor with ⟨hn, rfl⟩ | ⟨b, N, cells, hm, hh, hs, hf, hrow⟩
 ·have e : C.hpSet none none = C := by simp [Ctx.hpSet]
  refine ⟨none, none, (by intro N bb h; rw [hn] at h; cases h), nofun, nofun, by rw [e]; exact hR, by rw [e]; exact .refl C, ?_⟩
  intro v len hl hv
  cases hv with
  | own _ _ _ _ b N cap hid => rw [hn] at hid; cases hid
  | ownNil => exact .lstNil
 ·have hb : blk C ((id, .rows el sz es) :: R) b := ⟨id, _, N, List.mem_cons_self, hm⟩
  have hno := hw.dis b hb
  have hle : C.Le (C.hpSet (some b) (some (.cells cells el (0, 0)))) := by
   refine ⟨fun x o hx => ?_, fun _ _ => rfl, fun _ h => h, fun _ _ => rfl⟩
   simp only [Ctx.hpSet, Option.some.injEq]
   split
   ·rename_i e; subst e; rw [hno] at hx; cases hx
   ·exact hx
  refine ⟨some b, some (.cells cells el (0, 0)), ?_, ?_, ?_, ?_, hle, ?_⟩
  ·intro N' bb h; rw [hm] at h; cases h; rfl
  ·intro x hx; cases hx; exact ⟨hno, N, hm⟩
  ·intro x hx; cases hx; exact hh.symm
  ·refine ⟨?_, hR.nd, ?_, hR.inj, ?_⟩
   ·intro x o hx
    simp only [Ctx.hpSet, Option.some.injEq] at hx
    split at hx
    ·rename_i e; subst e; cases hx; exact hh
    ·exact hw.hp x o hx
   ·intro i o hi
    obtain ⟨h1, h2⟩ := hR.ids i o hi
    exact ⟨h1, h2.keep hle h1 (fun _ _ _ => rfl)⟩
   ·rintro x ⟨i, o, N', hi, hmi⟩
    simp only [Ctx.hpSet, Option.some.injEq]
    split
    ·rename_i e; subst e
     have := hw.inj id i _ o x N N' List.mem_cons_self (List.mem_cons_of_mem _ hi) hm hmi
     subst this
     exact (hnd.1 (List.mem_map.2 ⟨(id, o), hi, rfl⟩)).elim
    ·exact hR.dis x ⟨i, o, N', hi, hmi⟩
  ·intro v len hl hv
   cases hv with
   | ownNil _ _ hid => rw [hm] at hid; cases hid
   | own _ _ _ _ b' N' cap hid _ hcap hlc hml =>
    subst hl
    rw [hm] at hid; cases hid
    refine .lst es _ sz cap cells el (0, 0) (fun i j => (cells[i * sz + j]?).getD default) (fun _ => rfl) (fun _ => by simp [Ctx.hpSet]) hlen ?_ ?_ ?_ hlc
    ·intro i e j c h1 h2
     obtain ⟨x, h3, _, _⟩ := hrow i e j c h1 h2
     simp only [Nat.zero_mul, Nat.zero_add, h3]; rfl
    ·intro i e j c h1 h2
     obtain ⟨x, h3, h4, _⟩ := hrow i e j c h1 h2
     simp only [h3]; exact h4.mono hle
    ·intro i e j c h1 h2
     obtain ⟨x, h3, _, h5⟩ := hrow i e j c h1 h2
     simp only [h3]; exact h5
theorem Zv {H : AHeap} {k : Nat} {p : Nat × AObj} (h : H[k]? = some p) : H.Perm (p :: H.eraseIdx k) := by
 induction H generalizing k with
 | nil => simp at h
 | cons q r ih =>
  cases k with
  | zero => simp at h; subst h; exact .refl _
  | succ k => simp at h; exact ((ih h).cons q).trans (.swap ..)
def flat : AV → Bool
 | .v _ => true
 | .own .. => true
 | .ptr .. => true
 | .map _ => true
 | _ => false
def flats : AV → Bool
 | .agg cs => cs.all flat
 | .tup cs => cs.all flat
 | x => flat x
inductive Lend (id sz : Nat) (es : List (List AV)) : List AV → List AV → Prop
 | nil : Lend id sz es [] []
 | keep {x : AV} {xs ys : List AV} (h : Lend id sz es xs ys) : Lend id sz es (x :: xs) (x :: ys)
 | lend {len : Nat} {xs ys : List AV} (hl : len = es.length) (h : Lend id sz es xs ys) : Lend id sz es (.own id sz 0 len :: xs) (.lst es :: ys)
def Gives (x : AV) : AEnd → AHeap → Prop := fun e H => e = .ret x ∧ H = []
theorem Z69 {fn : Func} {R : AEnd → AHeap → Prop} {xs : List AV} (hD : s.D = []) (hres : Res P s.T s.H fn.results.toList xs) (hR : R (.ret (mkRes xs)) []) : RetQ P fn R .ret s :=
 ⟨s, .refl s, s.H, xs, by rw [hD]; exact .refl _, hres, [], List.nil_sublist _, hR⟩
theorem Zfv {H : AHeap} {id sz i c el : Nat} {es : List (List AV)} {e : List AV} (k : Nat) (hH : H[k]? = some (id, .rows el sz es)) (he : es[i]? = some e) : At H (.ptr id sz i c) (e.drop c) :=
 ⟨el, es, e, List.mem_of_getElem? hH, he, rfl⟩
theorem Zu {H : AHeap} : Res P T H [] [] := trivial
theorem Za4 {H : AHeap} {a : Nat} {t : TypeId} {r : List ResultVar} {x : AV} {xs : List AV} {id sz i c el : Nat} {es : List (List AV)} {e : List AV} (k : Nat) (h : lk T a = some (.ptr id sz i c)) (hH : H[k]? = some (id, .rows el sz es)) (he : es[i]? = some e)
  (hl : Ld P t (e.drop c) x) (hr : Res P T H r xs) : Res P T H (.cell a t :: r) (x :: xs) := ⟨⟨_, _, h, Zfv k hH he, hl⟩, hr⟩
theorem Zy {H : AHeap} {a : Nat} {r : List ResultVar} {x : AV} {xs : List AV} (h : lk T a = some x) (hr : Res P T H r xs) : Res P T H (.tmp a :: r) (x :: xs) := ⟨h, hr⟩
theorem Zfc (id : Nat) (el : TypeId) (sz : Nat) {p : Operand} (ho : o.op = .assign p ∨ o.op = .move p) (hx : ev T p = some (.v (.slice none 0 0))) : Eff P o T [] (.own id sz 0 0) [(id, .rows el sz [])] := by
 intro Z C H a w hw hn hv hid _ hZ ro next R hk
 have hid' : id ∉ C.U := hid _ List.mem_cons_self
 have h0 : (o.semAt ro a.eval).run P w = .ok (.value (a.eval p)) w := by
  rcases ho with ho | ho
  ·rw [Oper.semAt_eq _ _ _ (by intro c; rw [ho]; nofun)]; simp [execOp, ho]
  ·rw [Oper.semAt_eq _ _ _ (by intro c; rw [ho]; nofun)]; simp [execOp, ho]
 rw [h0]
 have h1 := VR.val (hv p (by rcases ho with ho | ho <;> (rw [ho]; simp [Op.operands])) _ hx)
 rw [h1]
 have hle := Ctx.le_bindO (x := none) hid'
 have hother : ∀ i o, (i, o) ∈ H → i ≠ id := by rintro i o hi rfl; exact hid' (hw.ids i o hi).1
 have hm : ∀ i, i ≠ id → (C.bindO id none).m i = C.m i := fun i hi => if_neg hi
 have hblk : ∀ b, blk (C.bindO id none) ((id, .rows el sz []) :: H) b → blk C H b := by
  rintro b ⟨i, o, N, hi, hmi⟩
  rcases List.mem_cons.1 hi with h2 | h2
  ·cases h2; rw [Ctx.bindO_m] at hmi; cases hmi
  ·rw [hm i (hother i o h2)] at hmi; exact ⟨i, o, N, h2, hmi⟩
 refine hk _ w (C.bindO id none) (.ownNil id sz (Ctx.bindO_m ..) List.mem_cons_self) ⟨hw.hp, ?_, ?_, ?_, fun b hb => hw.dis b (hblk b hb)⟩
  ⟨hle, ?_, rfl, rfl, rfl, Nat.le_refl _, fun _ _ _ => rfl, fun _ o h => .inl ⟨o, h⟩, fun b hb => .inl (hblk b hb), ?_⟩
 ·simp only [List.cons_append, List.nil_append, List.map_cons, List.nodup_cons]
  refine ⟨fun hmem => ?_, hw.nd⟩
  obtain ⟨⟨i, o⟩, hi, he⟩ := List.mem_map.1 hmem
  exact hother i o hi he
 ·intro i o hi
  rcases List.mem_cons.1 hi with h2 | h2
  ·cases h2; exact ⟨List.mem_cons_self, nofun, .inl ⟨Ctx.bindO_m .., rfl⟩⟩
  ·obtain ⟨h3, h4⟩ := hw.ids i o h2
   exact ⟨hle.U i h3, h4.keep hle h3 (fun _ _ _ => rfl)⟩
 ·intro i j o o' b N N' hi hj h2 h3
  rcases List.mem_cons.1 hi with h4 | h4
  ·cases h4; rw [Ctx.bindO_m] at h2; cases h2
  ·rcases List.mem_cons.1 hj with h5 | h5
   ·cases h5; rw [Ctx.bindO_m] at h3; cases h3
   ·rw [hm i (hother i o h4)] at h2; rw [hm j (hother j o' h5)] at h3
    exact hw.inj i j o o' b N N' h4 h5 h2 h3
 ·intro z hz hzu hmem
  rcases List.mem_cons.1 hmem with h2 | h2
  ·exact hZ z hz (by simp [h2])
  ·exact hzu h2
 ·intro i o hi
  rcases List.mem_cons.1 hi with h2 | h2
  ·cases h2; exact .inr hid'
  ·exact .inl ⟨o, h2⟩
theorem Zcd {α β : Type} {l : List α} {f : α → β} {i : Nat} (h : i < l.length) : (l.map f)[i]? = some (f l[i]) := by simp [h]
theorem Zc6 {α : Type} {l : List α} {f : α → List AV} {n : Nat} (h : ∀ a, (f a).length = n) : ∀ x : List AV, x ∈ l.map f → x.length = n := by
 intro x hx; obtain ⟨a, _, rfl⟩ := List.mem_map.1 hx; exact h a
theorem Z0s {n : Int} (h : -9223372036854775808 ≤ n ∧ n ≤ 9223372036854775807) : IntKind.i64.wrap n = n := by
 unfold IntKind.wrap
 simp [IntKind.bits, IntKind.signed]
 omega
theorem Z9 {x y : Int} (h : -9223372036854775808 ≤ x + y ∧ x + y ≤ 9223372036854775807) : arith .add .i64 x y = some (x + y) := by simp [arith, Z0s h]
theorem Zd {x y : Int} (h : -9223372036854775808 ≤ x - y ∧ x - y ≤ 9223372036854775807) : arith .sub .i64 x y = some (x - y) := by simp [arith, Z0s h]
theorem Z1e {id : Nat} {l : List Oper} (np : Nat) (hm : P.follows .mixedOrders = true) (ht : tidy l.toArray (l.take np).length = true)
  (h : Calm P l.toArray s.H (AOps P ro l.toArray (l.drop np) Q) 0 (l.take np) [] s) : AWp P ro (.region id l.toArray true) Q s :=
 Zd6 (l.take np) (l.drop np) (List.take_append_drop np l).symm hm ht h
theorem Z06 {c : Code} {α : Type} (inv : α → St) (J : α → Prop) (μ : α → Nat) (x0 : α) (j0 : J x0) (h0 : Weak s (inv x0))
  (round : ∀ x, J x → AWp P ro c (thenQ (fun s' => ∃ y, J y ∧ μ y < μ x ∧ Weak s' (inv y)) Q) (inv x)) : AWp P ro (.loop c) Q s := by
 refine Zd9 (α := {x : α // J x}) (fun x => inv x.1) (fun x => μ x.1) ⟨x0, j0⟩ h0 ?_
 rintro ⟨x, hx⟩
 refine Z9c (round x hx) ?_
 intro e s' h
 cases e with
 | normal => obtain ⟨y, h1, h2, h3⟩ := h; exact ⟨⟨y, h1⟩, h2, h3⟩
 | _ => exact h
theorem gv {x y : AV} (h : x = y) : Gives y (.ret (mkRes [x])) [] := ⟨congrArg AEnd.ret h, rfl⟩
theorem gi {x y : Int} (h : x = y) : Gives (.v (.int .i64 y)) (.ret (mkRes [.v (.int .i64 x)])) [] := gv (by rw [h])
theorem gb {x y : Bool} (h : x = y) : Gives (.v (.bool y)) (.ret (mkRes [.v (.bool x)])) [] := gv (by rw [h])
theorem gs {x y : ByteArray} (h : x = y) : Gives (.v (.string y)) (.ret (mkRes [.v (.string x)])) [] := gv (by rw [h])
def GivesH (x : AV) (Hn : AHeap) : AEnd → AHeap → Prop := fun e H => e = .ret x ∧ H = Hn
theorem gvr {xs : List AV} {y : AV} (h : mkRes xs = y) : Gives y (.ret (mkRes xs)) [] := ⟨congrArg AEnd.ret h, rfl⟩
theorem gvH {xs : List AV} {y : AV} {H : AHeap} (h : mkRes xs = y) : GivesH y H (.ret (mkRes xs)) H := ⟨congrArg AEnd.ret h, rfl⟩
theorem Zr {fn : Func} {R : AEnd → AHeap → Prop} {xs : List AV} {H'' : AHeap} (hD : s.D = []) (hres : Res P s.T s.H fn.results.toList xs) (hs : H''.Sublist s.H) (hR : R (.ret (mkRes xs)) H'') : RetQ P fn R .ret s :=
 ⟨s, .refl s, s.H, xs, by rw [hD]; exact .refl _, hres, H'', hs, hR⟩
theorem Zaa {fo : Operand} {args : Array Operand} {ats : Array TypeId} {f id : Nat} {ob : AObj} {caps xs : List AV} {x : AV} (j : Nat) (hw : Wanted ops s.T o true) (hd : dok o.dst s.n = true)
  (ho : o.op = .call { callee := .value fo, args := args, argTypes := ats }) (hfo : ev s.T fo = some (.fn (.func f) caps)) (hxs : evs s.T args.toList = some xs) (hH : s.H[j]? = some (id, ob))
  (hc : ACalls P f (xs ++ caps) [(id, ob)] (GivesH x [(id, ob)])) (h : AOps P ro ops rest Q { s with T := put s.T o.dst x }) : AOps P ro ops (o :: rest) Q s :=
 Z3j [(id, ob)] x hw hd (Zq [(id, ob)] ho hfo hxs hc (by simp)) (fun p hp => by rw [List.mem_singleton.1 hp]; exact List.mem_of_getElem? hH) h
theorem Zab {fo : Operand} {args : Array Operand} {ats : Array TypeId} {f : Nat} {caps xs : List AV} {R : AEnd → AHeap → Prop} (hw : Wanted ops s.T o true) (hd : dok o.dst s.n = true)
  (ho : o.op = .call { callee := .value fo, args := args, argTypes := ats }) (hfo : ev s.T fo = some (.fn (.func f) caps)) (hxs : evs s.T args.toList = some xs) (hc : ACalls P f (xs ++ caps) [] R) (hno : ∀ ch H', ¬ R (.panic ch) H')
  (h : ∀ x H', R (.ret x) H' → AOps P ro ops rest Q { s with T := put s.T o.dst x, H := H' ++ s.H }) : AOps P ro ops (o :: rest) Q s :=
 Z10 hw (Z5n [] s.H ho hfo hxs (.refl _) hd hc h (fun ch H' hR => (hno ch H' hR).elim))
theorem Za9 {fo : Operand} {args : Array Operand} {ats : Array TypeId} {f : Nat} {caps xs : List AV} {R : AEnd → AHeap → Prop} (Hf Fr : AHeap) (hw : Wanted ops s.T o true) (hd : dok o.dst s.n = true)
  (ho : o.op = .call { callee := .value fo, args := args, argTypes := ats }) (hfo : ev s.T fo = some (.fn (.func f) caps)) (hxs : evs s.T args.toList = some xs) (hp : s.H.Perm (Hf ++ Fr)) (hc : ACalls P f (xs ++ caps) Hf R) (hno : ∀ ch H', ¬ R (.panic ch) H')
  (h : ∀ x H', R (.ret x) H' → AOps P ro ops rest Q { s with T := put s.T o.dst x, H := H' ++ Fr }) : AOps P ro ops (o :: rest) Q s :=
 Z10 hw (Z5n Hf Fr ho hfo hxs hp hd hc h (fun ch H' hR => (hno ch H' hR).elim))
theorem Zad {fo : Operand} {args : Array Operand} {ats : Array TypeId} {id : Nat} {xs : List AV} {R : AEnd → AHeap → Prop} (F Hj : AHeap) (hw : Wanted ops s.T o true) (hd : dok o.dst s.n = true)
  (ho : o.op = .call { callee := .value fo, args := args, argTypes := ats }) (hfo : ev s.T fo = some (.yld id)) (hxs : evs s.T args.toList = some xs) (hH : s.H = F ++ Hj) (hc : YCalls P id xs Hj R) (hno : ∀ ch H', ¬ R (.panic ch) H')
  (h : ∀ x H', R (.ret x) H' → AOps P ro ops rest Q { s with T := put s.T o.dst x, H := F ++ H' }) : AOps P ro ops (o :: rest) Q s := by
 refine Z10 hw ?_
 have hp : s.H.Perm (Hj ++ F) := by rw [hH]; exact List.perm_append_comm
 have key := Zb0 (ro := ro) (K := fun s' => ∃ s'', s''.T = s'.T ∧ s''.D = s'.D ∧ s''.n = s'.n ∧ s'.H.Perm s''.H ∧ AOps P ro ops rest Q s'') (KP := fun ch => Q (.panic ch)) Hj F ho hfo hxs hp hd hc
  (fun x H' hR => ⟨_, rfl, rfl, rfl, List.perm_append_comm, h x H' hR⟩) hno
 intro Z C0 H0 w0 C a w he hs
 refine Z3f ?_ (fun _ _ h => h) (fun h => h) (key Z C0 H0 w0 C a w he hs)
 rintro a' w' ⟨C', s', ⟨s'', h1, h2, h3, h4, h5⟩, hs', he'⟩
 exact ⟨C', s'', h5, ⟨hs'.wr.perm h4, fun t x ht => hs'.sl t x (by rw [← h1]; exact ht), by rw [h2]; exact hs'.df, by rw [h2]; exact hs'.du, by rw [h3]; exact hs'.sz⟩, he'.permR h4⟩
theorem Z8a {s' : St} {F F' Hj : AHeap} (ks : List Nat) (hT : SubT s.T s'.T) (hH : s.H = F ++ Hj) (hF : pick F ks = some F') (hH' : s'.H = F' ++ Hj) (hk : ks.Nodup) (hD : s'.D = s.D) (hn : s'.n = s.n) : Weak s s' := by
 intro Z C a w hs
 have hsub1 : ∀ p, p ∈ F' → p ∈ F := fun p hp => by obtain ⟨k, _, h⟩ := Z3x hF p hp; exact List.mem_of_getElem? h
 have hsub : ∀ p, p ∈ s'.H → p ∈ s.H := fun p hp => by
  rw [hH'] at hp; rw [hH]
  rcases List.mem_append.1 hp with h | h
  ·exact List.mem_append_left _ (hsub1 p h)
  ·exact List.mem_append_right _ h
 have hnd := hs.wr.nd
 rw [hH, List.map_append, List.nodup_append] at hnd
 have hnd' : (s'.H.map Prod.fst).Nodup := by
  rw [hH', List.map_append, List.nodup_append]
  refine ⟨Z4b hnd.1 hF hk, hnd.2.1, ?_⟩
  intro x hx y hy
  obtain ⟨p, hp, rfl⟩ := List.mem_map.1 hx
  exact hnd.2.2 p.1 (List.mem_map.2 ⟨p, hsub1 p hp, rfl⟩) y hy
 exact ⟨C, ⟨hs.wr.sub hsub hnd', fun t x hx => hs.sl t x (hT.lk t x hx), by rw [hs.df, hD], by rw [hD]; exact hs.du, by rw [hs.sz, hn]⟩, Ext.sub hsub⟩
theorem Z8j {c : Code} {id el qe qs : Nat} (k : Nat) (hH : s.H[k]? = some (id, .rows el 1 [[.v (.slice none 0 0)]]))
  (h : ∀ q, AWp P ro c Q ⟨s.T, (q, .rows qe qs []) :: s.H.set k (id, .rows el 1 [[.own q qs 0 0]]), s.D, s.n⟩) : AWp P ro c Q s := by
 intro Z C0 H0 w0 C a w he hs
 obtain ⟨q, hq⟩ := Z5w (C.U ++ Z)
 rw [List.mem_append, not_or] at hq
 have hle := Ctx.le_bindO (x := none) hq.1
 obtain ⟨H1, H2, e1, e2⟩ := Z5m hH
 have hw := hs.wr
 have hother : ∀ i o, (i, o) ∈ s.H → i ≠ q := by rintro i o hi rfl; exact hq.1 (hw.ids i o hi).1
 have hm : ∀ i, i ≠ q → (C.bindO q none).m i = C.m i := fun i hi => if_neg hi
 have hset : ∀ p, p ∈ s.H.set k (id, .rows el 1 [[.own q qs 0 0]]) → p = (id, .rows el 1 [[.own q qs 0 0]]) ∨ p ∈ s.H := fun p hp => by
  rw [e2] at hp; rw [e1]
  rcases List.mem_append.1 hp with h | h
  ·exact .inr (List.mem_append_left _ h)
  ·rcases List.mem_cons.1 h with h | h
   ·exact .inl h
   ·exact .inr (List.mem_append_right _ (List.mem_cons_of_mem _ h))
 have hidm : ∀ i o, (i, o) ∈ s.H.set k (id, .rows el 1 [[.own q qs 0 0]]) → ∃ o', (i, o') ∈ s.H := fun i o hi => by
  rcases hset _ hi with h | h
  ·cases h; exact ⟨_, List.mem_of_getElem? hH⟩
  ·exact ⟨o, h⟩
 have hmap : (s.H.set k (id, AObj.rows el 1 [[.own q qs 0 0]])).map Prod.fst = s.H.map Prod.fst := by
  rw [e2, e1]; simp
 have hblk : ∀ b, blk (C.bindO q none) ((q, .rows qe qs []) :: s.H.set k (id, .rows el 1 [[.own q qs 0 0]])) b → blk C s.H b := by
  rintro b ⟨i, o, N, hi, hmi⟩
  rcases List.mem_cons.1 hi with h2 | h2
  ·cases h2; rw [Ctx.bindO_m] at hmi; cases hmi
  ·obtain ⟨o', ho'⟩ := hidm i o h2
   rw [hm i (hother i o' ho')] at hmi; exact ⟨i, o', N, ho', hmi⟩
 refine h q Z C0 H0 w0 (C.bindO q none) a w (he.trans ⟨hle, ?_, rfl, rfl, rfl, Nat.le_refl _, fun _ _ _ => rfl, fun _ o h => .inl ⟨o, h⟩, fun b hb => .inl (hblk b hb), ?_⟩) ⟨⟨hw.hp, ?_, ?_, ?_, fun b hb => hw.dis b (hblk b hb)⟩, fun t x ht => let ⟨v, a, b⟩ := hs.sl t x ht; ⟨v, a, b.mono hle⟩, ?_, fun i hi => List.mem_cons_of_mem _ (hs.du i hi), hs.sz⟩
 ·intro z hz hzu hmem
  rcases List.mem_cons.1 hmem with h2 | h2
  ·exact hq.2 (h2 ▸ hz)
  ·exact hzu h2
 ·intro i o hi
  rcases List.mem_cons.1 hi with h2 | h2
  ·cases h2; exact .inr hq.1
  ·exact .inl (hidm i o h2)
 ·rw [List.map_cons, hmap, List.nodup_cons]
  refine ⟨fun hmem => ?_, hw.nd⟩
  obtain ⟨⟨i, o⟩, hi, he⟩ := List.mem_map.1 hmem
  exact hother i o hi he
 ·intro i o hi
  rcases List.mem_cons.1 hi with h2 | h2
  ·cases h2; exact ⟨List.mem_cons_self, nofun, .inl ⟨Ctx.bindO_m .., rfl⟩⟩
  ·rcases hset _ h2 with h3 | h3
   ·cases h3
    obtain ⟨h4, h5, h6⟩ := hw.ids _ _ (List.mem_of_getElem? hH)
    refine ⟨hle.U _ h4, by simp, ?_⟩
    rcases h6 with ⟨_, h7⟩ | ⟨b, N, cells, h7, h8, h9, h10, h11⟩
    ·cases h7
    ·refine .inr ⟨b, N, cells, (hm _ (hother _ _ (List.mem_of_getElem? hH))).trans h7, h8, h9, h10, ?_⟩
     intro i' e j c he hc
     obtain ⟨x, g1, g2, g3⟩ := h11 0 [.v (.slice none 0 0)] 0 (.v (.slice none 0 0)) rfl rfl
     have hi0 : i' = 0 := by
      cases i' with
      | zero => rfl
      | succ n => simp at he
     subst hi0
     simp at he
     subst he
     have hj0 : j = 0 := by
      cases j with
      | zero => rfl
      | succ n => simp at hc
     subst hj0
     simp at hc
     subst hc
     have := VR.val g2
     subst this
     exact ⟨_, g1, .ownNil q qs (Ctx.bindO_m ..) List.mem_cons_self, g3⟩
   ·obtain ⟨h4, h5⟩ := hw.ids i o h3
    exact ⟨hle.U i h4, h5.keep hle h4 (fun _ _ _ => rfl)⟩
 ·intro i j o o' b N N' hi hj h2 h3
  rcases List.mem_cons.1 hi with h4 | h4
  ·cases h4; rw [Ctx.bindO_m] at h2; cases h2
  ·rcases List.mem_cons.1 hj with h5 | h5
   ·cases h5; rw [Ctx.bindO_m] at h3; cases h3
   ·obtain ⟨p1, hp1⟩ := hidm i o h4
    obtain ⟨p2, hp2⟩ := hidm j o' h5
    rw [hm i (hother i p1 hp1)] at h2; rw [hm j (hother j p2 hp2)] at h3
    exact hw.inj i j p1 p2 b N N' hp1 hp2 h2 h3
 ·rw [hs.df]
  exact List.map_congr_left fun i hi => by
   have : i ≠ q := by rintro rfl; exact hq.1 (hs.du i hi)
   have hdf : (C.bindO q none).df i = C.df i := rfl
   simp [mark, hm i this, hdf]
theorem Zgh {fn : Func} {R : AEnd → AHeap → Prop} {xs : List AV} {i : Nat} {F H'' : AHeap} (hD : s.D = [i]) (hH : s.H = F ++ [(i, .raw (.deferred (some [])))]) (hres : Res P s.T F fn.results.toList xs) (hs : H''.Sublist F) (hR : R (.ret (mkRes xs)) H'') : RetQ P fn R .ret s :=
 ⟨s, .refl s, F, xs, by rw [hD, hH]; exact List.perm_append_comm, hres, H'', hs, hR⟩
theorem Zfb {p q : Operand} {ats : Array TypeId} {k : IntKind} {x y : Int} (ho : o.op = .call { callee := .builtin .min, args := #[p, q], argTypes := ats }) (hp : ev T p = some (.v (.int k x))) (hq : ev T q = some (.v (.int k y))) :
  Eff P o T [] (.v (.int k (if y < x then y else x))) [] :=
 Z01 (by intro c; rw [ho]; nofun) fun C H a w hw hn hv => by
  have h2 := VR.val (hv p (by rw [ho]; simp [Op.operands, Call.operands]) _ hp)
  have h3 := VR.val (hv q (by rw [ho]; simp [Op.operands, Call.operands]) _ hq)
  exact ⟨_, by simp [execOp, ho, resolve, invoke, builtin, Builtin.min_, Builtin.min2, h2, h3, Sem.run_bind, Result.andThen, Sem.run_pure], .v _⟩
def YR {α : Type} (J Jx : List α → AHeap → Prop) (l : List α) : AEnd → AHeap → Prop := fun e H' => (e = .ret (.v (.bool true)) ∧ J l H') ∨ (e = .ret (.v (.bool false)) ∧ Jx l H')
theorem Z8f {α : Type} {J Jx : List α → AHeap → Prop} {l : List α} {fo : Operand} {args : Array Operand} {ats : Array TypeId} {id : Nat} {xs : List AV} (F Hj : AHeap) (hw : Wanted ops s.T o true) (hd : dok o.dst s.n = true)
  (ho : o.op = .call { callee := .value fo, args := args, argTypes := ats }) (hfo : ev s.T fo = some (.yld id)) (hxs : evs s.T args.toList = some xs) (hH : s.H = F ++ Hj) (hc : YCalls P id xs Hj (YR J Jx l))
  (h : ∀ b H', (b = true → J l H') → (b = false → Jx l H') → AOps P ro ops rest Q { s with T := put s.T o.dst (.v (.bool b)), H := F ++ H' }) : AOps P ro ops (o :: rest) Q s := by
 refine Zad F Hj hw hd ho hfo hxs hH hc (fun ch H' hR => by rcases hR with ⟨h, _⟩ | ⟨h, _⟩ <;> cases h) (fun x H' hR => ?_)
 rcases hR with ⟨h1, h2⟩ | ⟨h1, h2⟩
 ·cases h1; exact h true H' (fun _ => h2) nofun
 ·cases h1; exact h false H' nofun (fun _ => h2)
theorem Z1i {α : Type} {l : List α} {i : Nat} (h : i < l.length) : l.take (i + 1) = l.take i ++ [l[i]] := by simp
theorem Z1s {P : Program} {x : Value} {k : IntKind} {i : Int} {y : Nat} {code : BoundsCode} (hx : x = .int k i) (h0 : 0 ≤ i) (h1 : i ≤ y) (w : World) : (Instr.sliceBound x y code).run P w = .ok i.toNat w := by
 subst hx
 simp [Instr.sliceBound, asIntOf, h0, h1, Sem.run_bind, Result.andThen, Sem.run_pure]
theorem Z2i {t e n : Nat} {b : Bool} {p q : Operand} {id len : Nat} {kd : IntKind} {k : Int} [h : UD P t (.slice e)] [k1 : TK P e b n] (ho : o.op = .slice t p none (some q) none)
  (hp : ev T p = some (.own id n 0 len)) (hq : ev T q = some (.v (.int kd k))) (h0 : 0 ≤ k) (h1 : k ≤ len) : Eff P o T [] (.own id n 0 k.toNat) [] :=
 Z01 (by intro c; rw [ho]; nofun) fun C H a w hw hn hv => by
  have h2 := hv p (by rw [ho]; simp [Op.operands]) _ hp
  have h3 := VR.val (hv q (by rw [ho]; simp [Op.operands]) _ hq)
  generalize hpv : a.eval p = u at h2
  cases h2 with
  | own _ _ _ _ bb N cap hid hu hcap hlen hml =>
   refine ⟨.slice (some ⟨bb, 0 * n, none⟩) k.toNat cap, ?_, .own id n 0 k.toNat bb N cap hid hu hcap (by omega) hml⟩
   have hkc : k ≤ (cap : Int) := by omega
   simp [execOp, ho, hpv, h3, Instr.sliceAt, Instr.slice, Instr.sliceBounds, run_underlying (d := .slice e), Z0g k1.tk, Z1s rfl h0 hkc, Sem.run_bind, Result.andThen, Sem.run_pure, Addr.add]
  | ownNil _ _ hid hu =>
   have hk : k = 0 := by omega
   subst hk
   refine ⟨.slice none 0 0, ?_, .ownNil id n hid hu⟩
   have hb : ∀ code, (Instr.sliceBound (.int kd 0) 0 code).run P w = .ok 0 w := fun code => Z1s rfl (by omega) (by omega) w
   simp [execOp, ho, hpv, h3, Instr.sliceAt, Instr.slice, Instr.sliceBounds, run_underlying (d := .slice e), Z0g k1.tk, hb, Sem.run_bind, Result.andThen, Sem.run_pure]
theorem Z5u {id sz el m : Nat} {es : List (List AV)} (k : Nat) (hH : s.H[k]? = some (id, .rows el sz es)) : Weak s { s with H := s.H.set k (id, .rows el sz (es.take m)) } := by
 intro Z C a w hs
 obtain ⟨H1, H2, e1, e2⟩ := Z5m hH
 have hw := hs.wr
 have hmap : (s.H.set k (id, AObj.rows el sz (es.take m))).map Prod.fst = s.H.map Prod.fst := by rw [e2, e1]; simp
 have hset : ∀ i o, (i, o) ∈ s.H.set k (id, AObj.rows el sz (es.take m)) → (i = id ∧ o = AObj.rows el sz (es.take m)) ∨ (i, o) ∈ s.H := fun i o hp => by
  rw [e2] at hp; rw [e1]
  rcases List.mem_append.1 hp with h | h
  ·exact .inr (List.mem_append_left _ h)
  ·rcases List.mem_cons.1 h with h | h
   ·cases h; exact .inl ⟨rfl, rfl⟩
   ·exact .inr (List.mem_append_right _ (List.mem_cons_of_mem _ h))
 have hidm : ∀ i o, (i, o) ∈ s.H.set k (id, AObj.rows el sz (es.take m)) → ∃ o', (i, o') ∈ s.H := fun i o hi => by
  rcases hset i o hi with ⟨rfl, rfl⟩ | h
  ·exact ⟨_, List.mem_of_getElem? hH⟩
  ·exact ⟨o, h⟩
 have hblk : ∀ b, blk C (s.H.set k (id, AObj.rows el sz (es.take m))) b → blk C s.H b := fun b ⟨i, o, N, hi, hm⟩ => by
  obtain ⟨o', ho'⟩ := hidm i o hi; exact ⟨i, o', N, ho', hm⟩
 refine ⟨C, ⟨⟨hw.hp, by rw [hmap]; exact hw.nd, ?_, ?_, fun b hb => hw.dis b (hblk b hb)⟩, hs.sl, hs.df, hs.du, hs.sz⟩, ⟨.refl C, fun _ _ h => h, rfl, rfl, rfl, Nat.le_refl _, fun _ _ _ => rfl, fun _ o h => .inl ⟨o, h⟩, fun b hb => .inl (hblk b hb), fun i o hi => .inl (hidm i o hi)⟩⟩
 ·intro i o hi
  rcases hset i o hi with ⟨rfl, rfl⟩ | h
  ·obtain ⟨h4, h5, h6⟩ := hw.ids _ _ (List.mem_of_getElem? hH)
   refine ⟨h4, fun e he => h5 e (List.mem_of_mem_take he), ?_⟩
   rcases h6 with ⟨h7, rfl⟩ | ⟨b, N, cells, h7, h8, h9, h10, h11⟩
   ·exact .inl ⟨h7, by simp⟩
   ·refine .inr ⟨b, N, cells, h7, h8, h9, ?_, ?_⟩
    ·have : (es.take m).length * sz ≤ es.length * sz := Nat.mul_le_mul_right _ (by simp; omega)
     omega
    ·intro i' e j c he hc
     have : es[i']? = some e := by
      rw [List.getElem?_take] at he
      split at he
      ·exact he
      ·cases he
     exact h11 i' e j c this hc
  ·exact hw.ids i o h
 ·intro i j o o' b N N' hi hj
  obtain ⟨p1, hp1⟩ := hidm i o hi
  obtain ⟨p2, hp2⟩ := hidm j o' hj
  exact hw.inj i j p1 p2 b N N' hp1 hp2
end
theorem Z2 {P : Program} {o : Oper} {T : List (Nat × AV)} {t e n : Nat} {b : Bool} {p q : Operand} {id off len : Nat} {kd : IntKind} {k : Int} (i : Nat) [h : UD P t (.slice e)] [k1 : TK P e b n] (ho : o.op = .indexAddr t p q)
  (hp : ev T p = some (.own id n off len)) (hq : ev T q = some (.v (.int kd k))) (h0 : 0 ≤ k) (h1 : k < len) (hi : off + k.toNat = i) : Eff P o T [] (.ptr id n i 0) [] := hi ▸ Z22 ho hp hq h0 h1
end Go.Sx
namespace Go.Sx
open Go
abbrev Str := ByteArray
abbrev iA (n : Int) : AV := .v (.int .i64 n)
abbrev uA (n : Int) : AV := .v (.int .u8 n)
abbrev sA (s : Str) : AV := .v (.string s)
abbrev bA (b : Bool) : AV := .v (.bool b)
def row1 {α : Type} (f : α → AV) (l : List α) : AV := .lst (l.map fun x => [f x])
structure Ty where
 kind : Int
 cls : Str
 deriving DecidableEq
structure Instr where
 op : Int
 a : Int
 b : Int
 c : Int
 k : Int
 cls : Str
 name : Str
 desc : Str
 args : List Int
 deriving DecidableEq
structure Fld where
 name : Str
 type : Ty
 static : Bool
 deriving DecidableEq
structure Meth where
 name : Str
 desc : Str
 static : Bool
 abs : Bool
 regs : Int
 code : List Instr
 deriving DecidableEq
structure Cls where
 name : Str
 super : Str
 iface : Bool
 abs : Bool
 ifaces : List Str
 fields : List Fld
 methods : List Meth
 deriving DecidableEq
structure MRef where
 cls : Str
 name : Str
 desc : Str
 deriving DecidableEq
structure Prog where
 classes : List Cls
 names : List Str
 entry : MRef
 deriving DecidableEq
structure Fact where
 kind : Int
 cls : Str
 deriving DecidableEq
def Ty.cells (t : Ty) : List AV := [iA t.kind, sA t.cls]
def Instr.cells (i : Instr) : List AV := [iA i.op, iA i.a, iA i.b, iA i.c, iA i.k, sA i.cls, sA i.name, sA i.desc, row1 iA i.args]
def Fld.cells (f : Fld) : List AV := [sA f.name, iA f.type.kind, sA f.type.cls, bA f.static]
def Meth.cells (m : Meth) : List AV := [sA m.name, sA m.desc, bA m.static, bA m.abs, iA m.regs, .lst (m.code.map Instr.cells)]
def Cls.cells (c : Cls) : List AV := [sA c.name, sA c.super, bA c.iface, bA c.abs, row1 sA c.ifaces, .lst (c.fields.map Fld.cells), .lst (c.methods.map Meth.cells)]
def MRef.cells (m : MRef) : List AV := [sA m.cls, sA m.name, sA m.desc]
def Prog.cells (p : Prog) : List AV := [.lst (p.classes.map Cls.cells), row1 sA p.names, sA p.entry.cls, sA p.entry.name, sA p.entry.desc]
def Fact.cells (f : Fact) : List AV := [iA f.kind, sA f.cls]
def i64 (n : Int) : Prop := -9223372036854775808 ≤ n ∧ n ≤ 9223372036854775807
def small (n : Nat) : Prop := n ≤ 140737488351232
structure Ty.ok (t : Ty) : Prop where
 kind : i64 t.kind
 cls : small t.cls.size
structure Instr.ok (i : Instr) : Prop where
 op : i64 i.op
 a : i64 i.a
 b : i64 i.b
 c : i64 i.c
 k : i64 i.k
 cls : small i.cls.size
 name : small i.name.size
 desc : small i.desc.size
 args : small i.args.length ∧ ∀ x, x ∈ i.args → i64 x
structure Fld.ok (f : Fld) : Prop where
 name : small f.name.size
 type : f.type.ok
structure Meth.ok (m : Meth) : Prop where
 name : small m.name.size
 desc : small m.desc.size
 regs : i64 m.regs
 code : small m.code.length ∧ ∀ x, x ∈ m.code → x.ok
structure Cls.ok (c : Cls) : Prop where
 name : small c.name.size
 super : small c.super.size
 ifaces : small c.ifaces.length ∧ ∀ x, x ∈ c.ifaces → small x.size
 fields : small c.fields.length ∧ ∀ x, x ∈ c.fields → x.ok
 methods : small c.methods.length ∧ ∀ x, x ∈ c.methods → x.ok
structure MRef.ok (m : MRef) : Prop where
 cls : small m.cls.size
 name : small m.name.size
 desc : small m.desc.size
structure Prog.ok (p : Prog) : Prop where
 classes : small p.classes.length ∧ ∀ x, x ∈ p.classes → x.ok
 names : small p.names.length ∧ ∀ x, x ∈ p.names → small x.size
 entry : p.entry.ok
structure Fact.ok (f : Fact) : Prop where
 kind : i64 f.kind
 cls : small f.cls.size
def Dec (P : Program) (t : TypeId) {α : Type} (cells : α → List AV) (ok : α → Prop) : Prop := ∀ xs, TV P t xs → ∃ x : α, xs = cells x ∧ ok x
def fts (P : Program) (t : TypeId) : Option (List TypeId) := match P.underlying t with
 | some (.struct fs) => some (fs.toList.map (·.type))
 | _ => none
theorem Zg5 {P : Program} {t : TypeId} (h : (fts P t).isSome = true) : ∃ fs, P.underlying t = some (.struct fs) := by
 unfold fts at h
 split at h
 ·exact ⟨_, by assumption⟩
 ·cases h
inductive TVF (P : Program) : List TypeId → List AV → Prop
 | nil : TVF P [] []
 | cons {t : TypeId} {ts : List TypeId} {x y : List AV} (h : TV P t x) (r : TVF P ts y) : TVF P (t :: ts) (x ++ y)
section
variable {P : Program} {t : TypeId}
theorem Zf5 (hu : P.underlying t = some (.int .i64)) : Dec P t (fun n => [iA n]) i64 := by
 intro xs h
 cases h with
 | int n h hn => rw [hu] at h; cases h; exact ⟨n, rfl, _root_.Go.bounds_i64 hn⟩
 | _ => simp_all
theorem Z8r (hu : P.underlying t = some .string) : Dec P t (fun s => [sA s]) (fun s => small s.size) := by
 intro xs h
 cases h with
 | string s h hs => exact ⟨s, rfl, hs⟩
 | _ => simp_all
theorem Zej {α : Type} {cells : α → List AV} {ok : α → Prop} : ∀ (es : List (List AV)), (∀ x : List AV, x ∈ es → ∃ y : α, x = cells y ∧ ok y) → ∃ l : List α, es = l.map cells ∧ ∀ x, x ∈ l → ok x
 | [], _ => ⟨[], rfl, nofun⟩
 | e :: es, h => by
  obtain ⟨y, rfl, hy⟩ := h e List.mem_cons_self
  obtain ⟨l, rfl, hl⟩ := Zej es (fun x hx => h x (List.mem_cons_of_mem _ hx))
  refine ⟨y :: l, rfl, fun x hx => ?_⟩
  rcases List.mem_cons.1 hx with rfl | hx
  ·exact hy
  ·exact hl x hx
theorem dec_list {e : TypeId} {α : Type} {cells : α → List AV} {ok : α → Prop} (hu : P.underlying t = some (.slice e)) (hb : Nat.blt 0 (P.bytesOf e) = true) (he : Dec P e cells ok) :
  Dec P t (fun l : List α => [.lst (l.map cells)]) (fun l => small l.length ∧ ∀ x, x ∈ l → ok x) := by
 intro xs h
 cases h with
 | slice es h hl hm hes =>
  rw [hu] at h; cases h
  obtain ⟨l, rfl, hok⟩ := Zej es (fun x hx => he x (hes x hx))
  refine ⟨l, rfl, ?_, hok⟩
  have hb : 0 < P.bytesOf e := Nat.blt_eq ▸ hb
  rw [List.length_map] at hl
  have h1 : l.length * 1 ≤ l.length * P.bytesOf e := Nat.mul_le_mul_left _ hb
  have h2 : reachBytes = 140737488351232 := rfl
  unfold small
  omega
 | _ => simp_all
theorem Z88 {ts : List TypeId} {xs : List AV} (h : fts P t = some ts) (hv : TV P t xs) : TVF P ts xs := by
 unfold fts at h
 split at h
 ·rename_i fs hu
  simp only [Option.some.injEq] at h
  subst h
  cases hv with
  | struct parts h hl hp =>
   rw [hu] at h; cases h
   have claim : ∀ (fl : List Field) (parts : List (List AV)), parts.length = fl.length → (∀ (i : Nat) (f : Field) (x : List AV), fl[i]? = some f → parts[i]? = some x → TV P f.type x) → TVF P (fl.map (·.type)) parts.flatten := by
    intro fl
    induction fl with
    | nil => intro parts hl _; cases parts with | nil => exact .nil | cons => simp at hl
    | cons f fl ih =>
     intro parts hl hp
     cases parts with
     | nil => simp at hl
     | cons x parts =>
      exact .cons (hp 0 f x rfl rfl) (ih parts (by simpa using hl) (fun i f x h1 h2 => hp (i + 1) f x (by simpa using h1) (by simpa using h2)))
   exact claim _ _ (by simpa using hl) (fun i f x h1 h2 => hp i f x (by simpa using h1) h2)
  | _ => simp_all
 ·cases h
theorem Z4d {α : Type} {cells : α → List AV} {ok : α → Prop} {ts : List TypeId} {xs : List AV} (hd : Dec P t cells ok) (h : TVF P (t :: ts) xs) : ∃ (x : α) (ys : List AV), xs = cells x ++ ys ∧ ok x ∧ TVF P ts ys := by
 cases h with
 | cons h r =>
  obtain ⟨x, rfl, hx⟩ := hd _ h
  exact ⟨x, _, rfl, hx, r⟩
theorem Zeq {xs : List AV} (h : TVF P [] xs) : xs = [] := by cases h; rfl
section
variable {i s b li ls tt ti tf tm tc tr lI lF lM lC : TypeId}
theorem Zdg (h : fts P t = some [s, s, s]) (hs : P.underlying s = some .string) : Dec P t MRef.cells MRef.ok := by
 intro xs hx
 obtain ⟨k, ys, rfl, hk, h1⟩ := Z4d (Z8r hs) (Z88 h hx)
 obtain ⟨c, ys, rfl, hc, h2⟩ := Z4d (Z8r hs) h1
 obtain ⟨d, ys, rfl, hd, h3⟩ := Z4d (Z8r hs) h2
 rw [Zeq h3]
 exact ⟨⟨k, c, d⟩, rfl, ⟨hk, hc, hd⟩⟩
end
end
theorem txs_agg {P : Program} {α : Type} {cells : α → List AV} {ok : α → Prop} {t : TypeId} {ts : List TypeId} {xs : List AV} (hd : Dec P t cells ok) (hn : isAggT P t = true) (h : TXs P (t :: ts) xs) :
  ∃ (a : α) (ys : List AV), xs = .agg (cells a) :: ys ∧ ok a ∧ TXs P ts ys := by
 cases h with
 | one hn' _ _ => rw [hn] at hn'; cases hn'
 | agg _ h r => obtain ⟨a, rfl, ha⟩ := hd _ h; exact ⟨a, _, rfl, ha, r⟩
theorem txs_one {P : Program} {α : Type} {f : α → AV} {ok : α → Prop} {t : TypeId} {ts : List TypeId} {xs : List AV} (hd : Dec P t (fun a => [f a]) ok) (hn : isAggT P t = false) (h : TXs P (t :: ts) xs) :
  ∃ (a : α) (ys : List AV), xs = f a :: ys ∧ ok a ∧ TXs P ts ys := by
 cases h with
 | agg hn' _ _ => rw [hn] at hn'; cases hn'
 | one _ h r => obtain ⟨a, e, ha⟩ := hd _ h; cases e; exact ⟨a, _, rfl, ha, r⟩
end Go.Sx
namespace Go.Sx
open Go
instance : TK Proofs.Tryz.prog 0 false 1 := ⟨by kernel_rfl⟩
instance : TK Proofs.Tryz.prog 1 false 1 := ⟨by kernel_rfl⟩
instance : ZC Proofs.Tryz.prog 1 [.nilFunc] := ⟨by kernel_rfl⟩
instance : TK Proofs.Tryz.prog 2 false 1 := ⟨by kernel_rfl⟩
instance : UD Proofs.Tryz.prog 2 (.int .i64) := ⟨by kernel_rfl⟩
instance : ZC Proofs.Tryz.prog 2 [.int .i64 0] := ⟨by kernel_rfl⟩
instance : TK Proofs.Tryz.prog 3 false 1 := ⟨by kernel_rfl⟩
instance : UD Proofs.Tryz.prog 3 (.int .i64) := ⟨by kernel_rfl⟩
instance : ZC Proofs.Tryz.prog 3 [.int .i64 0] := ⟨by kernel_rfl⟩
instance : TK Proofs.Tryz.prog 4 false 1 := ⟨by kernel_rfl⟩
instance : UD Proofs.Tryz.prog 4 (.bool) := ⟨by kernel_rfl⟩
instance : ZC Proofs.Tryz.prog 4 [.bool false] := ⟨by kernel_rfl⟩
instance : TK Proofs.Tryz.prog 5 false 1 := ⟨by kernel_rfl⟩
instance : UD Proofs.Tryz.prog 5 (.int .u8) := ⟨by kernel_rfl⟩
instance : ZC Proofs.Tryz.prog 5 [.int .u8 0] := ⟨by kernel_rfl⟩
instance : TK Proofs.Tryz.prog 7 true 4 := ⟨by kernel_rfl⟩
instance : FO Proofs.Tryz.prog 7 0 0 2 := ⟨by kernel_rfl⟩
instance : FO Proofs.Tryz.prog 7 1 1 3 := ⟨by kernel_rfl⟩
instance : FO Proofs.Tryz.prog 7 2 2 4 := ⟨by kernel_rfl⟩
instance : FO Proofs.Tryz.prog 7 3 3 6 := ⟨by kernel_rfl⟩
instance : ZC Proofs.Tryz.prog 7 [.int .i64 0, .int .i64 0, .bool false, .int .u8 0] := ⟨by kernel_rfl⟩
instance : TK Proofs.Tryz.prog 9 false 1 := ⟨by kernel_rfl⟩
instance : UD Proofs.Tryz.prog 9 (.string) := ⟨by kernel_rfl⟩
instance : ZC Proofs.Tryz.prog 9 [.string ⟨#[]⟩] := ⟨by kernel_rfl⟩
instance : TK Proofs.Tryz.prog 22 false 1 := ⟨by kernel_rfl⟩
instance : UD Proofs.Tryz.prog 22 (.slice 43) := ⟨by kernel_rfl⟩
instance : ZC Proofs.Tryz.prog 22 [.slice none 0 0] := ⟨by kernel_rfl⟩
instance : TK Proofs.Tryz.prog 23 true 3 := ⟨by kernel_rfl⟩
instance : FO Proofs.Tryz.prog 23 0 0 9 := ⟨by kernel_rfl⟩
instance : FO Proofs.Tryz.prog 23 1 1 9 := ⟨by kernel_rfl⟩
instance : FO Proofs.Tryz.prog 23 2 2 9 := ⟨by kernel_rfl⟩
instance : ZC Proofs.Tryz.prog 23 [.string ⟨#[]⟩, .string ⟨#[]⟩, .string ⟨#[]⟩] := ⟨by kernel_rfl⟩
instance : TK Proofs.Tryz.prog 24 true 3 := ⟨by kernel_rfl⟩
instance : FO Proofs.Tryz.prog 24 0 0 9 := ⟨by kernel_rfl⟩
instance : FO Proofs.Tryz.prog 24 1 1 9 := ⟨by kernel_rfl⟩
instance : FO Proofs.Tryz.prog 24 2 2 9 := ⟨by kernel_rfl⟩
instance : ZC Proofs.Tryz.prog 24 [.string ⟨#[]⟩, .string ⟨#[]⟩, .string ⟨#[]⟩] := ⟨by kernel_rfl⟩
instance : TK Proofs.Tryz.prog 25 false 1 := ⟨by kernel_rfl⟩
instance : UD Proofs.Tryz.prog 25 (.slice 24) := ⟨by kernel_rfl⟩
instance : ZC Proofs.Tryz.prog 25 [.slice none 0 0] := ⟨by kernel_rfl⟩
instance : TK Proofs.Tryz.prog 29 true 5 := ⟨by kernel_rfl⟩
instance : FO Proofs.Tryz.prog 29 0 0 25 := ⟨by kernel_rfl⟩
instance : FO Proofs.Tryz.prog 29 1 1 26 := ⟨by kernel_rfl⟩
instance : FO Proofs.Tryz.prog 29 2 2 27 := ⟨by kernel_rfl⟩
instance : FO Proofs.Tryz.prog 29 3 3 22 := ⟨by kernel_rfl⟩
instance : FO Proofs.Tryz.prog 29 4 4 28 := ⟨by kernel_rfl⟩
instance : ZC Proofs.Tryz.prog 29 [.slice none 0 0, .slice none 0 0, .slice none 0 0, .slice none 0 0, .slice none 0 0] := ⟨by kernel_rfl⟩
instance : TK Proofs.Tryz.prog 30 true 5 := ⟨by kernel_rfl⟩
instance : FO Proofs.Tryz.prog 30 0 0 25 := ⟨by kernel_rfl⟩
instance : FO Proofs.Tryz.prog 30 1 1 26 := ⟨by kernel_rfl⟩
instance : FO Proofs.Tryz.prog 30 2 2 27 := ⟨by kernel_rfl⟩
instance : FO Proofs.Tryz.prog 30 3 3 22 := ⟨by kernel_rfl⟩
instance : FO Proofs.Tryz.prog 30 4 4 28 := ⟨by kernel_rfl⟩
instance : ZC Proofs.Tryz.prog 30 [.slice none 0 0, .slice none 0 0, .slice none 0 0, .slice none 0 0, .slice none 0 0] := ⟨by kernel_rfl⟩
instance : TK Proofs.Tryz.prog 35 false 1 := ⟨by kernel_rfl⟩
instance : UD Proofs.Tryz.prog 35 (.map 24 4) := ⟨by kernel_rfl⟩
instance : ZC Proofs.Tryz.prog 35 [.map none] := ⟨by kernel_rfl⟩
instance : TK Proofs.Tryz.prog 37 false 1 := ⟨by kernel_rfl⟩
instance : ZC Proofs.Tryz.prog 37 [.nilFunc] := ⟨by kernel_rfl⟩
instance : TK Proofs.Tryz.prog 38 false 1 := ⟨by kernel_rfl⟩
instance : ZC Proofs.Tryz.prog 38 [.nilFunc] := ⟨by kernel_rfl⟩
instance : TK Proofs.Tryz.prog 40 false 1 := ⟨by kernel_rfl⟩
instance : ZC Proofs.Tryz.prog 40 [.nilFunc] := ⟨by kernel_rfl⟩
instance : TK Proofs.Tryz.prog 42 true 7 := ⟨by kernel_rfl⟩
instance : FO Proofs.Tryz.prog 42 0 0 24 := ⟨by kernel_rfl⟩
instance : FO Proofs.Tryz.prog 42 1 3 3 := ⟨by kernel_rfl⟩
instance : FO Proofs.Tryz.prog 42 2 4 24 := ⟨by kernel_rfl⟩
instance : ZC Proofs.Tryz.prog 42 [.string ⟨#[]⟩, .string ⟨#[]⟩, .string ⟨#[]⟩, .int .i64 0, .string ⟨#[]⟩, .string ⟨#[]⟩, .string ⟨#[]⟩] := ⟨by kernel_rfl⟩
instance : TK Proofs.Tryz.prog 43 true 7 := ⟨by kernel_rfl⟩
instance : FO Proofs.Tryz.prog 43 0 0 24 := ⟨by kernel_rfl⟩
instance : FO Proofs.Tryz.prog 43 1 3 3 := ⟨by kernel_rfl⟩
instance : FO Proofs.Tryz.prog 43 2 4 24 := ⟨by kernel_rfl⟩
instance : ZC Proofs.Tryz.prog 43 [.string ⟨#[]⟩, .string ⟨#[]⟩, .string ⟨#[]⟩, .int .i64 0, .string ⟨#[]⟩, .string ⟨#[]⟩, .string ⟨#[]⟩] := ⟨by kernel_rfl⟩
instance : TK Proofs.Tryz.prog 44 false 1 := ⟨by kernel_rfl⟩
instance : ZC Proofs.Tryz.prog 44 [.nilFunc] := ⟨by kernel_rfl⟩
instance : TK Proofs.Tryz.prog 45 false 1 := ⟨by kernel_rfl⟩
instance : ZC Proofs.Tryz.prog 45 [.nilFunc] := ⟨by kernel_rfl⟩
instance : TK Proofs.Tryz.prog 64 false 1 := ⟨by kernel_rfl⟩
instance : ZC Proofs.Tryz.prog 64 [.nilFunc] := ⟨by kernel_rfl⟩
instance : TK Proofs.Tryz.prog 91 false 1 := ⟨by kernel_rfl⟩
instance : UD Proofs.Tryz.prog 91 (.slice 3) := ⟨by kernel_rfl⟩
instance : ZC Proofs.Tryz.prog 91 [.slice none 0 0] := ⟨by kernel_rfl⟩
instance : TK Proofs.Tryz.prog 128 false 1 := ⟨by kernel_rfl⟩
instance : UD Proofs.Tryz.prog 128 (.int .u64) := ⟨by kernel_rfl⟩
instance : ZC Proofs.Tryz.prog 128 [.int .u64 0] := ⟨by kernel_rfl⟩
instance : TK Proofs.Tryz.prog 174 false 1 := ⟨by kernel_rfl⟩
instance : TK Proofs.Tryz.prog 180 false 1 := ⟨by kernel_rfl⟩
instance : UD Proofs.Tryz.prog 180 (.int .i64) := ⟨by kernel_rfl⟩
instance : ZC Proofs.Tryz.prog 180 [.int .i64 0] := ⟨by kernel_rfl⟩
instance : TK Proofs.Tryz.prog 181 false 1 := ⟨by kernel_rfl⟩
instance : TK Proofs.Tryz.prog 187 false 1 := ⟨by kernel_rfl⟩
instance : UD Proofs.Tryz.prog 187 (.int .u32) := ⟨by kernel_rfl⟩
instance : ZC Proofs.Tryz.prog 187 [.int .u32 0] := ⟨by kernel_rfl⟩
instance : TK Proofs.Tryz.prog 189 false 1 := ⟨by kernel_rfl⟩
instance : UD Proofs.Tryz.prog 189 (.int .u64) := ⟨by kernel_rfl⟩
instance : ZC Proofs.Tryz.prog 189 [.int .u64 0] := ⟨by kernel_rfl⟩
instance : TK Proofs.Tryz.prog 233 false 1 := ⟨by kernel_rfl⟩
instance : UD Proofs.Tryz.prog 233 (.int .u64) := ⟨by kernel_rfl⟩
instance : ZC Proofs.Tryz.prog 233 [.int .u64 0] := ⟨by kernel_rfl⟩
instance : TK Proofs.Tryz.prog 237 false 1 := ⟨by kernel_rfl⟩
instance : UD Proofs.Tryz.prog 237 (.pointer 3) := ⟨by kernel_rfl⟩
instance : ZC Proofs.Tryz.prog 237 [.pointer none] := ⟨by kernel_rfl⟩
instance : TK Proofs.Tryz.prog 261 false 1 := ⟨by kernel_rfl⟩
instance : UD Proofs.Tryz.prog 261 (.pointer 233) := ⟨by kernel_rfl⟩
instance : ZC Proofs.Tryz.prog 261 [.pointer none] := ⟨by kernel_rfl⟩
instance : TK Proofs.Tryz.prog 262 false 1 := ⟨by kernel_rfl⟩
instance : AP Proofs.Tryz.prog 1 1 8 := ⟨by kernel_rfl⟩
instance : ZV Proofs.Tryz.prog 1 (.nilFunc) := ⟨by kernel_rfl⟩
instance : AP Proofs.Tryz.prog 2 1 8 := ⟨by kernel_rfl⟩
instance : ZV Proofs.Tryz.prog 2 (.int .i64 0) := ⟨by kernel_rfl⟩
instance : AP Proofs.Tryz.prog 3 1 8 := ⟨by kernel_rfl⟩
instance : ZV Proofs.Tryz.prog 3 (.int .i64 0) := ⟨by kernel_rfl⟩
instance : AP Proofs.Tryz.prog 4 1 1 := ⟨by kernel_rfl⟩
instance : ZV Proofs.Tryz.prog 4 (.bool false) := ⟨by kernel_rfl⟩
instance : AP Proofs.Tryz.prog 5 1 1 := ⟨by kernel_rfl⟩
instance : ZV Proofs.Tryz.prog 5 (.int .u8 0) := ⟨by kernel_rfl⟩
instance : AP Proofs.Tryz.prog 7 4 24 := ⟨by kernel_rfl⟩
instance : PL Proofs.Tryz.prog 7 [(0, 1), (1, 1), (2, 1), (3, 1)] := ⟨by kernel_rfl⟩
instance : AP Proofs.Tryz.prog 9 1 16 := ⟨by kernel_rfl⟩
instance : ZV Proofs.Tryz.prog 9 (.string ⟨#[]⟩) := ⟨by kernel_rfl⟩
instance : AP Proofs.Tryz.prog 22 1 24 := ⟨by kernel_rfl⟩
instance : ZV Proofs.Tryz.prog 22 (.slice none 0 0) := ⟨by kernel_rfl⟩
instance : AP Proofs.Tryz.prog 23 3 48 := ⟨by kernel_rfl⟩
instance : PL Proofs.Tryz.prog 23 [(0, 1), (1, 1), (2, 1)] := ⟨by kernel_rfl⟩
instance : AP Proofs.Tryz.prog 24 3 48 := ⟨by kernel_rfl⟩
instance : PL Proofs.Tryz.prog 24 [(0, 1), (1, 1), (2, 1)] := ⟨by kernel_rfl⟩
instance : EQ Proofs.Tryz.prog 24 [.str, .str, .str] := ⟨by kernel_rfl, by kernel_rfl, Zg5 (by kernel_rfl)⟩
instance : AP Proofs.Tryz.prog 25 1 24 := ⟨by kernel_rfl⟩
instance : ZV Proofs.Tryz.prog 25 (.slice none 0 0) := ⟨by kernel_rfl⟩
instance : AP Proofs.Tryz.prog 29 5 120 := ⟨by kernel_rfl⟩
instance : PL Proofs.Tryz.prog 29 [(0, 1), (1, 1), (2, 1), (3, 1), (4, 1)] := ⟨by kernel_rfl⟩
instance : AP Proofs.Tryz.prog 30 5 120 := ⟨by kernel_rfl⟩
instance : PL Proofs.Tryz.prog 30 [(0, 1), (1, 1), (2, 1), (3, 1), (4, 1)] := ⟨by kernel_rfl⟩
instance : AP Proofs.Tryz.prog 35 1 8 := ⟨by kernel_rfl⟩
instance : ZV Proofs.Tryz.prog 35 (.map none) := ⟨by kernel_rfl⟩
instance : AP Proofs.Tryz.prog 37 1 8 := ⟨by kernel_rfl⟩
instance : ZV Proofs.Tryz.prog 37 (.nilFunc) := ⟨by kernel_rfl⟩
instance : AP Proofs.Tryz.prog 38 1 8 := ⟨by kernel_rfl⟩
instance : ZV Proofs.Tryz.prog 38 (.nilFunc) := ⟨by kernel_rfl⟩
instance : AP Proofs.Tryz.prog 40 1 8 := ⟨by kernel_rfl⟩
instance : ZV Proofs.Tryz.prog 40 (.nilFunc) := ⟨by kernel_rfl⟩
instance : AP Proofs.Tryz.prog 42 7 104 := ⟨by kernel_rfl⟩
instance : PL Proofs.Tryz.prog 42 [(0, 3), (3, 1), (4, 3)] := ⟨by kernel_rfl⟩
instance : AP Proofs.Tryz.prog 43 7 104 := ⟨by kernel_rfl⟩
instance : PL Proofs.Tryz.prog 43 [(0, 3), (3, 1), (4, 3)] := ⟨by kernel_rfl⟩
instance : EQ Proofs.Tryz.prog 43 [.str, .str, .str, .int .i64, .str, .str, .str] := ⟨by kernel_rfl, by kernel_rfl, Zg5 (by kernel_rfl)⟩
instance : AP Proofs.Tryz.prog 44 1 8 := ⟨by kernel_rfl⟩
instance : ZV Proofs.Tryz.prog 44 (.nilFunc) := ⟨by kernel_rfl⟩
instance : AP Proofs.Tryz.prog 45 1 8 := ⟨by kernel_rfl⟩
instance : ZV Proofs.Tryz.prog 45 (.nilFunc) := ⟨by kernel_rfl⟩
instance : AP Proofs.Tryz.prog 64 1 8 := ⟨by kernel_rfl⟩
instance : ZV Proofs.Tryz.prog 64 (.nilFunc) := ⟨by kernel_rfl⟩
instance : AP Proofs.Tryz.prog 91 1 24 := ⟨by kernel_rfl⟩
instance : ZV Proofs.Tryz.prog 91 (.slice none 0 0) := ⟨by kernel_rfl⟩
instance : AP Proofs.Tryz.prog 128 1 8 := ⟨by kernel_rfl⟩
instance : ZV Proofs.Tryz.prog 128 (.int .u64 0) := ⟨by kernel_rfl⟩
instance : AP Proofs.Tryz.prog 180 1 8 := ⟨by kernel_rfl⟩
instance : ZV Proofs.Tryz.prog 180 (.int .i64 0) := ⟨by kernel_rfl⟩
instance : AP Proofs.Tryz.prog 187 1 4 := ⟨by kernel_rfl⟩
instance : ZV Proofs.Tryz.prog 187 (.int .u32 0) := ⟨by kernel_rfl⟩
instance : AP Proofs.Tryz.prog 189 1 8 := ⟨by kernel_rfl⟩
instance : ZV Proofs.Tryz.prog 189 (.int .u64 0) := ⟨by kernel_rfl⟩
instance : AP Proofs.Tryz.prog 233 1 8 := ⟨by kernel_rfl⟩
instance : ZV Proofs.Tryz.prog 233 (.int .u64 0) := ⟨by kernel_rfl⟩
instance : AP Proofs.Tryz.prog 237 1 8 := ⟨by kernel_rfl⟩
instance : ZV Proofs.Tryz.prog 237 (.pointer none) := ⟨by kernel_rfl⟩
instance : AP Proofs.Tryz.prog 261 1 8 := ⟨by kernel_rfl⟩
instance : ZV Proofs.Tryz.prog 261 (.pointer none) := ⟨by kernel_rfl⟩
theorem dec24 : Dec Go.Proofs.Tryz.prog 24 MRef.cells MRef.ok := Zdg (s := 9) (by kernel_rfl) (by kernel_rfl)
end Go.Sx
namespace Go.Sx
open Go
theorem Z1c {P : Program} {b : Frame} {a : Act} {k : List Item} {cs : List Frame} {w : World} {c : Code} : step P (lone (b.atR a (.code (.scope c) :: k)) cs w) = .next (lone (b.atR a (.code c :: .inScope c :: k)) cs w) :=
 step_lone_go (by simp [stepG, stepG.exec, Frame.atR])
theorem Z6w {P : Program} {b : Frame} {a : Act} {k : List Item} {cs : List Frame} {w : World} {c : Code} : step P (lone (b.atR a (.inScope c :: k)) cs w) = .next (lone (b.atR a k) cs w) :=
 step_lone_go (by simp [stepG, stepG.exec, Frame.atR])
theorem Z6d {F : Fence} {n : Nat} {P : Program} {c : Code} {Q : Exit → Act → World → Prop} {a : Act} {w : World} (h : c.wpIn F n P (Exit.noGoto Q) a w) : (Code.scope c).wpIn F n P Q a w := by
 intro b k cs hro hb hr
 have h0 : (lone (b.atR a (.code (.scope c) :: k)) cs w).fenced P F := fenced_calm hb hr rfl
 obtain ⟨e, a₁, w₁, hq, harr⟩ := h b (.inScope c :: k) cs hro hb hr
 cases e with
 | normal => exact ⟨.normal, a₁, w₁, hq, .head h0 Z1c (StepsIn.trans harr (.one (fenced_calm hb hr rfl) Z6w))⟩
 | exit id =>
  have hx : exitTo id (.inScope c :: k) = exitTo id k := by simp [exitTo]
  exact ⟨.exit id, a₁, w₁, hq, fun k' hk => .head h0 Z1c (harr.1 k' (by rw [hx]; exact hk)),
   fun hr' hk => let ⟨k₁, h1, h2⟩ := harr.2 hr' (by rw [hx]; exact hk); ⟨k₁, h1, .head h0 Z1c h2⟩⟩
 | goto l => exact hq.elim
 | ret => exact ⟨_, a₁, w₁, hq, .of_steps (.one h0 Z1c) harr⟩
 | panic ch => exact ⟨_, a₁, w₁, hq, .of_steps (.one h0 Z1c) harr⟩
 | outgrown => exact ⟨_, a₁, w₁, hq, .of_steps (.one h0 Z1c) harr⟩
def scopeQ (Q : Exit → St → Prop) : Exit → St → Prop
 | .goto _, _ => False
 | .normal, s => Q .normal s
 | .exit i, s => Q (.exit i) s
 | .ret, s => Q .ret s
 | .panic c, s => Q (.panic c) s
 | .outgrown, s => Q .outgrown s
theorem Zb8 {P : Program} {ro : Option Nat} {Q : Exit → St → Prop} {s : St} {c : Code} (h : AWp P ro c (scopeQ Q) s) : AWp P ro (.scope c) Q s :=
 fun Z C0 H0 w0 C a w he hs => Z6d (wpIn_mono (h Z C0 H0 w0 C a w he hs) (by
  rintro e a' w' ⟨h1, C', s', hq, hs', he'⟩
  cases e with
  | goto l => exact hq.elim
  | outgrown => exact absurd rfl h1
  | _ => exact ⟨h1, C', s', hq, hs', he'⟩))
end Go.Sx
namespace Go.Sx
open Go
variable {P : Program} {ro : Option Nat} {Q : Exit → St → Prop} {s : St} {ops : Array Oper} {o : Oper} {rest : List Oper} {T : List (Nat × AV)}
def Sub (x y : AV) : Prop := ∀ C v, VR C x v → VR C y v
theorem Sub.refl (x : AV) : Sub x x := fun _ _ h => h
theorem Sub.z : Sub (.v (.slice none 0 0)) (.lst []) := fun C v h => by cases h; exact .lstNil
inductive Subs : List AV → List AV → Prop
 | nil : Subs [] []
 | keep {x : AV} {xs ys : List AV} (h : Subs xs ys) : Subs (x :: xs) (x :: ys)
 | z {xs ys : List AV} (h : Subs xs ys) : Subs (.v (.slice none 0 0) :: xs) (.lst [] :: ys)
 | to {x y : AV} {xs ys : List AV} (h0 : Sub x y) (h : Subs xs ys) : Subs (x :: xs) (y :: ys)
theorem Subs.len : ∀ {xs ys : List AV}, Subs xs ys → xs.length = ys.length
 | _, _, .nil => rfl
 | _, _, .keep h => by simp [h.len]
 | _, _, .z h => by simp [h.len]
 | _, _, .to _ h => by simp [h.len]
theorem Subs.get {C : Ctx} : ∀ {xs ys : List AV}, Subs xs ys → ∀ (i : Nat) (y : AV), ys[i]? = some y → ∃ x, xs[i]? = some x ∧ Sub x y
 | _, _, .nil, i, y, h => by simp at h
 | _, _, .keep h, 0, y, hy => by simp at hy; subst hy; exact ⟨_, rfl, .refl _⟩
 | _, _, .z h, 0, y, hy => by simp at hy; subst hy; exact ⟨_, rfl, .z⟩
 | _, _, .to h0 h, 0, y, hy => by simp at hy; subst hy; exact ⟨_, rfl, h0⟩
 | _, _, .keep h, i + 1, y, hy => by simpa using h.get (C := C) i y (by simpa using hy)
 | _, _, .z h, i + 1, y, hy => by simpa using h.get (C := C) i y (by simpa using hy)
 | _, _, .to _ h, i + 1, y, hy => by simpa using h.get (C := C) i y (by simpa using hy)
theorem Sub.agg {xs ys : List AV} (h : Subs xs ys) : Sub (.agg xs) (.agg ys) := fun C v hv => by
 cases hv with
 | agg _ vs hl hh =>
  refine .agg ys vs (h.len.symm.trans hl) fun i y x h1 h2 => ?_
  obtain ⟨z, h3, h4⟩ := h.get (C := C) i y h1
  exact h4 C x (hh i z x h3 h2)
theorem Zz {x y : AV} {Hn On : AHeap} (h : Eff P o T Hn x On) (hs : x = y) : Eff P o T Hn y On := hs ▸ h
theorem Zf9 {el sz len : Nat} {es : List (List AV)} (h : ∀ id, Eff P o T [] (.own id sz 0 len) [(id, .rows el sz es)]) (hl : len = es.length) : Eff P o T [] (.lst es) [] := by
 intro Z C H a w hw hn hv _ _ _ ro next R hk
 obtain ⟨id, hid⟩ := Z5w (C.U ++ Z)
 rw [List.mem_append, not_or] at hid
 refine h id Z C H a w hw nofun hv (by intro p hp; simp at hp; subst hp; exact hid.1) (by simp) (fun z hz => by simp; rintro rfl; exact hid.2 hz) ro next R ?_
 intro v w1 C1 hx hw1 he1
 obtain ⟨b, ob, h1, h2, h3, h4, h5, h6⟩ := frz hw1
 refine hk v w1 _ (h6 v len hl hx) h4 (he1.trans ⟨h5, fun _ _ h => h, rfl, rfl, rfl, Nat.le_refl _, fun _ _ _ => rfl, ?_, ?_, ?_⟩)
 ·intro x o hx
  simp only [Ctx.hpSet] at hx
  split at hx
  ·rename_i e
   obtain ⟨_, N, hm⟩ := h2 x e
   exact .inr (.inr ⟨id, _, N, List.mem_cons_self, hm⟩)
  ·exact .inl ⟨o, hx⟩
 ·rintro x ⟨i, o, N, hi, hm⟩
  exact .inl ⟨i, o, N, List.mem_cons_of_mem _ hi, hm⟩
 ·intro i o hi
  exact .inl ⟨o, List.mem_cons_of_mem _ hi⟩
def bitOf (ms : List Nat) (i j : Nat) : Bool := Nat.testBit (ms.getD i 0) j
def okCert (ops : Array Oper) (ms : List Nat) : Bool := (List.range ops.size).all fun i => match ops[i]? with
 | some o => (List.range i).all fun j => !bitOf ms i j || o.after.any fun e => Region.binds .any e && (e.on == j || (Nat.blt j e.on && bitOf ms e.on j))
 | none => true
def okLooksM (ops : Array Oper) (ms : List Nat) (np : Nat) : Bool := (List.range np).all fun i => match ops[i]? with
 | some o => (o.looksAt ops).all fun t => (List.range np).all fun j => !((ops[j]?).bind (·.dst) == some t) || (Nat.blt j i && bitOf ms i j)
 | none => false
def okTailM (ops : Array Oper) (ms : List Nat) (np : Nat) : Bool := (List.range (ops.size - np)).all fun d => (List.range (np + d)).all fun i => bitOf ms (np + d) i
def tidyM (ops : Array Oper) (ms : List Nat) (np : Nat) : Bool := Nat.ble np ops.size && okEdges ops && okDst ops np && okCert ops ms && okLooksM ops ms np && okTailM ops ms np
theorem Z9b {ops : Array Oper} : ∀ {f g i j : Nat}, f ≤ g → anc ops f i j = true → anc ops g i j = true
 | 0, _, _, _, _, h => by cases h
 | f + 1, 0, _, _, hl, _ => by omega
 | f + 1, g + 1, i, j, hl, h => by
  unfold anc at h ⊢
  cases ho : ops[i]? with
  | none => rw [ho] at h; cases h
  | some o =>
   rw [ho] at h
   simp only [Array.any_eq_true, Bool.and_eq_true, Bool.or_eq_true] at h ⊢
   obtain ⟨k, hk, hb, h1⟩ := h
   exact ⟨k, hk, hb, h1.imp id fun h2 => Z9b (by omega) h2⟩
theorem Z4m {ops : Array Oper} {ms : List Nat} (he : okEdges ops = true) (hc : okCert ops ms = true) : ∀ i, i < ops.size → ∀ j, j < i → bitOf ms i j = true → anc ops i i j = true := by
 intro i
 induction i using Nat.strongRecOn with
 | _ i ih =>
  intro hi j hj hb
  have h1 := List.all_eq_true.1 hc i (List.mem_range.2 hi)
  have h2 := List.all_eq_true.1 he i (List.mem_range.2 hi)
  rw [Array.getElem?_eq_getElem hi] at h1 h2
  simp only at h1 h2
  have h1 := List.all_eq_true.1 h1 j (List.mem_range.2 hj)
  rw [hb] at h1
  simp only [Bool.not_true, Bool.false_or, Array.any_eq_true, Bool.and_eq_true, Bool.or_eq_true] at h1
  obtain ⟨k, hk, hbn, h3⟩ := h1
  obtain ⟨i', rfl⟩ : ∃ i', i = i' + 1 := ⟨i - 1, by omega⟩
  have h4 : Nat.blt (ops[i' + 1].after[k]).on (i' + 1) = true := by
   have := Array.all_eq_true.1 h2 k hk
   rw [hbn, Bool.not_true, Bool.false_or] at this
   exact this
  have h4 : (ops[i' + 1].after[k]).on < i' + 1 := Nat.blt_eq ▸ h4
  unfold anc
  rw [Array.getElem?_eq_getElem hi]
  simp only [Array.any_eq_true, Bool.and_eq_true, Bool.or_eq_true]
  refine ⟨k, hk, hbn, h3.imp id fun h5 => ?_⟩
  have h6 : j < (ops[i' + 1].after[k]).on := Nat.blt_eq ▸ h5.1
  exact Z9b (by omega) (ih _ h4 (by omega) j h6 h5.2)
theorem Zfr {ops : Array Oper} {ms : List Nat} {np : Nat} (h : tidyM ops ms np = true) : tidy ops np = true := by
 simp only [tidyM, Bool.and_eq_true] at h
 obtain ⟨⟨⟨⟨⟨h1, h2⟩, h3⟩, h4⟩, h5⟩, h6⟩ := h
 have hle : np ≤ ops.size := Nat.le_of_ble_eq_true h1
 simp only [tidy, Bool.and_eq_true]
 refine ⟨⟨⟨⟨h1, h2⟩, h3⟩, ?_⟩, ?_⟩
 ·refine List.all_eq_true.2 fun i hi => ?_
  have h7 := List.all_eq_true.1 h5 i hi
  have hi' : i < ops.size := by have := List.mem_range.1 hi; omega
  rw [Array.getElem?_eq_getElem hi'] at h7 ⊢
  refine List.all_eq_true.2 fun t ht => List.all_eq_true.2 fun j hj => ?_
  have h8 := List.all_eq_true.1 (List.all_eq_true.1 h7 t ht) j hj
  simp only [Bool.or_eq_true, Bool.and_eq_true] at h8 ⊢
  exact h8.imp id fun h9 => ⟨h9.1, Z4m h2 h4 i hi' j (Nat.blt_eq ▸ h9.1) h9.2⟩
 ·refine List.all_eq_true.2 fun d hd => List.all_eq_true.2 fun i hi => ?_
  have h7 := List.all_eq_true.1 (List.all_eq_true.1 h6 d hd) i hi
  have hd' := List.mem_range.1 hd
  exact Z4m h2 h4 (np + d) (by omega) i (List.mem_range.1 hi) h7
theorem Z0d {id : Nat} {l : List Oper} (ms : List Nat) (np : Nat) (hm : P.follows .mixedOrders = true) (ht : tidyM l.toArray ms (l.take np).length = true)
  (h : Calm P l.toArray s.H (AOps P ro l.toArray (l.drop np) Q) 0 (l.take np) [] s) : AWp P ro (.region id l.toArray true) Q s :=
 Z1e np hm (Zfr ht) h
def GSome {α : Type} (f : α → AV) (φ : α → Prop) : AEnd → AHeap → Prop := fun e H => ∃ a, φ a ∧ e = .ret (f a) ∧ H = []
theorem Z2o {fo : Operand} {args : Array Operand} {ats : Array TypeId} {g : Nat} {caps xs : List AV} {α : Type} {f : α → AV} {φ : α → Prop} (hw : Wanted ops s.T o true) (hd : dok o.dst s.n = true)
  (ho : o.op = .call { callee := .value fo, args := args, argTypes := ats }) (hfo : ev s.T fo = some (.fn (.func g) caps)) (hxs : evs s.T args.toList = some xs) (hc : ACalls P g (xs ++ caps) [] (GSome f φ))
  (h : ∀ a, φ a → AOps P ro ops rest Q { s with T := put s.T o.dst (f a) }) : AOps P ro ops (o :: rest) Q s :=
 Zab hw hd ho hfo hxs hc (fun ch H' hR => by obtain ⟨_, _, h, _⟩ := hR; cases h) (fun x H' hR => by obtain ⟨a, h1, h2, rfl⟩ := hR; cases h2; exact h a h1)
abbrev SomeB : AEnd → AHeap → Prop := GSome bA (fun _ => True)
abbrev SomeI : AEnd → AHeap → Prop := GSome iA (fun _ => True)
abbrev SomeS : AEnd → AHeap → Prop := GSome sA (fun _ => True)
theorem Z5x {α : Type} {f : α → AV} {φ : α → Prop} {xs : List AV} (a : α) (h : φ a) (hx : mkRes xs = f a) : GSome f φ (.ret (mkRes xs)) [] := ⟨a, h, congrArg _ hx, rfl⟩
def byteAt (u : ByteArray) (k : Int) : Int := match u[k.toNat]? with | some c => c.toNat | none => 0
theorem Z0w {t : Nat} {p q : Operand} {u : ByteArray} {kd : IntKind} {k : Int} [h : UD P t .string] (ho : o.op = .index t p q)
  (hp : ev T p = some (.v (.string u))) (hq : ev T q = some (.v (.int kd k))) (h0 : 0 ≤ k) (h1 : k < u.size) : Eff P o T [] (.v (.int .u8 (byteAt u k))) [] := by
 have hl : k.toNat < u.size := by omega
 have e : u[k.toNat]? = some u[k.toNat] := getElem?_pos u k.toNat hl
 have := Z6i (P := P) (T := T) ho hp hq h0 e
 unfold byteAt; rw [e]; exact this
theorem Z4p {t : Nat} {x : AV} (ht : lk s.T t = some x) : Weak s { s with T := (t, x) :: s.T } := fun Z C a w hs =>
 ⟨C, ⟨hs.wr, fun t' y hy => by
  simp only [lk] at hy
  cases hb : Nat.beq t t' with
  | true => simp only [hb, cond_true] at hy; have e := Nat.eq_of_beq_eq_true hb; subst e; exact hs.sl t y (ht.trans hy)
  | false => simp only [hb, cond_false] at hy; exact hs.sl t' y hy, hs.df, hs.du, hs.sz⟩, .refl ..⟩
theorem Z0o {c : Code} {b : Bool} (t : Nat) (ht : lk s.T t = some (.v (.bool b))) (h : ∀ d, d = b → AWp P ro c Q { s with T := (t, .v (.bool d)) :: s.T }) : AWp P ro c Q s := Z1d (Z4p ht) (h b rfl)
theorem Zd7 {c : Code} {k : IntKind} {b : Int} (t : Nat) (ht : lk s.T t = some (.v (.int k b))) (h : ∀ d, d = b → AWp P ro c Q { s with T := (t, .v (.int k d)) :: s.T }) : AWp P ro c Q s := Z1d (Z4p ht) (h b rfl)
theorem Zfd {t t' : TypeId} {p q : Operand} {k : IntKind} {x y : Int} (ho : o.op = .binOp .rem t p q t') (hp : ev T p = some (.v (.int k x))) (hq : ev T q = some (.v (.int k y))) (hy : y ≠ 0) : Eff P o T [] (.v (.int k (x.tmod y))) [] :=
 Z01 (by intro c; rw [ho]; nofun) fun C H a w hw hn hv => by
  have h2 := VR.val (hv p (by rw [ho]; simp [Op.operands]) _ hp)
  have h3 := VR.val (hv q (by rw [ho]; simp [Op.operands]) _ hq)
  refine ⟨_, ?_, .v _⟩
  simp [execOp, ho, h2, h3, eqGuard, binOp, Op.intDiv, hy, Sem.run_bind, Result.andThen]
def GP {β : Type} (f : β → AV) (Hb : β → AHeap) (φ : β → Prop) : AEnd → AHeap → Prop := fun e H => ∃ b, φ b ∧ e = .ret (f b) ∧ H = Hb b
theorem Z19 {H : AHeap} {k j : Nat} {p q : Nat × AObj} (h : H[k]? = some p) (h2 : (H.eraseIdx k)[j]? = some q) : H.Perm ([p, q] ++ (H.eraseIdx k).eraseIdx j) := (Zv h).trans ((Zv h2).cons p)
theorem Zh {fo : Operand} {args : Array Operand} {ats : Array TypeId} {g : Nat} {caps xs : List AV} {β : Type} {f : β → AV} {Hb : β → AHeap} {φ : β → Prop} (Hf Fr : AHeap) (hw : Wanted ops s.T o true) (hd : dok o.dst s.n = true)
  (ho : o.op = .call { callee := .value fo, args := args, argTypes := ats }) (hfo : ev s.T fo = some (.fn (.func g) caps)) (hxs : evs s.T args.toList = some xs) (hp : s.H.Perm (Hf ++ Fr)) (hc : ACalls P g (xs ++ caps) Hf (GP f Hb φ))
  (h : ∀ b, φ b → AOps P ro ops rest Q { s with T := put s.T o.dst (f b), H := Hb b ++ Fr }) : AOps P ro ops (o :: rest) Q s :=
 Za9 Hf Fr hw hd ho hfo hxs hp hc (fun ch H' hR => by obtain ⟨_, _, h, _⟩ := hR; cases h) (fun x H' hR => by obtain ⟨b, h1, h2, rfl⟩ := hR; cases h2; exact h b h1)
theorem gp {β : Type} {f : β → AV} {Hb : β → AHeap} {φ : β → Prop} {xs : List AV} {H : AHeap} (b : β) (h : φ b) (hx : mkRes xs = f b) (hH : H = Hb b) : GP f Hb φ (.ret (mkRes xs)) H := ⟨b, h, congrArg _ hx, hH⟩
theorem Z20 {x y : Int} (h : -9223372036854775808 ≤ x * y ∧ x * y ≤ 9223372036854775807) : arith .mul .i64 x y = some (x * y) := by simp [arith, Z0s h]
theorem Z18 {t t' : TypeId} {p q : Operand} {x y : Int} (ho : o.op = .binOp .quo t p q t') (hp : ev T p = some (.v (.int .i64 x))) (hq : ev T q = some (.v (.int .i64 y))) (hy : y ≠ 0) (hr : -9223372036854775808 ≤ x.tdiv y ∧ x.tdiv y ≤ 9223372036854775807) : Eff P o T [] (.v (.int .i64 (x.tdiv y))) [] :=
 Z01 (by intro c; rw [ho]; nofun) fun C H a w hw hn hv => by
  have h2 := VR.val (hv p (by rw [ho]; simp [Op.operands]) _ hp)
  have h3 := VR.val (hv q (by rw [ho]; simp [Op.operands]) _ hq)
  refine ⟨_, ?_, .v _⟩
  simp [execOp, ho, h2, h3, eqGuard, binOp, Op.intDiv, hy, Z0s hr, Sem.run_bind, Result.andThen]
theorem Z6e {c : Code} {k : IntKind} {b d : Int} (t : Nat) (ht : lk s.T t = some (.v (.int k b))) (e : b = d) (h : AWp P ro c Q { s with T := (t, .v (.int k d)) :: s.T }) : AWp P ro c Q s := by subst e; exact Z1d (Z4p ht) h
theorem Zg6 {a b : Nat} (h : a ≤ b) : (((b - a : Nat) : Int) - 1).tdiv 2 = (((b - a - 1) / 2 : Nat) : Int) := by
 cases e : b - a with
 | zero => decide
 | succ k =>
  rw [show ((k + 1 : Nat) : Int) - 1 = (k : Int) from by omega, show k + 1 - 1 = k from by omega]
  exact (Int.ofNat_tdiv k 2).symm
theorem Z43 (a b : Nat) : ((a : Int)).tdiv b = ((a / b : Nat) : Int) := (Int.ofNat_tdiv a b).symm
theorem Z0y (a b : Nat) (h : a ≤ 9223372036854775807) : -9223372036854775808 ≤ ((a : Int)).tdiv b ∧ ((a : Int)).tdiv b ≤ 9223372036854775807 := by
 rw [Z43]
 have := Nat.div_le_self a b
 generalize a / b = c at *
 omega
def bitsI (op : BinOp) (k : IntKind) (x y : Int) : Int := match op with
 | .and => k.wrap (BitVec.ofInt k.bits x &&& BitVec.ofInt k.bits y).toNat
 | .or => k.wrap (BitVec.ofInt k.bits x ||| BitVec.ofInt k.bits y).toNat
 | .xor => k.wrap (BitVec.ofInt k.bits x ^^^ BitVec.ofInt k.bits y).toNat
 | _ => k.wrap (BitVec.ofInt k.bits x &&& ~~~BitVec.ofInt k.bits y).toNat
theorem Z29 {b : BinOp} {t t' : TypeId} {p q : Operand} {k : IntKind} {x y : Int} (ho : o.op = .binOp b t p q t') (hb : b = .and ∨ b = .or ∨ b = .xor) (hp : ev T p = some (.v (.int k x))) (hq : ev T q = some (.v (.int k y))) : Eff P o T [] (.v (.int k (bitsI b k x y))) [] :=
 Z01 (by intro c; rw [ho]; nofun) fun C H a w hw hn hv => by
  have h2 := VR.val (hv p (by rw [ho]; simp [Op.operands]) _ hp)
  have h3 := VR.val (hv q (by rw [ho]; simp [Op.operands]) _ hq)
  refine ⟨_, ?_, .v _⟩
  rcases hb with rfl | rfl | rfl <;> simp [execOp, ho, h2, h3, eqGuard, binOp, Op.intBits, bitsI, Sem.run_bind, Result.andThen]
theorem Z6k {t t' : TypeId} {p q : Operand} {k k' : IntKind} {x y : Int} (ho : o.op = .binOp .shl t p q t') (hp : ev T p = some (.v (.int k x))) (hq : ev T q = some (.v (.int k' y))) (hy : 0 ≤ y) : Eff P o T [] (.v (.int k (k.wrap (x * 2 ^ (min y.toNat k.bits))))) [] :=
 Z01 (by intro c; rw [ho]; nofun) fun C H a w hw hn hv => by
  have h2 := VR.val (hv p (by rw [ho]; simp [Op.operands]) _ hp)
  have h3 := VR.val (hv q (by rw [ho]; simp [Op.operands]) _ hq)
  refine ⟨_, ?_, .v _⟩
  have : ¬ y < 0 := by omega
  simp [execOp, ho, h2, h3, eqGuard, binOp, Op.shift, this, Sem.run_bind, Result.andThen]
theorem Z2a {t t' : TypeId} {p q : Operand} {k k' : IntKind} {x y : Int} (ho : o.op = .binOp .shr t p q t') (hp : ev T p = some (.v (.int k x))) (hq : ev T q = some (.v (.int k' y))) (hy : 0 ≤ y) : Eff P o T [] (.v (.int k (x.fdiv (2 ^ (min y.toNat k.bits))))) [] :=
 Z01 (by intro c; rw [ho]; nofun) fun C H a w hw hn hv => by
  have h2 := VR.val (hv p (by rw [ho]; simp [Op.operands]) _ hp)
  have h3 := VR.val (hv q (by rw [ho]; simp [Op.operands]) _ hq)
  refine ⟨_, ?_, .v _⟩
  have : ¬ y < 0 := by omega
  simp [execOp, ho, h2, h3, eqGuard, binOp, Op.shift, this, Sem.run_bind, Result.andThen]
theorem Z57 {t e n : Nat} {b : Bool} {p q : Operand} {es : List (List AV)} {kd : IntKind} {k : Int} [h : UD P t (.slice e)] [k1 : TK P e b n] (ho : o.op = .slice t p none (some q) none)
  (hp : ev T p = some (.lst es)) (hq : ev T q = some (.v (.int kd k))) (h0 : 0 ≤ k) (h1 : k ≤ es.length) : Eff P o T [] (.lst (es.take k.toNat)) [] :=
 Z01 (by intro c; rw [ho]; nofun) fun C H a w hw hn hv => by
  have h2 := hv p (by rw [ho]; simp [Op.operands]) _ hp
  have h3 := VR.val (hv q (by rw [ho]; simp [Op.operands]) _ hq)
  generalize hpv : a.eval p = u at h2
  cases h2 with
  | lstNil =>
   have hk : k = 0 := by simp at h1; omega
   subst hk
   refine ⟨.slice none 0 0, ?_, by simpa using VR.lstNil⟩
   have hb : ∀ code, (Instr.sliceBound (.int kd 0) 0 code).run P w = .ok 0 w := fun code => Z1s rfl (by omega) (by omega) w
   simp [execOp, ho, hpv, h3, Instr.sliceAt, Instr.slice, Instr.sliceBounds, run_underlying (d := .slice e), Z0g k1.tk, hb, Sem.run_bind, Result.andThen, Sem.run_pure]
  | lst _ ad sz cap cells elem fz xs hs hb hz hc hvv ho' hcap =>
   have hkc : k ≤ (cap : Int) := by omega
   refine ⟨.slice (some ad) k.toNat cap, ?_, ?_⟩
   ·have e0 : ad.add 0 = ad := by simp [Addr.add]
    simp [execOp, ho, hpv, h3, Instr.sliceAt, Instr.slice, Instr.sliceBounds, run_underlying (d := .slice e), Z0g k1.tk, Z1s rfl h0 hkc, Sem.run_bind, Result.andThen, Sem.run_pure, e0]
   ·have hl : (es.take k.toNat).length = k.toNat := by rw [List.length_take]; omega
    have hne : es.take k.toNat ≠ [] → es ≠ [] := fun h e => h (by rw [e]; simp)
    have hget : ∀ (i : Nat) (e : List AV), (es.take k.toNat)[i]? = some e → es[i]? = some e := fun i e h => by
     rw [List.getElem?_take] at h; split at h <;> simp_all
    have hfin := VR.lst (C := C) (es.take k.toNat) ad sz cap cells elem fz xs (fun h => hs (hne h)) (fun h => hb (hne h)) (fun e he => hz e (List.mem_of_mem_take he)) (fun i e j c h1 h2 => hc i e j c (hget i e h1) h2)
     (fun i e j c h1 h2 => hvv i e j c (hget i e h1) h2) (fun i e j c h1 h2 => ho' i e j c (hget i e h1) h2) (by omega)
    rw [hl] at hfin
    exact hfin
end Go.Sx
namespace Go.Sx
open Go
def EffW (P : Program) (o : Oper) (T : List (Nat × AV)) (H H' : AHeap) : Prop :=
 ∀ Z C a w, WR C H w → (∀ p, p ∈ o.op.operands → ∀ y, ev T p = some y → VR C y (a.eval p)) →
  ∀ ro next R, (∀ v w1 C1, VR C1 (.v undef) v → WR C1 H' w1 → Ext Z C H w C1 H' w1 → next (a.put o.dst v) w1) → o.uponIn (Wd ro) 0 P a next R ((o.semAt ro a.eval).run P w)
section
variable {P : Program} {ro : Option Nat} {Q : Exit → St → Prop} {s : St} {ops : Array Oper} {o : Oper} {rest : List Oper} {T : List (Nat × AV)}
theorem Z61 {t n id sz i c el : Nat} {b : Bool} {p q : Operand} {es : List (List AV)} {e : List AV} {x : AV} {H : AHeap} (k : Nat) [kt : TK P t b n]
  (ho : o.op = .store t p q) (hp : ev T p = some (.ptr id sz i c)) (hH : H[k]? = some (id, .rows el sz es)) (he : es[i]? = some e) (hq : ev T q = some x)
  (hx : (cellsA x).length = n) (h1 : (cellsA x).all one = true) (hc : Nat.ble (c + n) sz = true) :
  EffW P o T H (H.set k (id, .rows el sz (es.set i (e.take c ++ cellsA x ++ e.drop (c + (cellsA x).length))))) := by
 intro Z C a w hswr hv ro next R hk
 have hc := Nat.le_of_ble_eq_true hc
 have hmem := List.mem_of_getElem? hH
 obtain ⟨hu, hlen, hor⟩ := hswr.ids _ _ hmem
 have hpv := hv p (by rw [ho]; simp [Op.operands]) _ hp
 have hqv := hv q (by rw [ho]; simp [Op.operands]) _ hq
 obtain ⟨hcl, hcr⟩ := Z1o hqv
 have hone := Zfl hcl hcr h1
 have hel : e.length = sz := hlen e (List.mem_of_getElem? he)
 have hie : i < es.length := (List.getElem?_eq_some_iff.1 he).1
 rcases hor with ⟨hm, _⟩ | ⟨b', N, cells, hm, hh, hsz, hfit, hrow⟩
 ·generalize a.eval p = u at hpv
  cases hpv with
  | ptr _ _ _ _ b2 N2 hid _ => rw [hm] at hid; cases hid
 ·have hpe : a.eval p = .pointer (some ⟨b', i * sz + c, none⟩) := by
   generalize a.eval p = u at hpv
   cases hpv with
   | ptr _ _ _ _ b2 N2 hid _ => rw [hm] at hid; cases hid; rfl
  have hrowfit : i * sz + sz ≤ es.length * sz := by
   have : (i + 1) * sz ≤ es.length * sz := Nat.mul_le_mul_right _ hie
   rw [Nat.add_mul] at this; omega
  have hvs : (a.eval q).cells.toList.length = n := by rw [Array.length_toList, ← hcl, hx]
  have hst := run_storeCells_at P b' (i * sz + c) el (a.eval q).cells.toList 0 cells w hh (by rw [hvs]; omega) (by
   intro v hv'
   obtain ⟨j, hj⟩ := List.mem_iff_getElem?.1 hv'
   exact hone j v (by rw [← Array.getElem?_toList]; exact hj))
  simp only [Nat.add_zero] at hst
  have hrun : (o.semAt ro a.eval).run P w = .ok .skip (w.setRow b' (cells.toList.take (i * sz + c) ++ (a.eval q).cells.toList ++ cells.toList.drop (i * sz + c + (a.eval q).cells.toList.length)).toArray) := by
   rw [Oper.semAt_eq _ _ _ (by intro c; rw [ho]; nofun)]
   have hsz1 : (a.eval q).cells.size = n := by rw [← hcl, hx]
   simp [execOp, ho, Instr.storeAt, hpe, Instr.sureAddr, storeVar, Z0g kt.tk, hsz1, Sem.run_bind, Result.andThen]
   rw [hst]
   simp [hsz1]
  rw [hrun]
  obtain ⟨hw1, he1⟩ := Z0p (Z := Z) (C' := C) (id' := id) (o' := .rows el sz (es.set i (e.take c ++ cellsA x ++ e.drop (c + (cellsA x).length))))
   (w' := w.setRow b' (cells.toList.take (i * sz + c) ++ (a.eval q).cells.toList ++ cells.toList.drop (i * sz + c + (a.eval q).cells.toList.length)).toArray) hswr hH (.refl C) rfl (.inl rfl) hu (fun _ _ h => h) rfl rfl rfl (by simp)
   (fun b N' hm' => .inl ⟨N', hm'⟩) (fun b hb hne => setRow_other w b' b _ (by rintro rfl; exact hne N hm)) (by
    refine ⟨?_, .inr ⟨b', N, _, hm, setRow_heap w b' cells _ el (0, 0) hh, ?_, by simpa using hfit, ?_⟩⟩
    ·intro e' he'
     rcases List.mem_or_eq_of_mem_set he' with h2 | h2
     ·exact hlen e' h2
     ·subst h2
      simp only [List.length_append, List.length_take, List.length_drop]
      omega
    ·simp only [List.size_toArray, List.length_append, List.length_take, List.length_drop, Array.length_toList]
     have := hvs
     rw [Array.length_toList] at this
     omega
    ·intro i' e' j cc he' hcc
     rw [List.getElem?_toArray, Z0x _ _ _ _ (by rw [hvs, Array.length_toList]; omega), hvs]
     rw [List.getElem?_set] at he'
     by_cases hi : i = i'
     ·subst hi
      rw [if_pos rfl, if_pos hie] at he'
      simp only [Option.some.injEq] at he'
      subst he'
      rw [Z0x _ _ _ _ (by omega), hx] at hcc
      have hjlt : j < sz := by
       rcases Nat.lt_or_ge j sz with h2 | h2
       ·exact h2
       ·rw [if_neg (by omega), if_neg (by omega), List.getElem?_eq_none (by omega)] at hcc; cases hcc
      by_cases hj1 : j < c
      ·rw [if_pos hj1] at hcc
       rw [if_pos (by omega)]
       rw [Array.getElem?_toList]
       exact hrow i e j cc he hcc
      ·rw [if_neg hj1] at hcc
       rw [if_neg (by omega)]
       by_cases hj2 : j < c + n
       ·rw [if_pos hj2] at hcc
        rw [if_pos (by omega), show i * sz + j - (i * sz + c) = j - c from by omega]
        have hlt : j - c < (a.eval q).cells.size := by rw [← hcl]; exact (List.getElem?_eq_some_iff.1 hcc).1
        have hg : (a.eval q).cells[j - c]? = some (a.eval q).cells[j - c] := Array.getElem?_eq_getElem hlt
        exact ⟨_, by rw [Array.getElem?_toList]; exact hg, hcr _ _ _ hcc hg, hone _ _ hg⟩
       ·rw [if_neg hj2] at hcc
        rw [if_neg (by omega), Array.getElem?_toList]
        exact hrow i e j cc he hcc
     ·rw [if_neg hi] at he'
      have hel' : e'.length = sz := hlen e' (List.mem_of_getElem? he')
      have hj : j < sz := by rw [← hel']; exact (List.getElem?_eq_some_iff.1 hcc).1
      have hout : ¬ (i * sz + c ≤ i' * sz + j ∧ i' * sz + j < i * sz + c + n) := by
       rintro ⟨h2, h3⟩
       rcases Nat.lt_or_ge i i' with h4 | h4
       ·have := Z16 (k := c + n - 1) (sz := sz) h4 (by omega)
        omega
       ·have h5 : i' < i := by omega
        have := Z16 (k := j) (sz := sz) h5 hj
        omega
      have hg := hrow i' e' j cc he' hcc
      rw [← Array.getElem?_toList] at hg
      split
      ·exact hg
      ·split
       ·exact (hout ⟨by omega, by omega⟩).elim
       ·exact hg)
  exact hk undef _ C (.v undef) hw1 he1
end
inductive WCalm (P : Program) (ops : Array Oper) (H0 : AHeap) (ws rs : List Nat) (K : St → Prop) : Nat → List Oper → St → Prop
 | done {k : Nat} {s : St} (h : K s) : WCalm P ops H0 ws rs K k [] s
 | eff {k : Nat} {o : Oper} {r : List Oper} {s : St} (Hn : AHeap) (x : AV) (hw : Wanted ops s.T o true) (hd : dok o.dst s.n = true) (he : Eff P o s.T Hn x []) (hn : ∀ p, p ∈ Hn → p ∈ H0) (hr : Hn = [] ∨ rs.contains k = true) (hk : ws.contains k = false)
   (h : WCalm P ops H0 ws rs K (k + 1) r { s with T := put s.T o.dst x }) : WCalm P ops H0 ws rs K k (o :: r) s
 | off {k : Nat} {o : Oper} {r : List Oper} {s : St} (hw : Wanted ops s.T o false) (hd : dok o.dst s.n = true) (hk : ws.contains k = false) (h : WCalm P ops H0 ws rs K (k + 1) r { s with T := put s.T o.dst (.v undef) }) : WCalm P ops H0 ws rs K k (o :: r) s
 | write {k : Nat} {o : Oper} {r : List Oper} {s : St} (H' : AHeap) (hw : Wanted ops s.T o true) (hd : dok o.dst s.n = true) (he : EffW P o s.T s.H H') (hk : ws.contains k = true)
   (h : WCalm P ops H0 ws rs K (k + 1) r { s with T := put s.T o.dst (.v undef), H := H' }) : WCalm P ops H0 ws rs K k (o :: r) s
def GoodW (P : Program) (ops : Array Oper) (n : Nat) (ws rs : List Nat) (xs : Nat → AV) (B : Nat → AHeap) (T0 : List (Nat × AV)) (i : Nat) : Prop :=
 ∃ o, ops[i]? = some o ∧ dok o.dst n = true ∧
  ((ws.contains i = false ∧ B (i + 1) = B i ∧ ((Wanted ops (TT ops xs T0 i) o false ∧ xs i = .v undef) ∨
   (Wanted ops (TT ops xs T0 i) o true ∧ ∃ Hn, Eff P o (TT ops xs T0 i) Hn (xs i) [] ∧ (∀ p, p ∈ Hn → p ∈ B 0) ∧ (Hn = [] ∨ rs.contains i = true)))) ∨
  (ws.contains i = true ∧ Wanted ops (TT ops xs T0 i) o true ∧ xs i = .v undef ∧ EffW P o (TT ops xs T0 i) (B i) (B (i + 1))))
theorem GoodW.congr {P : Program} {ops : Array Oper} {n : Nat} {ws rs : List Nat} {xs ys : Nat → AV} {B D : Nat → AHeap} {T0 : List (Nat × AV)} {i : Nat} (h1 : ∀ j, j ≤ i → xs j = ys j) (h2 : ∀ j, j ≤ i + 1 → B j = D j) (h : GoodW P ops n ws rs xs B T0 i) : GoodW P ops n ws rs ys D T0 i := by
 obtain ⟨o, ho, hd, h⟩ := h
 refine ⟨o, ho, hd, ?_⟩
 rw [← Z0n (ops := ops) (T0 := T0) i (fun j hj => h1 j (by omega)), ← h1 i (Nat.le_refl _), ← h2 i (by omega), ← h2 (i + 1) (Nat.le_refl _), ← h2 0 (by omega)]
 exact h
theorem WCalm.tell {P : Program} {ops : Array Oper} {H0 : AHeap} {ws rs : List Nat} {K : St → Prop} {T0 : List (Nat × AV)} {D : List Nat} {n : Nat} {k : Nat} {l : List Oper} {s : St} (h : WCalm P ops H0 ws rs K k l s) :
  ∀ (xs : Nat → AV) (B : Nat → AHeap), ops.toList.drop k = l → B 0 = H0 → s = ⟨TT ops xs T0 k, B k, D, n⟩ → (∀ i, i < k → GoodW P ops n ws rs xs B T0 i) →
   ∃ (ys : Nat → AV) (E : Nat → AHeap), E 0 = H0 ∧ K ⟨TT ops ys T0 (k + l.length), E (k + l.length), D, n⟩ ∧ ∀ i, i < k + l.length → GoodW P ops n ws rs ys E T0 i := by
 have step : ∀ (k : Nat) (o : Oper) (xs : Nat → AV) (B : Nat → AHeap) (x : AV) (H' : AHeap), ops[k]? = some o → (∀ i, i < k → GoodW P ops n ws rs xs B T0 i) → dok o.dst n = true →
   ((ws.contains k = false ∧ H' = B k ∧ ((Wanted ops (TT ops xs T0 k) o false ∧ x = .v undef) ∨
    (Wanted ops (TT ops xs T0 k) o true ∧ ∃ Hn, Eff P o (TT ops xs T0 k) Hn x [] ∧ (∀ p, p ∈ Hn → p ∈ B 0) ∧ (Hn = [] ∨ rs.contains k = true)))) ∨
   (ws.contains k = true ∧ Wanted ops (TT ops xs T0 k) o true ∧ x = .v undef ∧ EffW P o (TT ops xs T0 k) (B k) H')) →
   ∃ (ys : Nat → AV) (E : Nat → AHeap), (∀ i, i < k → ys i = xs i) ∧ (∀ i, i ≤ k → E i = B i) ∧ ys k = x ∧ E (k + 1) = H' ∧ (∀ i, i < k + 1 → GoodW P ops n ws rs ys E T0 i) := by
  intro k o xs B x H' ho hg hd hx
  refine ⟨fun i => if i = k then x else xs i, fun i => if i = k + 1 then H' else B i, fun i hi => if_neg (by omega), fun i hi => if_neg (by omega), if_pos rfl, if_pos rfl, ?_⟩
  intro i hi
  rcases Nat.lt_or_ge i k with hlt | hge
  ·exact (hg i hlt).congr (fun j hj => (if_neg (by omega)).symm) (fun j hj => (if_neg (by omega)).symm)
  ·have e : i = k := by omega
   subst e
   refine ⟨o, ho, hd, ?_⟩
   have e1 : TT ops (fun j => if j = i then x else xs j) T0 i = TT ops xs T0 i := Z0n i (fun j hj => if_neg (by omega))
   have e2 : (if i = i + 1 then H' else B i) = B i := if_neg (by omega)
   have e3 : (if 0 = i + 1 then H' else B 0) = B 0 := if_neg (by omega)
   simp only [e1, if_true, e2, e3]
   exact hx
 induction h with
 | done h =>
  intro xs B hl hB hs hg
  subst hs
  exact ⟨xs, B, hB, h, hg⟩
 | @eff k o r s Hn x hw hd he hn hr hk h ih =>
  intro xs B hl hB hs hg
  subst hs
  obtain ⟨h1, h2⟩ := Z07 hl
  have ho : ops[k]? = some o := by rw [← Array.getElem?_toList]; exact h1
  obtain ⟨ys, E, e1, e2, e3, e4, e5⟩ := step k o xs B x (B k) ho hg hd (.inl ⟨hk, rfl, .inr ⟨hw, Hn, he, fun p hp => hB ▸ hn p hp, hr⟩⟩)
  have hlen : k + (o :: r).length = k + 1 + r.length := by simp; omega
  rw [hlen]
  refine ih ys E h2 ((e2 0 (by omega)).trans hB) ?_ e5
  simp only [TT, ho, Option.bind_some, e3, e4]
  rw [Z0n k e1]
 | @off k o r s hw hd hk h ih =>
  intro xs B hl hB hs hg
  subst hs
  obtain ⟨h1, h2⟩ := Z07 hl
  have ho : ops[k]? = some o := by rw [← Array.getElem?_toList]; exact h1
  obtain ⟨ys, E, e1, e2, e3, e4, e5⟩ := step k o xs B (.v undef) (B k) ho hg hd (.inl ⟨hk, rfl, .inl ⟨hw, rfl⟩⟩)
  have hlen : k + (o :: r).length = k + 1 + r.length := by simp; omega
  rw [hlen]
  refine ih ys E h2 ((e2 0 (by omega)).trans hB) ?_ e5
  simp only [TT, ho, Option.bind_some, e3, e4]
  rw [Z0n k e1]
 | @write k o r s H' hw hd he hk h ih =>
  intro xs B hl hB hs hg
  subst hs
  obtain ⟨h1, h2⟩ := Z07 hl
  have ho : ops[k]? = some o := by rw [← Array.getElem?_toList]; exact h1
  obtain ⟨ys, E, e1, e2, e3, e4, e5⟩ := step k o xs B (.v undef) H' ho hg hd (.inr ⟨hk, hw, rfl, he⟩)
  have hlen : k + (o :: r).length = k + 1 + r.length := by simp; omega
  rw [hlen]
  refine ih ys E h2 ((e2 0 (by omega)).trans hB) ?_ e5
  simp only [TT, ho, Option.bind_some, e3, e4]
  rw [Z0n k e1]
def okWrites (ms ws rs : List Nat) : Bool := ws.all fun w => (rs.all fun r => Nat.blt r w && bitOf ms w r) && ws.all fun v => Nat.beq v w || (Nat.blt v w && bitOf ms w v) || (Nat.blt w v && bitOf ms v w)
def tidyW (ops : Array Oper) (ms ws rs : List Nat) : Bool := okEdges ops && okDst ops ops.size && okCert ops ms && okLooksM ops ms ops.size && okWrites ms ws rs && (ws ++ rs).all fun i => Nat.blt i ops.size
structure InvW (P : Program) (ops : Array Oper) (ws : List Nat) (ys : Nat → AV) (B : Nat → AHeap) (cur : Nat) (s : St) (Z : List Nat) (C0 : Ctx) (H0 : AHeap) (w0 : World) (listed : Array Bool) (a : Act) (w : World) (C : Ctx) : Prop where
 wr : WR C (B cur) w
 sl0 : ∀ t x, lk s.T t = some x → (∀ j, j < ops.size → (ops[j]?).bind (·.dst) ≠ some t) → ∃ v, a.tmps[t]? = some v ∧ VR C x v
 sl1 : ∀ j t, j < ops.size → listed.getD j false = true → (ops[j]?).bind (·.dst) = some t → ∃ v, a.tmps[t]? = some v ∧ VR C (ys j) v
 df : a.defers = s.D.map (mark C)
 du : ∀ i, i ∈ s.D → i ∈ C.U
 sz : a.tmps.size = s.n
 ext : Ext Z C0 H0 w0 C (B cur) w
 dn : ∀ i o, ops[i]? = some o → listed.getD i false = true → ∀ e, e ∈ o.after → Region.binds .any e = true → listed.getD e.on false = true
 lw : ∀ v, ws.contains v = true → v < ops.size → (listed.getD v false = true ↔ v < cur)
 lc : cur ≤ ops.size
theorem Zdw {B : Nat → AHeap} {ws : List Nat} {N : Nat} (hB : ∀ i, i < N → ws.contains i = false → B (i + 1) = B i) : ∀ (d a : Nat), a + d ≤ N → (∀ i, a ≤ i → i < a + d → ws.contains i = false) → B (a + d) = B a
 | 0, a, _, _ => rfl
 | d + 1, a, h, hw => by
  rw [show a + (d + 1) = (a + d) + 1 from by omega, hB (a + d) (by omega) (hw _ (by omega) (by omega))]
  exact Zdw hB d a (by omega) (fun i h1 h2 => hw i h1 (by omega))
theorem Zg4 {P : Program} {ro : Option Nat} {ops : Array Oper} {Q : Exit → St → Prop} {ms ws rs : List Nat} {ys : Nat → AV} {B : Nat → AHeap} {s : St} {Z : List Nat} {C0 : Ctx} {H0 : AHeap} {w0 : World}
  (ht : tidyW ops ms ws rs = true) (hK : Q .normal ⟨TT ops ys s.T ops.size, B ops.size, s.D, s.n⟩) (hg : ∀ i, i < ops.size → GoodW P ops s.n ws rs ys B s.T i) :
  ∀ (fuel : Nat) (listed : Array Bool) (cur : Nat) (a : Act) (w : World) (C : Ctx), listed.size = ops.size → left ops listed = fuel →
   InvW P ops ws ys B cur s Z C0 H0 w0 listed a w C → wpAnyIn (Wd ro) 0 P .any ops (Post Z C0 H0 w0 Q) fuel listed a w := by
 simp only [tidyW, Bool.and_eq_true] at ht
 obtain ⟨⟨⟨⟨⟨hE, hD⟩, hCt⟩, hL⟩, hW⟩, hIn⟩ := ht
 have hcert := Z4m hE hCt
 have hwsz : ∀ v, ws.contains v = true → v < ops.size := fun v hv => Nat.blt_eq ▸ List.all_eq_true.1 hIn v (List.mem_append_left _ (by simpa using hv))
 have hrsz : ∀ v, rs.contains v = true → v < ops.size := fun v hv => Nat.blt_eq ▸ List.all_eq_true.1 hIn v (List.mem_append_right _ (by simpa using hv))
 have hrw : ∀ v r, ws.contains v = true → rs.contains r = true → anc ops v v r = true := by
  intro v r hv hr
  have h1 := List.all_eq_true.1 hW v (by simpa using hv)
  rw [Bool.and_eq_true] at h1
  have h2 := List.all_eq_true.1 h1.1 r (by simpa using hr)
  rw [Bool.and_eq_true] at h2
  exact hcert v (hwsz v hv) r (Nat.blt_eq ▸ h2.1) h2.2
 have hww : ∀ v u, ws.contains v = true → ws.contains u = true → u < v → anc ops v v u = true := by
  intro v u hv hu hlt
  have h1 := List.all_eq_true.1 hW v (by simpa using hv)
  rw [Bool.and_eq_true] at h1
  have h2 := List.all_eq_true.1 h1.2 u (by simpa using hu)
  simp only [Bool.or_eq_true, Bool.and_eq_true] at h2
  rcases h2 with (h2 | h2) | h2
  ·have := Nat.eq_of_beq_eq_true h2; omega
  ·exact hcert v (hwsz v hv) u hlt h2.2
  ·have : v < u := Nat.blt_eq ▸ h2.1; omega
 have hBs : ∀ i, i < ops.size → ws.contains i = false → B (i + 1) = B i := by
  intro i hi hw
  obtain ⟨o, _, _, h | h⟩ := hg i hi
  ·exact h.2.1
  ·rw [hw] at h; cases h.1
 intro fuel
 induction fuel with
 | zero =>
  intro listed cur a w C hls hleft hI
  have hall : ∀ i, i < ops.size → listed.getD i false = true := by
   intro i hi
   cases hb : listed.getD i false with
   | true => rfl
   | false => have := Z3v hi hls hb; omega
  refine ⟨?_, ?_⟩
  ·rw [List.eq_nil_iff_forall_not_mem]
   intro j hj
   obtain ⟨h3, o, h4, _⟩ := mem_ready.1 hj
   have hlt : j < ops.size := (Array.getElem?_eq_some_iff.1 h4).1
   have := hall j hlt
   simp [hls, hlt] at h3 this
   rw [h3] at this; cases this
  ·have hB : B ops.size = B cur := by
    have := Zdw hBs (ops.size - cur) cur (by have := hI.lc; omega) (fun i h1 h2 => by
     cases hw : ws.contains i with
     | false => rfl
     | true => have := (hI.lw i hw (hwsz i hw)).1 (hall i (hwsz i hw)); omega)
    rwa [show cur + (ops.size - cur) = ops.size from by have := hI.lc; omega] at this
   refine ⟨nofun, C, _, hK, ⟨by rw [hB]; exact hI.wr, ?_, hI.df, hI.du, hI.sz⟩, by rw [hB]; exact hI.ext⟩
   intro t x hx
   rcases Z33 ops.size hx with ⟨j, h1, h2, rfl⟩ | ⟨h1, h2⟩
   ·exact hI.sl1 j t h1 (hall j h1) h2
   ·exact hI.sl0 t x h1 h2
 | succ fuel ih =>
  intro listed cur a w C hls hleft hI
  refine ⟨fun hnil => ?_, fun i hi => ?_⟩
  ·exfalso
   obtain ⟨i, h1, h2, h3⟩ := Z9w (ops := ops) (listed := listed) (by omega)
   have : i ∈ Region.ready .any ops listed := by
    rw [mem_ready]
    refine ⟨?_, ops[i], Array.getElem?_eq_getElem h1, ?_⟩
    ·simp [hls, h1] at h2 ⊢; exact h2
    ·intro e he hbd
     have := List.all_eq_true.1 hE i (List.mem_range.2 h1)
     rw [Array.getElem?_eq_getElem h1] at this
     have h5 := Array.all_eq_true_iff_forall_mem.1 this e he
     rw [hbd, Bool.not_true, Bool.false_or, Nat.blt_eq] at h5
     exact h3 e.on h5
   rw [hnil] at this; cases this
  ·obtain ⟨h3, o, ho, hdeps⟩ := mem_ready.1 hi
   have hlt : i < ops.size := (Array.getElem?_eq_some_iff.1 ho).1
   have hunl : listed.getD i false = false := by simp [hls, hlt] at h3 ⊢; exact h3
   obtain ⟨o', ho', hd, hgood⟩ := hg i hlt
   rw [ho] at ho'; cases ho'
   have hanc : ∀ j, anc ops i i j = true → listed.getD j false = true := fun j hj => Z14 hI.dn i i j o ho hdeps hj
   have hLi := List.all_eq_true.1 hL i (List.mem_range.2 hlt)
   simp only [ho] at hLi
   have hlook : ∀ t x, t ∈ o.looksAt ops → lk (TT ops ys s.T i) t = some x → ∃ v, a.tmps[t]? = some v ∧ VR C x v := by
    intro t x htl' hx
    have h5 := List.all_eq_true.1 hLi t htl'
    have h6 : ∀ j, j < ops.size → (ops[j]?).bind (·.dst) = some t → j < i ∧ listed.getD j false = true := by
     intro j hj hjt
     have h7 := List.all_eq_true.1 h5 j (List.mem_range.2 hj)
     rw [hjt] at h7
     simp only [beq_self_eq_true, Bool.not_true, Bool.false_or, Bool.and_eq_true, Nat.blt_eq] at h7
     exact ⟨h7.1, hanc j (hcert i hlt j h7.1 h7.2)⟩
    rcases Z33 i hx with ⟨j, h7, h8, rfl⟩ | ⟨h7, h8⟩
    ·exact hI.sl1 j t (by omega) (h6 j (by omega) h8).2 h8
    ·refine hI.sl0 t x h7 (fun j hj hjt => ?_)
     exact h8 j (h6 j hj hjt).1 hjt
   have hwant : ∀ b, Wanted ops (TT ops ys s.T i) o b → Region.wanted o (yielded ops a.tmps) = b := by
    intro b hb
    rcases hb with ⟨h, rfl⟩ | ⟨g, c, d, og, t, h1, h2, h4, ⟨h5, h6⟩ | ⟨h5, rfl⟩⟩
    ·simp [Region.wanted, h]
    ·obtain ⟨v, h7, h8⟩ := hlook t _ (Z2c h1 h2 h4) h5
     have := VR.val h8
     subst this
     have hy : yielded ops a.tmps g = some d := by
      have hb : (ops[g]?.bind fun x => x.dst) = some t := by rw [h2]; exact h4
      have hb2 : ((ops[g]?.bind fun x => x.dst).bind fun x => a.tmps[x]?) = some (.bool d) := by rw [hb]; exact h7
      unfold yielded
      rw [hb2]
     rw [← h6]
     cases d <;> cases c <;> simp [Region.wanted, h1, hy]
    ·obtain ⟨v, h7, h8⟩ := hlook t _ (Z2c h1 h2 h4) h5
     have := VR.val h8
     subst this
     have hy : yielded ops a.tmps g = none := by
      have hb : (ops[g]?.bind fun x => x.dst) = some t := by rw [h2]; exact h4
      have hb2 : ((ops[g]?.bind fun x => x.dst).bind fun x => a.tmps[x]?) = some undef := by rw [hb]; exact h7
      unfold yielded
      rw [hb2]
      rfl
     simp [Region.wanted, h1, hy]
   have hdst : ∀ j t, j < ops.size → j ≠ i → o.dst = some t → (ops[j]?).bind (·.dst) ≠ some t := by
    intro j t hj hne hot hjt
    have hbi : (ops[i]?).bind (·.dst) = some t := by rw [ho]; exact hot
    rcases Nat.lt_or_ge j i with h | h
    ·have h5 := List.all_eq_true.1 (List.all_eq_true.1 hD i (List.mem_range.2 hlt)) j (List.mem_range.2 h)
     rw [hbi, hjt] at h5; simp at h5
    ·have h5 := List.all_eq_true.1 (List.all_eq_true.1 hD j (List.mem_range.2 hj)) i (List.mem_range.2 (by omega))
     rw [hbi, hjt] at h5; simp at h5
   have hset : ∀ j, (listed.setIfInBounds i true).getD j false = if j = i then true else listed.getD j false := by
    intro j
    by_cases e : j = i
    ·subst e; have : j < listed.size := by omega
     simp [this]
    ·rw [if_neg e, getD_set_ne _ (Ne.symm e)]
   have hops : ∀ p, p ∈ o.op.operands → ∀ y, ev (TT ops ys s.T i) p = some y → VR C y (a.eval p) := by
    intro p hp y hy
    cases p with
    | tmp t =>
     obtain ⟨v, h5, h6⟩ := hlook t y (Z5f hp) hy
     have e : a.eval (.tmp t) = v := by simp [Act.eval, h5]
     rw [e]; exact h6
    | const c => cases hy; exact .v c
    | func f => cases hy; exact .fn _ [] #[] rfl (by intro i c x h; simp at h)
    | global g => cases hy
   -- behind it
   have next : ∀ (cur' : Nat) (v : Value) (w1 : World) (C1 : Ctx), VR C1 (ys i) v → WR C1 (B cur') w1 → Ext Z C (B cur) w C1 (B cur') w1 → cur' ≤ ops.size →
     (∀ u, ws.contains u = true → u < ops.size → ((listed.setIfInBounds i true).getD u false = true ↔ u < cur')) →
     wpAnyIn (Wd ro) 0 P .any ops (Post Z C0 H0 w0 Q) fuel (listed.setIfInBounds i true) (a.put o.dst v) w1 := by
    intro cur' v w1 C1 hv hw1 he1 hcs hlw
    refine ih _ cur' _ _ C1 (by simpa using hls) (by have := Z3v hlt hls hunl; omega) ?_
    refine ⟨hw1, ?_, ?_, ?_, fun j hj => he1.le.U j (hI.du j hj), ?_, hI.ext.trans he1, ?_, hlw, hcs⟩
    ·intro t x hx hno
     obtain ⟨u, h5, h6⟩ := hI.sl0 t x hx hno
     refine ⟨u, ?_, h6.mono he1.le⟩
     cases hod : o.dst with
     | none => exact h5
     | some d =>
      have hne : d ≠ t := by
       rintro rfl
       exact hno i hlt (by rw [ho]; exact hod)
      simpa [Act.put, Array.getElem?_setIfInBounds_ne hne] using h5
    ·intro j t hj hlj hjt
     by_cases e : j = i
     ·subst e
      have hod : o.dst = some t := by rw [ho] at hjt; exact hjt
      refine ⟨v, ?_, hv⟩
      have := Z0k hd t hod
      rw [← hI.sz] at this
      simp [Act.put, hod, this]
     ·rw [hset, if_neg e] at hlj
      obtain ⟨u, h5, h6⟩ := hI.sl1 j t hj hlj hjt
      refine ⟨u, ?_, h6.mono he1.le⟩
      cases hod : o.dst with
      | none => exact h5
      | some d =>
       have hne : d ≠ t := by
        rintro rfl
        exact hdst j d hj e hod hjt
       simpa [Act.put, Array.getElem?_setIfInBounds_ne hne] using h5
    ·have e1 : (a.put o.dst v).defers = a.defers := by cases o.dst <;> rfl
     rw [e1, hI.df]
     exact List.map_congr_left fun j hj => by simp [mark, he1.le.m j (hI.du j hj), he1.le.df j (hI.du j hj)]
    ·have e1 : (a.put o.dst v).tmps.size = a.tmps.size := by cases o.dst <;> simp [Act.put]
     rw [e1]; exact hI.sz
    ·intro j o2 ho2 hlj e he hb
     rw [hset]
     split
     ·rfl
     ·by_cases e2 : j = i
      ·subst e2; rw [ho] at ho2; cases ho2; exact hdeps e he hb
      ·rw [hset, if_neg e2] at hlj; exact hI.dn j o2 ho2 hlj e he hb
   have hlw0 : ws.contains i = false → ∀ u, ws.contains u = true → u < ops.size → ((listed.setIfInBounds i true).getD u false = true ↔ u < cur) := by
    intro hw u hu hus
    have : u ≠ i := fun e => by rw [e, hw] at hu; cases hu
    rw [hset, if_neg this]; exact hI.lw u hu hus
   unfold wpOpIn
   simp only [ho]
   rcases hgood with ⟨hwi, hBi, ⟨hw, hx⟩ | ⟨hw, Hn, heff, hHn, hrd⟩⟩ | ⟨hwi, hw, hx, heff⟩
   ·rw [hwant false hw]
    simp only [Bool.false_eq_true, if_false]
    exact ⟨fun _ _ => trivial, next cur undef w C (by rw [hx]; exact .v undef) hI.wr (.refl ..) hI.lc (hlw0 hwi)⟩
   ·rw [hwant true hw]
    simp only [if_true]
    refine ⟨fun _ _ => trivial, ?_⟩
    refine heff Z C (B cur) a w hI.wr ?_ hops nofun List.nodup_nil (fun _ _ => by simp) ro _ _ (fun v w1 C1 hv hw1 he1 => next cur v w1 C1 hv hw1 he1 hI.lc (hlw0 hwi))
    intro p hp
    rcases hrd with h | h
    ·subst h; cases hp
    ·have hno : ∀ j, j < cur → ws.contains j = false := by
      intro j hj
      cases hwj : ws.contains j with
      | false => rfl
      | true =>
       have hjs := hwsz j hwj
       have hlj := (hI.lw j hwj hjs).2 hj
       have hoj := Array.getElem?_eq_getElem hjs
       have := Z14 hI.dn j j i _ hoj (fun e he hb => hI.dn j _ hoj hlj e he hb) (hrw j i hwj h)
       rw [hunl] at this; cases this
     have e := Zdw hBs cur 0 (by have := hI.lc; omega) (fun j _ h2 => hno j (by omega))
     rw [Nat.zero_add] at e
     rw [e]; exact hHn p hp
   ·rw [hwant true hw]
    simp only [if_true]
    refine ⟨fun _ _ => trivial, ?_⟩
    have hge : cur ≤ i := Nat.le_of_not_lt fun h => by
     have := (hI.lw i hwi hlt).2 h
     rw [hunl] at this; cases this
    have hBi : B i = B cur := by
     have := Zdw hBs (i - cur) cur (by omega) (fun j h1 h2 => by
      cases hwj : ws.contains j with
      | false => rfl
      | true =>
       have := hanc j (hww i j hwi hwj (by omega))
       have := (hI.lw j hwj (hwsz j hwj)).1 this
       omega)
     rwa [show cur + (i - cur) = i from by omega] at this
    rw [hBi] at heff
    refine heff Z C a w hI.wr hops ro _ _ (fun v w1 C1 hv hw1 he1 => next (i + 1) v w1 C1 (by rw [hx]; exact hv) hw1 he1 (by omega) ?_)
    intro u hu hus
    rw [hset]
    by_cases e : u = i
    ·subst e; simp
    ·rw [if_neg e]
     constructor
     ·intro h; have := (hI.lw u hu hus).1 h; omega
     ·intro h; exact hanc u (hww i u hwi hu (by omega))
theorem Z0i {P : Program} {ro : Option Nat} {Q : Exit → St → Prop} {s : St} {id : Nat} {l : List Oper} (ms ws rs : List Nat) (hm : P.follows .mixedOrders = true) (ht : tidyW l.toArray ms ws rs = true)
  (h : WCalm P l.toArray s.H ws rs (Q .normal) 0 l s) : AWp P ro (.region id l.toArray true) Q s := by
 intro Z C0 H0 w0 C a w he hs
 refine wpIn_region_any hm ?_
 obtain ⟨ys, B, h0, h1, h2⟩ := h.tell (T0 := s.T) (D := s.D) (n := s.n) (fun _ => .v undef) (fun _ => s.H) (by simp) rfl rfl (fun i hi => absurd hi (Nat.not_lt_zero _))
 simp only [Nat.zero_add] at h1 h2
 have hw1 : WR C s.H { w with drawn := w.drawn + 1 } := ⟨hs.wr.hp, hs.wr.nd, fun i o hi => ⟨(hs.wr.ids i o hi).1, (hs.wr.ids i o hi).2.keep (.refl C) (hs.wr.ids i o hi).1 (fun _ _ _ => rfl)⟩, hs.wr.inj, hs.wr.dis⟩
 have he1 : Ext Z C0 H0 w0 C s.H { w with drawn := w.drawn + 1 } := ⟨he.le, he.av, he.os, he.tape, he.output, he.size, he.fr, he.nhp, he.nbl, he.nid⟩
 have hf : ∀ i, (Array.replicate l.toArray.size false).getD i false = false := by
  intro i
  rw [Array.getD_eq_getD_getElem?, Array.getElem?_replicate]
  split <;> rfl
 refine Zg4 (ys := ys) (B := B) (s := s) (cur := 0) ht (by simpa using h1) (by simpa using h2) l.toArray.size _ _ _ C (by simp) ?_ ?_
 ·unfold left
  rw [List.filter_eq_self.2 (fun i _ => by rw [hf]; rfl), List.length_range]
 ·refine ⟨by rw [h0]; exact hw1, fun t x hx _ => hs.sl t x hx, fun j t _ hj => (by rw [hf] at hj; cases hj), hs.df, hs.du, hs.sz, by rw [h0]; exact he1, fun i o _ hi => (by rw [hf] at hi; cases hi), fun v _ _ => by rw [hf]; simp, Nat.zero_le _⟩
section
variable {P : Program} {ops : Array Oper} {o : Oper} {rest : List Oper} {H0 : AHeap} {ws rs : List Nat} {K : St → Prop} {k : Nat} {s : St}
theorem Zg {x : AV} (hw : Wanted ops s.T o true) (hd : dok o.dst s.n = true) (he : Eff P o s.T [] x []) (hk : ws.contains k = false) (h : WCalm P ops H0 ws rs K (k + 1) rest { s with T := put s.T o.dst x }) : WCalm P ops H0 ws rs K k (o :: rest) s :=
 .eff [] x hw hd he nofun (.inl rfl) hk h
theorem Zf {t : TypeId} {p : Operand} {id sz i c el : Nat} {es : List (List AV)} {e : List AV} {x : AV} (j : Nat) (hw : Wanted ops s.T o true) (hd : dok o.dst s.n = true)
  (ho : o.op = .load t p) (hp : ev s.T p = some (.ptr id sz i c)) (hH : H0[j]? = some (id, .rows el sz es)) (he : es[i]? = some e) (hl : Ld P t (e.drop c) x) (hr : rs.contains k = true) (hk : ws.contains k = false)
  (h : WCalm P ops H0 ws rs K (k + 1) rest { s with T := put s.T o.dst x }) : WCalm P ops H0 ws rs K k (o :: rest) s :=
 .eff [(id, .rows el sz es)] x hw hd (Z1l ho hp ⟨el, es, e, List.mem_cons_self, he, rfl⟩ hl) (fun p hp => by rw [List.mem_singleton.1 hp]; exact List.mem_of_getElem? hH) (.inr hr) hk h
end
end Go.Sx
namespace Go.Sx
open Go
abbrev xA (n : Int) : AV := .v (.int .u64 n)
theorem Z44 {n : Int} (h : 0 ≤ n ∧ n < 18446744073709551616) : IntKind.u64.wrap n = n := by
 unfold IntKind.wrap
 simp [IntKind.bits, IntKind.signed]
 omega
theorem Z2l {n : Int} (h : 0 ≤ n ∧ n < 256) : IntKind.u8.wrap n = n := by
 unfold IntKind.wrap
 simp [IntKind.bits, IntKind.signed]
 omega
def LenJ (x y n : Nat) : Prop := y * 2 ^ n ≤ x ∧ (0 < x → 0 < y)
theorem LenJ.start (x : Nat) : LenJ x x 0 := ⟨by simp, id⟩
theorem LenJ.shr {x y n : Nat} (h : LenJ x y n) (s : Nat) (hy : 2 ^ s ≤ y) : LenJ x (y / 2 ^ s) (n + s) := by
 refine ⟨?_, fun _ => Nat.div_pos hy (Nat.two_pow_pos s)⟩
 have h1 : y / 2 ^ s * 2 ^ s ≤ y := Nat.div_mul_le_self y (2 ^ s)
 calc y / 2 ^ s * 2 ^ (n + s) = (y / 2 ^ s * 2 ^ s) * 2 ^ n := by rw [Nat.pow_add]; simp only [Nat.mul_assoc, Nat.mul_comm, Nat.mul_left_comm]
  _ ≤ y * 2 ^ n := Nat.mul_le_mul_right _ h1
  _ ≤ x := h.1
theorem LenJ.fin {x y n t : Nat} (h : LenJ x y n) (ht : 0 < y → 2 ^ t ≤ 2 * y) (hx : 0 < x) : 2 ^ (n + t) ≤ 2 * x := by
 have h1 := ht (h.2 hx)
 calc 2 ^ (n + t) = 2 ^ t * 2 ^ n := by rw [Nat.pow_add, Nat.mul_comm]
  _ ≤ (2 * y) * 2 ^ n := Nat.mul_le_mul_right _ h1
  _ = 2 * (y * 2 ^ n) := by rw [Nat.mul_assoc]
  _ ≤ 2 * x := Nat.mul_le_mul_left _ h.1
theorem Zfq (x k : Nat) (hk : k ≤ 64) : ((x : Int)).fdiv (2 ^ (min ((k : Int)).toNat 64)) = ((x / 2 ^ k : Nat) : Int) := by
 have e : min ((k : Int)).toNat 64 = k := by omega
 rw [e, Int.ofNat_fdiv]; simp
theorem Zfu {v : Int} {m : Nat} (h0 : 0 < m) (hm : m ≤ 4611686018427387904) : 0 ≤ IntKind.i64.wrap (bitsI .and .u64 v (IntKind.u64.wrap ((m : Int) - 1))) ∧ IntKind.i64.wrap (bitsI .and .u64 v (IntKind.u64.wrap ((m : Int) - 1))) < m := by
 rw [Z44 (n := (m : Int) - 1) (by omega)]
 have e : (BitVec.ofInt IntKind.u64.bits ((m : Int) - 1)).toNat = m - 1 := by
  rw [BitVec.toNat_ofInt]
  simp [IntKind.bits]
  omega
 have hle : (BitVec.ofInt IntKind.u64.bits v &&& BitVec.ofInt IntKind.u64.bits ((m : Int) - 1)).toNat ≤ m - 1 := by
  rw [BitVec.toNat_and, e]; exact Nat.and_le_right
 unfold bitsI
 simp only
 generalize (BitVec.ofInt IntKind.u64.bits v &&& BitVec.ofInt IntKind.u64.bits ((m : Int) - 1)).toNat = d at hle ⊢
 rw [Z44 (by omega), Z0s (by omega)]
 omega
theorem Zfn {x k : Nat} (h0 : 0 < x) (hx : x ≤ 140737488355328) (hk : k ≤ 64 ∧ (0 < x → 2 ^ k ≤ 2 * x)) : IntKind.u64.wrap (1 * 2 ^ (min ((k : Int)).toNat IntKind.u64.bits)) = ((2 ^ k : Nat) : Int) := by
 have h := hk.2 h0
 have e : min ((k : Int)).toNat IntKind.u64.bits = k := by simp [IntKind.bits]; omega
 rw [e, Int.one_mul, show ((2 : Int) ^ k) = ((2 ^ k : Nat) : Int) from by simp]
 have h2 : (0 : Int) ≤ ((2 ^ k : Nat) : Int) := Int.natCast_nonneg _
 have h3 : ((2 ^ k : Nat) : Int) ≤ ((2 * x : Nat) : Int) := Int.ofNat_le.2 h
 generalize ((2 ^ k : Nat) : Int) = z at *
 exact Z44 (by omega)
def len8 : ByteArray := ⟨#[0, 1, 2, 2, 3, 3, 3, 3, 4, 4, 4, 4, 4, 4, 4, 4, 5, 5, 5, 5, 5, 5, 5, 5, 5, 5, 5, 5, 5, 5, 5, 5, 6, 6, 6, 6, 6, 6, 6, 6, 6, 6, 6, 6, 6, 6, 6, 6, 6, 6, 6, 6, 6, 6, 6, 6, 6, 6, 6, 6, 6, 6, 6, 6, 7, 7, 7, 7, 7, 7, 7, 7, 7, 7, 7, 7, 7, 7, 7, 7, 7, 7, 7, 7, 7, 7, 7, 7, 7, 7, 7, 7, 7, 7, 7, 7, 7, 7, 7, 7, 7, 7, 7, 7, 7, 7, 7, 7, 7, 7, 7, 7, 7, 7, 7, 7, 7, 7, 7, 7, 7, 7, 7, 7, 7, 7, 7, 7, 8, 8, 8, 8, 8, 8, 8, 8, 8, 8, 8, 8, 8, 8, 8, 8, 8, 8, 8, 8, 8, 8, 8, 8, 8, 8, 8, 8, 8, 8, 8, 8, 8, 8, 8, 8, 8, 8, 8, 8, 8, 8, 8, 8, 8, 8, 8, 8, 8, 8, 8, 8, 8, 8, 8, 8, 8, 8, 8, 8, 8, 8, 8, 8, 8, 8, 8, 8, 8, 8, 8, 8, 8, 8, 8, 8, 8, 8, 8, 8, 8, 8, 8, 8, 8, 8, 8, 8, 8, 8, 8, 8, 8, 8, 8, 8, 8, 8, 8, 8, 8, 8, 8, 8, 8, 8, 8, 8, 8, 8, 8, 8, 8, 8, 8, 8, 8, 8, 8, 8, 8, 8, 8, 8, 8, 8, 8, 8]⟩
theorem Z0b : ∀ y : Fin 256, 0 ≤ byteAt len8 (y.val : Int) ∧ byteAt len8 (y.val : Int) ≤ 8 ∧ (0 < y.val → 2 ^ (byteAt len8 (y.val : Int)).toNat ≤ 2 * y.val) := by decide +kernel
theorem Z1h {u : ByteArray} (h : u = len8) (k : Int) : uA (byteAt u k) = uA (byteAt len8 k) := by rw [h]
theorem Z0z {u : ByteArray} {k : Int} (h : u = len8) (hk : k < 256) : k < u.size := by rw [h, show len8.size = 256 from by decide +kernel]; exact hk
variable {P : Program} {ro : Option Nat} {Q : Exit → St → Prop} {s : St}
theorem Z09 {c : Code} {k : IntKind} {b : Nat} (t : Nat) (ht : lk s.T t = some (.v (.int k (b : Int)))) (h : ∀ d : Nat, d = b → AWp P ro c Q { s with T := (t, .v (.int k (d : Int))) :: s.T }) : AWp P ro c Q s := Z1d (Z4p ht) (h b rfl)
end Go.Sx
namespace Go.Sx
open Go
def EffA (P : Program) (o : Oper) (T : List (Nat × AV)) (H : AHeap) (x : AV) (H' : AHeap) (id : Nat) : Prop :=
 ∀ Z C a w, WR C H w → (∀ p, p ∈ o.op.operands → ∀ y, ev T p = some y → VR C y (a.eval p)) → id ∉ C.U → id ∉ Z →
  ∀ ro next R, (∀ v w1 C1, VR C1 x v → WR C1 H' w1 → Ext Z C H w C1 H' w1 → next (a.put o.dst v) w1) → o.uponIn (Wd ro) 0 P a next R ((o.semAt ro a.eval).run P w)
inductive VCalm (P : Program) (ops : Array Oper) (H0 : AHeap) (ws rs : List Nat) (K : St → Prop) : Nat → List Oper → List (Nat × (Nat × AObj)) → AHeap → St → Prop
 | done {k : Nat} {M : List (Nat × (Nat × AObj))} {S : AHeap} {s : St} (h : K s) : VCalm P ops H0 ws rs K k [] M S s
 | keep {k : Nat} {l : List Oper} {M : List (Nat × (Nat × AObj))} {S : AHeap} {s : St} (p : Nat × AObj) (hp : p ∈ s.H) (hf : (ws.all fun w => Nat.ble k w) = true) (h : VCalm P ops H0 ws rs K k l M (p :: S) s) : VCalm P ops H0 ws rs K k l M S s
 | eff {k : Nat} {o : Oper} {r : List Oper} {M : List (Nat × (Nat × AObj))} {S : AHeap} {s : St} (Hn : AHeap) (x : AV) (hw : Wanted ops s.T o true) (hd : dok o.dst s.n = true) (he : Eff P o s.T Hn x []) (hk : ws.contains k = false)
   (hn : ∀ p, p ∈ Hn → p ∈ H0 ∨ ∃ j, (j, p) ∈ M ∧ anc ops k k j = true) (hr : Hn = [] ∨ rs.contains k = true ∨ ∀ p, p ∈ Hn → p ∈ S)
   (h : VCalm P ops H0 ws rs K (k + 1) r M S { s with T := put s.T o.dst x }) : VCalm P ops H0 ws rs K k (o :: r) M S s
 | eff1 {k : Nat} {o : Oper} {r : List Oper} {M : List (Nat × (Nat × AObj))} {S : AHeap} {s : St} (x : Nat → AV) (ob : Nat → AObj) (hw : Wanted ops s.T o true) (hd : dok o.dst s.n = true) (he : ∀ id, Eff P o s.T [] (x id) [(id, ob id)]) (hk : rs.contains k = true) (hk2 : ws.contains k = false)
   (h : ∀ id, VCalm P ops H0 ws rs K (k + 1) r ((k, (id, ob id)) :: M) S { s with T := put s.T o.dst (x id), H := (id, ob id) :: s.H }) : VCalm P ops H0 ws rs K k (o :: r) M S s
 | off {k : Nat} {o : Oper} {r : List Oper} {M : List (Nat × (Nat × AObj))} {S : AHeap} {s : St} (hw : Wanted ops s.T o false) (hd : dok o.dst s.n = true) (hk : ws.contains k = false)
   (h : VCalm P ops H0 ws rs K (k + 1) r M S { s with T := put s.T o.dst (.v undef) }) : VCalm P ops H0 ws rs K k (o :: r) M S s
 | write {k : Nat} {o : Oper} {r : List Oper} {M : List (Nat × (Nat × AObj))} {S : AHeap} {s : St} (H' : AHeap) (hw : Wanted ops s.T o true) (hd : dok o.dst s.n = true) (he : EffW P o s.T s.H H') (hk : ws.contains k = true) (hS : ∀ p, p ∈ S → p ∈ H')
   (h : VCalm P ops H0 ws rs K (k + 1) r M S { s with T := put s.T o.dst (.v undef), H := H' }) : VCalm P ops H0 ws rs K k (o :: r) M S s
 | app {k : Nat} {o : Oper} {r : List Oper} {M : List (Nat × (Nat × AObj))} {S : AHeap} {s : St} (x : Nat → AV) (H' : Nat → AHeap) (hw : Wanted ops s.T o true) (hd : dok o.dst s.n = true) (he : ∀ id, EffA P o s.T s.H (x id) (H' id) id) (hk : ws.contains k = true) (hS : ∀ id p, p ∈ S → p ∈ H' id)
   (h : ∀ id, VCalm P ops H0 ws rs K (k + 1) r M S { s with T := put s.T o.dst (x id), H := H' id }) : VCalm P ops H0 ws rs K k (o :: r) M S s
def GV (P : Program) (ops : Array Oper) (ws rs : List Nat) (T : List (Nat × AV)) (os : Nat → AHeap) (H0 S : AHeap) (i : Nat) (o : Oper) (x : AV) (obs B B' : AHeap) : Prop :=
 (ws.contains i = false ∧ obs = [] ∧ B' = B ∧ ((Wanted ops T o false ∧ x = .v undef) ∨
  (Wanted ops T o true ∧ ∃ Hn, Eff P o T Hn x [] ∧ (∀ p, p ∈ Hn → p ∈ H0 ∨ ∃ j, j < i ∧ p ∈ os j ∧ anc ops i i j = true) ∧ (Hn = [] ∨ rs.contains i = true ∨ ∀ p, p ∈ Hn → p ∈ S)))) ∨
 (ws.contains i = false ∧ rs.contains i = true ∧ B' = obs ++ B ∧ Wanted ops T o true ∧ Eff P o T [] x obs) ∨
 (ws.contains i = true ∧ obs = [] ∧ Wanted ops T o true ∧ x = .v undef ∧ EffW P o T B B') ∨
 (ws.contains i = true ∧ Wanted ops T o true ∧ ∃ id, obs = [(id, .rows 0 0 [])] ∧ EffA P o T B x B' id)
theorem GV.mono {P : Program} {ops : Array Oper} {ws rs : List Nat} {T : List (Nat × AV)} {os ps : Nat → AHeap} {H0 S S' : AHeap} {i : Nat} {o : Oper} {x : AV} {obs B B' : AHeap} (hS : ∀ p, p ∈ S → p ∈ S') (ho : ∀ j, j < i → ps j = os j)
  (h : GV P ops ws rs T os H0 S i o x obs B B') : GV P ops ws rs T ps H0 S' i o x obs B B' := by
 rcases h with ⟨h1, h2, h3, h4 | ⟨h4, Hn, h5, h6, h7⟩⟩ | h | h | h
 ·exact .inl ⟨h1, h2, h3, .inl h4⟩
 ·refine .inl ⟨h1, h2, h3, .inr ⟨h4, Hn, h5, fun p hp => (h6 p hp).imp id (fun ⟨j, a, b, c⟩ => ⟨j, a, by rw [ho j a]; exact b, c⟩), h7.imp id (fun h => h.imp id (fun h p hp => hS p (h p hp)))⟩⟩
 ·exact .inr (.inl h)
 ·exact .inr (.inr (.inl h))
 ·exact .inr (.inr (.inr h))
def GoodV (P : Program) (ops : Array Oper) (n : Nat) (ws rs : List Nat) (xs : Nat → AV) (os B : Nat → AHeap) (T0 : List (Nat × AV)) (H0 S : AHeap) (i : Nat) : Prop :=
 ∃ o, ops[i]? = some o ∧ dok o.dst n = true ∧ GV P ops ws rs (TT ops xs T0 i) os H0 S i o (xs i) (os i) (B i) (B (i + 1))
theorem GoodV.congr {P : Program} {ops : Array Oper} {n : Nat} {ws rs : List Nat} {xs ys : Nat → AV} {os ps B E : Nat → AHeap} {T0 : List (Nat × AV)} {H0 S S' : AHeap} {i : Nat} (h1 : ∀ j, j ≤ i → ys j = xs j) (h2 : ∀ j, j ≤ i → ps j = os j) (h3 : ∀ j, j ≤ i + 1 → E j = B j) (hS : ∀ p, p ∈ S → p ∈ S')
  (h : GoodV P ops n ws rs xs os B T0 H0 S i) : GoodV P ops n ws rs ys ps E T0 H0 S' i := by
 obtain ⟨o, ho, hd, h⟩ := h
 refine ⟨o, ho, hd, ?_⟩
 rw [Z0n (ops := ops) (T0 := T0) i (fun j hj => h1 j (by omega)), h1 i (Nat.le_refl _), h2 i (Nat.le_refl _), h3 i (by omega), h3 (i + 1) (Nat.le_refl _)]
 exact h.mono hS (fun j hj => h2 j (by omega))
structure ToldV (P : Program) (ops : Array Oper) (n : Nat) (ws rs : List Nat) (T0 : List (Nat × AV)) (H0 : AHeap) (L : List Nat) (k : Nat) (S : AHeap) (xs : Nat → AV) (os B : Nat → AHeap) : Prop where
 b0 : B 0 = H0
 g : ∀ i, i < k → GoodV P ops n ws rs xs os B T0 H0 S i
 fr : ∀ i p, i < k → p ∈ os i → p.1 ∉ L
 di : ∀ i j p q, i < k → j < k → p ∈ os i → q ∈ os j → p.1 = q.1 → i = j
 nd : ∀ i, i < k → ((os i).map Prod.fst).Nodup
 s : ∀ p, p ∈ S → ∀ c, (∃ v, ws.contains v = true ∧ v < c) → c ≤ k → p ∈ B c
theorem ToldV.adv {P : Program} {ops : Array Oper} {n : Nat} {ws rs : List Nat} {T0 : List (Nat × AV)} {H0 : AHeap} {L : List Nat} {k : Nat} {S : AHeap} {xs : Nat → AV} {os B : Nat → AHeap} (h : ToldV P ops n ws rs T0 H0 L k S xs os B)
  {o : Oper} (ho : ops[k]? = some o) (hd : dok o.dst n = true) (x : AV) (obs H' : AHeap) (hg : GV P ops ws rs (TT ops xs T0 k) os H0 S k o x obs (B k) H') (hS : ∀ p, p ∈ S → p ∈ H')
  (h1 : ∀ p, p ∈ obs → p.1 ∉ L) (h2 : ∀ i p q, i < k → p ∈ os i → q ∈ obs → p.1 ≠ q.1) (h3 : (obs.map Prod.fst).Nodup) :
  ∃ (ys : Nat → AV) (ps E : Nat → AHeap), ToldV P ops n ws rs T0 H0 L (k + 1) S ys ps E ∧ TT ops ys T0 (k + 1) = put (TT ops xs T0 k) o.dst x ∧ E (k + 1) = H' ∧ (∀ i, i < k → ps i = os i) ∧ ps k = obs := by
 let ys : Nat → AV := fun i => if i = k then x else xs i
 let ps : Nat → AHeap := fun i => if i = k then obs else os i
 let E : Nat → AHeap := fun i => if i = k + 1 then H' else B i
 have e1 : ∀ i, i < k → ys i = xs i := fun i hi => if_neg (by omega)
 have e2 : ∀ i, i < k → ps i = os i := fun i hi => if_neg (by omega)
 have e3 : ∀ i, i ≤ k → E i = B i := fun i hi => if_neg (by omega)
 have e4 : ys k = x := if_pos rfl
 have e5 : ps k = obs := if_pos rfl
 have e6 : E (k + 1) = H' := if_pos rfl
 have et : TT ops ys T0 k = TT ops xs T0 k := Z0n k e1
 refine ⟨ys, ps, E, ⟨(e3 0 (Nat.zero_le _)).trans h.b0, ?_, ?_, ?_, ?_, ?_⟩, ?_, e6, e2, e5⟩
 ·intro i hi
  rcases Nat.lt_or_ge i k with hlt | hge
  ·exact (h.g i hlt).congr (fun j hj => e1 j (by omega)) (fun j hj => e2 j (by omega)) (fun j hj => e3 j (by omega)) (fun _ h => h)
  ·have e : i = k := by omega
   subst e
   refine ⟨o, ho, hd, ?_⟩
   rw [et, e4, e5, e6, e3 i (Nat.le_refl _)]
   exact hg.mono (fun _ h => h) e2
 ·intro i p hi hp
  rcases Nat.lt_or_ge i k with hlt | hge
  ·rw [e2 i hlt] at hp; exact h.fr i p hlt hp
  ·have e : i = k := by omega
   subst e; rw [e5] at hp; exact h1 p hp
 ·intro i j p q hi hj hp hq hpq
  rcases Nat.lt_or_ge i k with hlt | hge <;> rcases Nat.lt_or_ge j k with hlt' | hge'
  ·rw [e2 i hlt] at hp; rw [e2 j hlt'] at hq; exact h.di i j p q hlt hlt' hp hq hpq
  ·have e : j = k := by omega
   subst e; rw [e5] at hq; rw [e2 i hlt] at hp; exact (h2 i p q hlt hp hq hpq).elim
  ·have e : i = k := by omega
   subst e; rw [e5] at hp; rw [e2 j hlt'] at hq; exact (h2 j q p hlt' hq hp hpq.symm).elim
  ·omega
 ·intro i hi
  rcases Nat.lt_or_ge i k with hlt | hge
  ·rw [e2 i hlt]; exact h.nd i hlt
  ·have e : i = k := by omega
   subst e; rw [e5]; exact h3
 ·intro p hp c hv hc
  rcases Nat.lt_or_ge k c with hlt | hge
  ·have e : c = k + 1 := by omega
   subst e; rw [e6]; exact hS p hp
  ·rw [e3 c hge]; exact h.s p hp c hv hge
 ·simp only [TT, ho, Option.bind_some]
  rw [e4, et]
theorem VCalm.tell {P : Program} {ops : Array Oper} {H0 : AHeap} {ws rs : List Nat} {K : St → Prop} {T0 : List (Nat × AV)} {D : List Nat} {n : Nat} (L : List Nat) {k : Nat} {l : List Oper} {M : List (Nat × (Nat × AObj))} {S : AHeap} {s : St} (h : VCalm P ops H0 ws rs K k l M S s) :
  ∀ (xs : Nat → AV) (os B : Nat → AHeap), ToldV P ops n ws rs T0 H0 L k S xs os B → ops.toList.drop k = l → s = ⟨TT ops xs T0 k, B k, D, n⟩ → (∀ j p, (j, p) ∈ M → j < k ∧ p ∈ os j) → (∀ p, p ∈ S → p ∈ B k) →
   ∃ (ys : Nat → AV) (ps E : Nat → AHeap) (S' : AHeap), ToldV P ops n ws rs T0 H0 L (k + l.length) S' ys ps E ∧ K ⟨TT ops ys T0 (k + l.length), E (k + l.length), D, n⟩ := by
 induction h with
 | done h =>
  intro xs os B hT hl hs hM hS
  subst hs
  exact ⟨xs, os, B, _, hT, h⟩
 | @keep k l M S s p hp hf h ih =>
  intro xs os B hT hl hs hM hS
  subst hs
  refine ih xs os B ⟨hT.b0, fun i hi => (hT.g i hi).congr (fun _ _ => rfl) (fun _ _ => rfl) (fun _ _ => rfl) (fun q hq => List.mem_cons_of_mem _ hq), hT.fr, hT.di, hT.nd, ?_⟩ hl rfl hM ?_
  ·intro q hq c hv hc
   rcases List.mem_cons.1 hq with rfl | hq
   ·obtain ⟨v, hv, hvc⟩ := hv
    have := List.all_eq_true.1 hf v (by simpa using hv)
    have := Nat.le_of_ble_eq_true this
    omega
   ·exact hT.s q hq c hv hc
  ·intro q hq
   rcases List.mem_cons.1 hq with rfl | hq
   ·exact hp
   ·exact hS q hq
 | @eff k o r M S s Hn x hw hd he hk hn hr h ih =>
  intro xs os B hT hl hs hM hS
  subst hs
  obtain ⟨h1, h2⟩ := Z07 hl
  have ho : ops[k]? = some o := by rw [← Array.getElem?_toList]; exact h1
  obtain ⟨ys, ps, E, g1, g2, g3, g4, g5⟩ := hT.adv ho hd x [] (B k) (.inl ⟨hk, rfl, rfl, .inr ⟨hw, Hn, he, fun p hp => (hn p hp).imp id (fun ⟨j, a, b⟩ => ⟨j, (hM j p a).1, (hM j p a).2, b⟩), hr⟩⟩) hS nofun (fun _ _ _ _ _ h => nomatch h) List.nodup_nil
  rw [show k + (o :: r).length = k + 1 + r.length by simp; omega]
  exact ih ys ps E g1 h2 (by rw [g2, g3]) (fun j p hp => ⟨by have := (hM j p hp).1; omega, by rw [g4 j (hM j p hp).1]; exact (hM j p hp).2⟩) (by rw [g3]; exact hS)
 | @eff1 k o r M S s x ob hw hd he hk hk2 h ih =>
  intro xs os B hT hl hs hM hS
  subst hs
  obtain ⟨h1, h2⟩ := Z07 hl
  have ho : ops[k]? = some o := by rw [← Array.getElem?_toList]; exact h1
  obtain ⟨id, hid⟩ := Z5w (L ++ ((List.range k).flatMap fun i => (os i).map Prod.fst))
  rw [List.mem_append, not_or] at hid
  obtain ⟨ys, ps, E, g1, g2, g3, g4, g5⟩ := hT.adv ho hd (x id) [(id, ob id)] ((id, ob id) :: B k) (.inr (.inl ⟨hk2, hk, rfl, hw, he id⟩)) (fun p hp => List.mem_cons_of_mem _ (hS p hp)) (fun p hp => by rw [List.mem_singleton.1 hp]; exact hid.1)
   (fun i p q hi hp hq e => by rw [List.mem_singleton.1 hq] at e; exact hid.2 (List.mem_flatMap.2 ⟨i, List.mem_range.2 hi, List.mem_map.2 ⟨p, hp, e⟩⟩)) (by simp)
  rw [show k + (o :: r).length = k + 1 + r.length by simp; omega]
  refine ih id ys ps E g1 h2 (by rw [g2, g3]) ?_ (by rw [g3]; exact fun p hp => List.mem_cons_of_mem _ (hS p hp))
  intro j p hp
  rcases List.mem_cons.1 hp with hp | hp
  ·cases hp; exact ⟨by omega, by rw [g5]; exact List.mem_cons_self⟩
  ·exact ⟨by have := (hM j p hp).1; omega, by rw [g4 j (hM j p hp).1]; exact (hM j p hp).2⟩
 | @off k o r M S s hw hd hk h ih =>
  intro xs os B hT hl hs hM hS
  subst hs
  obtain ⟨h1, h2⟩ := Z07 hl
  have ho : ops[k]? = some o := by rw [← Array.getElem?_toList]; exact h1
  obtain ⟨ys, ps, E, g1, g2, g3, g4, g5⟩ := hT.adv ho hd (.v undef) [] (B k) (.inl ⟨hk, rfl, rfl, .inl ⟨hw, rfl⟩⟩) hS nofun (fun _ _ _ _ _ h => nomatch h) List.nodup_nil
  rw [show k + (o :: r).length = k + 1 + r.length by simp; omega]
  exact ih ys ps E g1 h2 (by rw [g2, g3]) (fun j p hp => ⟨by have := (hM j p hp).1; omega, by rw [g4 j (hM j p hp).1]; exact (hM j p hp).2⟩) (by rw [g3]; exact hS)
 | @write k o r M S s H' hw hd he hk hS' h ih =>
  intro xs os B hT hl hs hM hS
  subst hs
  obtain ⟨h1, h2⟩ := Z07 hl
  have ho : ops[k]? = some o := by rw [← Array.getElem?_toList]; exact h1
  obtain ⟨ys, ps, E, g1, g2, g3, g4, g5⟩ := hT.adv ho hd (.v undef) [] H' (.inr (.inr (.inl ⟨hk, rfl, hw, rfl, he⟩))) hS' nofun (fun _ _ _ _ _ h => nomatch h) List.nodup_nil
  rw [show k + (o :: r).length = k + 1 + r.length by simp; omega]
  exact ih ys ps E g1 h2 (by rw [g2, g3]) (fun j p hp => ⟨by have := (hM j p hp).1; omega, by rw [g4 j (hM j p hp).1]; exact (hM j p hp).2⟩) (by rw [g3]; exact hS')
 | @app k o r M S s x H' hw hd he hk hS' h ih =>
  intro xs os B hT hl hs hM hS
  subst hs
  obtain ⟨h1, h2⟩ := Z07 hl
  have ho : ops[k]? = some o := by rw [← Array.getElem?_toList]; exact h1
  obtain ⟨id, hid⟩ := Z5w (L ++ ((List.range k).flatMap fun i => (os i).map Prod.fst))
  rw [List.mem_append, not_or] at hid
  obtain ⟨ys, ps, E, g1, g2, g3, g4, g5⟩ := hT.adv ho hd (x id) [(id, .rows 0 0 [])] (H' id) (.inr (.inr (.inr ⟨hk, hw, id, rfl, he id⟩))) (hS' id) (fun p hp => by rw [List.mem_singleton.1 hp]; exact hid.1)
   (fun i p q hi hp hq e => by rw [List.mem_singleton.1 hq] at e; exact hid.2 (List.mem_flatMap.2 ⟨i, List.mem_range.2 hi, List.mem_map.2 ⟨p, hp, e⟩⟩)) (by simp)
  rw [show k + (o :: r).length = k + 1 + r.length by simp; omega]
  exact ih id ys ps E g1 h2 (by rw [g2, g3]) (fun j p hp => ⟨by have := (hM j p hp).1; omega, by rw [g4 j (hM j p hp).1]; exact (hM j p hp).2⟩) (by rw [g3]; exact hS' id)
def hpF (N : Nat) (ps : Nat → AHeap) (H0 : AHeap) (B : Nat → AHeap) (listed : Array Bool) (cur : Nat) : AHeap :=
 if cur = 0 then (List.range N).flatMap (fun j => if listed.getD j false = true then ps j else []) ++ H0 else B cur
structure InvV (P : Program) (ops : Array Oper) (ws : List Nat) (ys : Nat → AV) (ps B : Nat → AHeap) (cur : Nat) (s : St) (Z : List Nat) (C0 : Ctx) (H0 : AHeap) (w0 : World) (listed : Array Bool) (a : Act) (w : World) (C : Ctx) : Prop where
 wr : WR C (hpF ops.size ps s.H B listed cur) w
 sl0 : ∀ t x, lk s.T t = some x → (∀ j, j < ops.size → listed.getD j false = true → (ops[j]?).bind (·.dst) ≠ some t) → ∃ v, a.tmps[t]? = some v ∧ VR C x v
 sl1 : ∀ j t, j < ops.size → listed.getD j false = true → (ops[j]?).bind (·.dst) = some t → ∃ v, a.tmps[t]? = some v ∧ VR C (ys j) v
 df : a.defers = s.D.map (mark C)
 du : ∀ i, i ∈ s.D → i ∈ C.U
 sz : a.tmps.size = s.n
 av : ∀ j p, j < ops.size → listed.getD j false = false → p ∈ ps j → p.1 ∉ C.U
 ext : Ext Z C0 H0 w0 C (hpF ops.size ps s.H B listed cur) w
 dn : ∀ i o, ops[i]? = some o → listed.getD i false = true → ∀ e, e ∈ o.after → Region.binds .any e = true → listed.getD e.on false = true
 lw : ∀ v, ws.contains v = true → v < ops.size → (listed.getD v false = true ↔ v < cur)
 lc : cur ≤ ops.size
 lz : cur = 0 ∨ ∃ v, ws.contains v = true ∧ v < cur
def okLooksV (ops : Array Oper) (ms : List Nat) : Bool := (List.range ops.size).all fun i => match ops[i]? with
 | some o => (o.looksAt ops).all fun t => (List.range ops.size).all fun j => !((ops[j]?).bind (·.dst) == some t) || (Nat.blt j i && bitOf ms i j) || (Nat.blt i j && bitOf ms j i)
 | none => false
def tidyV (ops : Array Oper) (ms ws rs : List Nat) : Bool := (okEdges ops && okDst ops ops.size && okCert ops ms && okLooksV ops ms && okWrites ms ws rs && (ws ++ rs).all fun i => Nat.blt i ops.size) && !ws.isEmpty
section
variable {P : Program} {ops : Array Oper} {o : Oper} {rest : List Oper} {H0 : AHeap} {ws rs : List Nat} {K : St → Prop} {k : Nat} {M : List (Nat × (Nat × AObj))} {S : AHeap} {s : St}
def inH (H : AHeap) : AHeap → List Nat → Prop
 | [], _ => True
 | p :: S, j :: js => H[j]? = some p ∧ inH H S js
 | _ :: _, [] => False
end
end Go.Sx
namespace Go.Sx
open Go
section
variable {α : Type} [Inhabited α]
theorem Zo {f : α → List AV} {l : List α} {i : Nat} (h : i < l.length) : (l.map f)[i]? = some (f (l.getD i default)) := by simp [h, List.getD]
theorem Zk {P : Program} {t n : Nat} {f : α → List AV} {x : α} [k : TK P t true n] (hl : (f x).length = n) : Ld P t ((f x).drop 0) (.agg (f x)) := by
 have h := Zc5 (P := P) (t := t) (n := n) (l := (f x).drop 0) (by simp [hl])
 have e : ((f x).drop 0).take n = f x := by rw [List.drop_zero, ← hl, List.take_length]
 rw [e] at h; exact h
theorem Z86 {f : α → List AV} {n : Nat} {l : List α} {i : Nat} {x : α} (hl : ∀ x, (f x).length = n) :
  (l.map f).set i ((f (l.getD i default)).take 0 ++ cellsA (.agg (f x)) ++ (f (l.getD i default)).drop (0 + (cellsA (.agg (f x))).length)) = (l.set i x).map f := by
 rw [List.map_set]
 congr 1
 show [] ++ f x ++ (f (l.getD i default)).drop (0 + (f x).length) = f x
 rw [hl x, Nat.zero_add, List.drop_of_length_le (by rw [hl]; exact Nat.le_refl _)]
 simp
variable {P : Program} {ro : Option Nat} {Q : Exit → St → Prop} {s : St} {ops : Array Oper} {o : Oper} {rest : List Oper}
theorem Z8e {t n id el i : Nat} {b : Bool} {p q : Operand} {f : α → List AV} {l : List α} {x : α} (k : Nat) [kt : TK P t b n] (hl : ∀ x, (f x).length = n) (h1 : ∀ x, (f x).all one = true) (hw : Wanted ops s.T o true) (hd : dok o.dst s.n = true)
  (ho : o.op = .store t p q) (hp : ev s.T p = some (.ptr id n i 0)) (hH : s.H[k]? = some (id, .rows el n (l.map f))) (hi : i < l.length) (hq : ev s.T q = some (.agg (f x)))
  (h : AOps P ro ops rest Q { s with T := put s.T o.dst (.v undef), H := s.H.set k (id, .rows el n ((l.set i x).map f)) }) : AOps P ro ops (o :: rest) Q s := by
 refine Z0r k hw hd ho hp hH (Zo hi) hq (hl x) (h1 x) (by rw [Nat.zero_add]; exact Nat.ble_eq ▸ Nat.le_refl n) ?_
 rw [Z86 hl]; exact h
theorem Zs {H0 : AHeap} {K : St → Prop} {kk : Nat} {M : List (Nat × (Nat × AObj))} {e : Bool} {t n : TypeId} {p : Operand} {id el i : Nat} {f : α → List AV} {l : List α} (k : Nat) (hw : Wanted ops s.T o e) (hd : dok o.dst s.n = true) (ho : o.op = .load t p) (hp : e = true → ev s.T p = some (.ptr id n i 0))
  (hH : H0[k]? = some (id, .rows el n (l.map f))) (hi : e = true → i < l.length) (hl : ∀ x, Ld P t ((f x).drop 0) (.agg (f x))) (h : Calm P ops H0 K (kk + 1) rest M { s with T := put s.T o.dst (cond e (.agg (f (l.getD i default))) (.v undef)) }) : Calm P ops H0 K kk (o :: rest) M s := by
 cases e
 ·exact .off hw hd h
 ·exact Zm k hw hd ho (hp rfl) hH (Zo (hi rfl)) (hl _) h
theorem Z8t {T : List (Nat × AV)} {t n id el i : Nat} {b : Bool} {p q : Operand} {f : α → List AV} {l : List α} {x : α} {H : AHeap} (k : Nat) [kt : TK P t b n] (hl : ∀ x, (f x).length = n) (h1 : ∀ x, (f x).all one = true)
  (ho : o.op = .store t p q) (hp : ev T p = some (.ptr id n i 0)) (hH : H[k]? = some (id, .rows el n (l.map f))) (hi : i < l.length) (hq : ev T q = some (.agg (f x))) : EffW P o T H (H.set k (id, .rows el n ((l.set i x).map f))) := by
 have h := Z61 (P := P) (b := b) k ho hp hH (Zo hi) hq (hl x) (h1 x) (by rw [Nat.zero_add]; exact Nat.ble_eq ▸ Nat.le_refl n)
 rw [Z86 hl] at h; exact h
theorem Zl {H0 : AHeap} {ws rs : List Nat} {K : St → Prop} {k : Nat} {t n id el i : Nat} {b : Bool} {p q : Operand} {f : α → List AV} {l : List α} {x : α} (j : Nat) [kt : TK P t b n] (hl : ∀ x, (f x).length = n) (h1 : ∀ x, (f x).all one = true) (hw : Wanted ops s.T o true) (hd : dok o.dst s.n = true)
  (ho : o.op = .store t p q) (hp : ev s.T p = some (.ptr id n i 0)) (hH : s.H[j]? = some (id, .rows el n (l.map f))) (hi : i < l.length) (hq : ev s.T q = some (.agg (f x))) (hk : ws.contains k = true)
  (h : WCalm P ops H0 ws rs K (k + 1) rest { s with T := put s.T o.dst (.v undef), H := s.H.set j (id, .rows el n ((l.set i x).map f)) }) : WCalm P ops H0 ws rs K k (o :: rest) s :=
 .write _ hw hd (Z8t j hl h1 ho hp hH hi hq) hk h
end
end Go.Sx
namespace Go.Sx
open Go
def idxFrom {α : Type} (f : α → Bool) : List α → Nat → Int
 | [], _ => -1
 | a :: r, i => if f a then i else idxFrom f r (i + 1)
def Prog.av (p : Prog) : AV := .agg p.cells
def classAt (p : Prog) (nm : Str) : Int := idxFrom (fun c => beqS c.name nm) p.classes 0
def inL (l : List Str) (s : Str) : Bool := l.any fun x => beqS x s
theorem Zcj {a : Bool} (h : (!a) = false) : a = true := by cases a <;> simp_all
theorem Z6h {α : Type} {l : List α} {i : Nat} (h : i < l.length) : l.drop i = l[i] :: l.drop (i + 1) := List.drop_eq_getElem_cons h
theorem Z9i {α : Type} {l : List α} {i : Nat} (h : ¬ i < l.length) : l.drop i = [] := List.drop_of_length_le (by omega)
def Fact.av (f : Fact) : AV := .agg f.cells
def Ty.av (t : Ty) : AV := .agg t.cells
def Cls.av (c : Cls) : AV := .agg c.cells
def clsFind (p : Prog) (nm : Str) : Option Cls := p.classes.find? fun c => beqS c.name nm
def ifaceP (p : Prog) (nm : Str) : Bool := match clsFind p nm with | some c => c.iface | none => false
def isRefK (k : Int) : Bool := decide (2 ≤ k) && decide (k ≤ 6)
def eqF (a b : Fact) : Bool := a.kind == b.kind && beqS a.cls b.cls
def zS : Str := ⟨#[]⟩
def ofT (t : Ty) : Fact :=
 if t.kind = 2 then ⟨1, zS⟩ else if t.kind = 3 then ⟨3, t.cls⟩ else if t.kind = 4 then ⟨4, zS⟩ else if t.kind = 5 then ⟨5, t.cls⟩ else ⟨0, zS⟩
def joinBy (com : Str → Str → Str) (a b : Fact) : Fact :=
 if eqF a b then a else if !isRefK a.kind || !isRefK b.kind then ⟨0, zS⟩ else if a.kind = 2 then b else if b.kind = 2 then a
 else if a.kind = 3 ∧ b.kind = 3 then (if beqS (com a.cls b.cls) zS then ⟨6, zS⟩ else ⟨3, com a.cls b.cls⟩) else ⟨6, zS⟩
def zCls : List AV := [sA zS, sA zS, bA false, bA false, .v (.slice none 0 0), .v (.slice none 0 0), .v (.slice none 0 0)]
def knownA : Option Cls → AV
 | some c => .tup [.agg c.cells, bA true]
 | none => .tup [.agg zCls, bA false]
def upC (c : Cls) : List Str := if beqS c.super zS then c.ifaces else c.super :: c.ifaces
instance : Inhabited Cls := ⟨⟨⟨#[]⟩, ⟨#[]⟩, false, false, [], [], []⟩⟩
instance : Inhabited Fld := ⟨⟨⟨#[]⟩, ⟨0, ⟨#[]⟩⟩, false⟩⟩
instance : Inhabited Meth := ⟨⟨⟨#[]⟩, ⟨#[]⟩, false, false, 0, []⟩⟩
instance : Inhabited Instr := ⟨⟨0, 0, 0, 0, 0, ⟨#[]⟩, ⟨#[]⟩, ⟨#[]⟩, []⟩⟩
instance : Inhabited Fact := ⟨⟨0, ⟨#[]⟩⟩⟩
def sameF : List Fact → List Fact → Bool
 | [], [] => true
 | x :: l, y :: r => eqF x y && sameF l r
 | _, _ => false
theorem Z12 {α : Type} [DecidableEq α] : ∀ {l m : List α}, l.Nodup → (∀ x, x ∈ l → x ∈ m) → l.length ≤ m.length
 | [], m, _, _ => Nat.zero_le _
 | x :: l, m, hn, hs => by
  rw [List.nodup_cons] at hn
  have hx : x ∈ m := hs x List.mem_cons_self
  have h1 : ∀ y, y ∈ l → y ∈ m.erase x := fun y hy => (List.mem_erase_of_ne (by rintro rfl; exact hn.1 hy)).2 (hs y (List.mem_cons_of_mem _ hy))
  have h2 := Z12 hn.2 h1
  have h3 := List.length_erase_of_mem hx
  have h4 : 0 < m.length := List.length_pos_of_mem hx
  simp only [List.length_cons]
  omega
theorem inL_mem {l : List Str} {s : Str} : inL l s = true ↔ s ∈ l := by
 simp only [inL, List.any_eq_true, beqS_iff]
 exact ⟨fun ⟨x, h, e⟩ => e ▸ h, fun h => ⟨s, h, rfl⟩⟩
theorem inL_false {l : List Str} {s : Str} : inL l s = false ↔ s ∉ l := by
 rw [← inL_mem]; cases inL l s <;> simp
def supF (p : Prog) : Nat → Str → List Str → List Str
 | 0, _, out => out
 | n + 1, nm, out => match clsFind p nm with
  | none => out
  | some c => if inL out c.name then out else if beqS c.super zS then out ++ [c.name] else supF p n c.super (out ++ [c.name])
def supers (p : Prog) (nm : Str) : List Str := supF p (p.classes.length + 1) nm []
theorem Z0q {p : Prog} {nm : Str} {c : Cls} (h : clsFind p nm = some c) : c.name = nm ∧ c ∈ p.classes := by
 unfold clsFind at h
 have h1 := List.find?_some h
 exact ⟨beqS_iff.1 h1, List.mem_of_find?_eq_some h⟩
structure SupJ (p : Prog) (nm0 nm : Str) (out : List Str) : Prop where
 nd : out.Nodup
 sub : ∀ x, x ∈ out → x ∈ p.classes.map Cls.name
 eq : supF p (p.classes.length + 1 - out.length) nm out = supers p nm0
theorem SupJ.len {p : Prog} {nm0 nm : Str} {out : List Str} (h : SupJ p nm0 nm out) : out.length ≤ p.classes.length := by
 have := Z12 h.nd h.sub
 simpa using this
theorem SupJ.start (p : Prog) (nm : Str) : SupJ p nm nm [] := ⟨List.nodup_nil, nofun, rfl⟩
theorem SupJ.eq' {p : Prog} {nm0 nm : Str} {out : List Str} (h : SupJ p nm0 nm out) : (match clsFind p nm with
  | none => out
  | some c => if inL out c.name then out else if beqS c.super zS then out ++ [c.name] else supF p (p.classes.length - out.length) c.super (out ++ [c.name])) = supers p nm0 := by
 have h1 := h.eq
 have h2 := h.len
 rw [show p.classes.length + 1 - out.length = (p.classes.length - out.length) + 1 from by omega] at h1
 exact h1
theorem SupJ.none {p : Prog} {nm0 nm : Str} {out : List Str} (h : SupJ p nm0 nm out) (hc : clsFind p nm = none) : out = supers p nm0 := by have := h.eq'; rwa [hc] at this
theorem SupJ.had {p : Prog} {nm0 nm : Str} {out : List Str} {c : Cls} (h : SupJ p nm0 nm out) (hc : clsFind p nm = some c) (hi : inL out c.name = true) : out = supers p nm0 := by have := h.eq'; simpa [hc, hi] using this
theorem SupJ.top {p : Prog} {nm0 nm : Str} {out : List Str} {c : Cls} (h : SupJ p nm0 nm out) (hc : clsFind p nm = some c) (hi : inL out c.name = false) (hs : beqS c.super zS = true) : out ++ [c.name] = supers p nm0 := by
 have := h.eq'; simpa [hc, hi, hs] using this
theorem SupJ.sub1 {p : Prog} {nm0 nm : Str} {out : List Str} {c : Cls} (h : SupJ p nm0 nm out) (hc : clsFind p nm = some c) (hi : inL out c.name = false) : (out ++ [c.name]).Nodup ∧ ∀ x, x ∈ out ++ [c.name] → x ∈ p.classes.map Cls.name := by
 refine ⟨?_, ?_⟩
 ·rw [List.nodup_append]
  refine ⟨h.nd, by simp, ?_⟩
  intro a ha b hb
  rw [List.mem_singleton] at hb
  rintro rfl
  subst hb
  exact inL_false.1 hi ha
 ·intro x hx
  rcases List.mem_append.1 hx with hx | hx
  ·exact h.sub x hx
  ·rw [List.mem_singleton] at hx
   subst hx
   exact List.mem_map.2 ⟨c, (Z0q hc).2, rfl⟩
theorem SupJ.next {p : Prog} {nm0 nm : Str} {out : List Str} {c : Cls} (h : SupJ p nm0 nm out) (hc : clsFind p nm = some c) (hi : inL out c.name = false) (hs : beqS c.super zS = false) : SupJ p nm0 c.super (out ++ [c.name]) := by
 obtain ⟨h1, h2⟩ := h.sub1 hc hi
 refine ⟨h1, h2, ?_⟩
 have h3 := h.eq'
 have h4 := Z12 h1 h2
 simp only [List.length_append, List.length_map, List.length_cons, List.length_nil] at h4
 rw [hc] at h3
 simp only [hi, hs, Bool.false_eq_true, if_false] at h3
 rw [show p.classes.length + 1 - (out ++ [c.name]).length = p.classes.length - out.length from by simp]
 exact h3
theorem SupJ.lt {p : Prog} {nm0 nm : Str} {out : List Str} {c : Cls} (h : SupJ p nm0 nm out) (hc : clsFind p nm = some c) (hi : inL out c.name = false) : out.length + 1 ≤ p.classes.length := by
 obtain ⟨h1, h2⟩ := h.sub1 hc hi
 have h4 := Z12 h1 h2
 simpa using h4
def comF (x y : List Str) : Str := (x.find? fun s => inL y s).getD zS
def com (p : Prog) (a b : Str) : Str := if !beqS a b && (ifaceP p a || ifaceP p b) then zS else comF (supers p a) (supers p b)
def mergeF (j : Fact → Fact → Fact) : List Fact → List Fact → List Fact
 | x :: l, y :: r => j x y :: mergeF j l r
 | _, _ => []
theorem Zet {α : Type} {f : α → Bool} {l : List α} {i : Nat} (hJ : (l.drop i).any f = l.any f) (hi : i < l.length) (h : f l[i] = true) : l.any f = true := by rw [← hJ, Z6h hi, List.any_cons, h]; rfl
theorem Zd3 {α : Type} {f : α → Bool} {l : List α} {i : Nat} (hJ : (l.drop i).any f = l.any f) (hi : i < l.length) (h : f l[i] = false) : (l.drop (i + 1)).any f = l.any f := by rw [← hJ, Z6h hi, List.any_cons, h]; rfl
theorem Zes {α : Type} {f : α → Bool} {l : List α} {i : Nat} (hJ : (l.drop i).any f = l.any f) (hi : ¬ i < l.length) : l.any f = false := by rw [← hJ, Z9i hi]; rfl
def greatI (x : Instr) : Bool := decide (x.args.length > 60) || decide (x.cls.size > 300) || decide (x.name.size > 300) || decide (x.desc.size > 300)
def greatM0 (m : Meth) : Bool := decide (m.code.length > 300) || decide (m.name.size > 300) || decide (m.desc.size > 300)
def greatM (m : Meth) : Bool := greatM0 m || m.code.any greatI
def greatC0 (c : Cls) : Bool := decide (c.ifaces.length > 40) || decide (c.fields.length > 40) || decide (c.methods.length > 40) || decide (c.name.size > 300) || decide (c.super.size > 300)
def greatC (c : Cls) : Bool := greatC0 c || c.methods.any greatM
def greatP0 (p : Prog) : Bool := decide (p.classes.length > 70) || decide (p.names.length > 70)
def greatP (p : Prog) : Bool := greatP0 p || p.classes.any greatC
def PairsR (f t : Nat) (x y : AV) : AEnd → AHeap → Prop := fun e H => ∃ i1 i2, e = .ret (.fn (.func f) [.ptr i1 1 0 0, .ptr i2 1 0 0]) ∧ H = [(i2, .rows t 1 [[y]]), (i1, .rows t 1 [[x]])]
theorem lts {l : List Nat} {n : Nat} (h : (l.all fun t => Nat.blt t n) = true) : ∀ t, t ∈ l → t < n := fun t ht => Nat.blt_eq ▸ List.all_eq_true.1 h t ht
def setM (out : List Str) : List (Value × AV) := out.map fun s => (.string s, bA true)
section
variable {P : Program} {ro : Option Nat} {Q : Exit → St → Prop} {s : St} {ops : Array Oper} {o : Oper} {rest : List Oper} {T : List (Nat × AV)}
end
theorem Za7 (p : Prog) : ∀ (n : Nat) (nm : Str) (out : List Str), ∃ suf, supF p n nm out = out ++ suf
 | 0, _, out => ⟨[], by simp [supF]⟩
 | n + 1, nm, out => by
  unfold supF
  cases clsFind p nm with
  | none => exact ⟨[], by simp⟩
  | some c =>
   simp only
   split
   ·exact ⟨[], by simp⟩
   ·split
    ·exact ⟨[c.name], rfl⟩
    ·obtain ⟨suf, h⟩ := Za7 p n c.super (out ++ [c.name])
     exact ⟨c.name :: suf, by rw [h]; simp⟩
theorem SupJ.pre {p : Prog} {nm0 nm : Str} {out : List Str} {c : Cls} (h : SupJ p nm0 nm out) (hc : clsFind p nm = some c) (hi : inL out nm = false) : ∃ suf, supers p nm0 = out ++ nm :: suf := by
 have hn := (Z0q hc).1
 have := h.eq'
 rw [hc] at this
 simp only [hn, hi, Bool.false_eq_true, if_false] at this
 split at this
 ·exact ⟨[], this.symm⟩
 ·obtain ⟨suf, h2⟩ := Za7 p (p.classes.length - out.length) c.super (out ++ [nm])
  rw [h2] at this
  exact ⟨suf, by rw [← this]; simp⟩
def AboveR (f t n u : Nat) (cells : List AV) (nm : Str) : AEnd → AHeap → Prop := fun e H => ∃ i1 i2, e = .ret (.fn (.func f) [.ptr i1 n 0 0, .ptr i2 1 0 0]) ∧ H = [(i2, .rows u 1 [[sA nm]]), (i1, .rows t n [cells])]
inductive Anc (p : Prog) (nm : Str) : Str → Prop
 | base {c : Cls} (h : clsFind p nm = some c) : Anc p nm nm
 | step {s u : Str} {c d : Cls} (h : Anc p nm s) (hc : clsFind p s = some c) (hu : u ∈ upC c) (hd : clsFind p u = some d) : Anc p nm u
structure AncJ (p : Prog) (nm : Str) (todo out : List Str) : Prop where
 nd : out.Nodup
 sub : ∀ x, x ∈ out → x ∈ p.classes.map Cls.name
 snd : ∀ x, x ∈ out → Anc p nm x
 tsnd : ∀ x, x ∈ todo → ∀ c, clsFind p x = some c → Anc p nm x
 cl : ∀ s, s ∈ out → ∀ c, clsFind p s = some c → ∀ u, u ∈ upC c → ∀ d, clsFind p u = some d → u ∈ out ∨ u ∈ todo
 st : ∀ c, clsFind p nm = some c → nm ∈ out ∨ nm ∈ todo
theorem AncJ.start (p : Prog) (nm : Str) : AncJ p nm [nm] [] :=
 ⟨List.nodup_nil, nofun, nofun, fun x hx c hc => by rw [List.mem_singleton.1 hx] at hc ⊢; exact .base hc, nofun, fun _ _ => .inr List.mem_cons_self⟩
theorem AncJ.fin {p : Prog} {nm : Str} {out : List Str} (h : AncJ p nm [] out) (s : Str) : s ∈ out ↔ Anc p nm s := by
 refine ⟨h.snd s, fun ha => ?_⟩
 induction ha with
 | base hc => exact (h.st _ hc).resolve_right nofun
 | step _ hc hu hd ih => exact (h.cl _ ih _ hc _ hu _ hd).resolve_right nofun
theorem AncJ.skip {p : Prog} {nm sx : Str} {t out : List Str} (h : AncJ p nm (t ++ [sx]) out) (hs : clsFind p sx = none ∨ sx ∈ out) : AncJ p nm t out := by
 refine ⟨h.nd, h.sub, h.snd, fun x hx => h.tsnd x (List.mem_append_left _ hx), ?_, ?_⟩
 ·intro s hs' c hc u hu d hd
  rcases h.cl s hs' c hc u hu d hd with h1 | h1
  ·exact .inl h1
  ·rcases List.mem_append.1 h1 with h2 | h2
   ·exact .inr h2
   ·rw [List.mem_singleton] at h2
    subst h2
    rcases hs with h3 | h3
    ·rw [h3] at hd; cases hd
    ·exact .inl h3
 ·intro c hc
  rcases h.st c hc with h1 | h1
  ·exact .inl h1
  ·rcases List.mem_append.1 h1 with h2 | h2
   ·exact .inr h2
   ·rw [List.mem_singleton] at h2
    subst h2
    rcases hs with h3 | h3
    ·rw [h3] at hc; cases hc
    ·exact .inl h3
theorem AncJ.sub1 {p : Prog} {nm sx : Str} {t out : List Str} {c : Cls} (h : AncJ p nm (t ++ [sx]) out) (hc : clsFind p sx = some c) (hn : sx ∉ out) : (out ++ [sx]).Nodup ∧ ∀ x, x ∈ out ++ [sx] → x ∈ p.classes.map Cls.name := by
 refine ⟨?_, ?_⟩
 ·rw [List.nodup_append]
  refine ⟨h.nd, by simp, ?_⟩
  intro a ha b hb
  rw [List.mem_singleton] at hb
  subst hb
  rintro rfl
  exact hn ha
 ·intro x hx
  rcases List.mem_append.1 hx with hx | hx
  ·exact h.sub x hx
  ·rw [List.mem_singleton] at hx
   subst hx
   obtain ⟨h1, h2⟩ := Z0q hc
   exact List.mem_map.2 ⟨c, h2, h1⟩
theorem AncJ.add {p : Prog} {nm sx : Str} {t out : List Str} {c : Cls} (h : AncJ p nm (t ++ [sx]) out) (hc : clsFind p sx = some c) (hn : sx ∉ out) : AncJ p nm (t ++ upC c) (out ++ [sx]) := by
 have ha : Anc p nm sx := h.tsnd sx (List.mem_append_right _ List.mem_cons_self) c hc
 refine ⟨(h.sub1 hc hn).1, (h.sub1 hc hn).2, ?_, ?_, ?_, ?_⟩
 ·intro x hx
  rcases List.mem_append.1 hx with hx | hx
  ·exact h.snd x hx
  ·rw [List.mem_singleton.1 hx]; exact ha
 ·intro x hx d hd
  rcases List.mem_append.1 hx with hx | hx
  ·exact h.tsnd x (List.mem_append_left _ hx) d hd
  ·exact .step ha hc hx hd
 ·intro s hs' c' hc' u hu d hd
  rcases List.mem_append.1 hs' with hs' | hs'
  ·rcases h.cl s hs' c' hc' u hu d hd with h1 | h1
   ·exact .inl (List.mem_append_left _ h1)
   ·rcases List.mem_append.1 h1 with h2 | h2
    ·exact .inr (List.mem_append_left _ h2)
    ·exact .inl (List.mem_append_right _ h2)
  ·rw [List.mem_singleton] at hs'
   subst hs'
   rw [hc] at hc'; cases hc'
   exact .inr (List.mem_append_right _ hu)
 ·intro c' hc'
  rcases h.st c' hc' with h1 | h1
  ·exact .inl (List.mem_append_left _ h1)
  ·rcases List.mem_append.1 h1 with h2 | h2
   ·exact .inr (List.mem_append_left _ h2)
   ·exact .inl (List.mem_append_right _ h2)
theorem AncJ.lt {p : Prog} {nm sx : Str} {t out : List Str} {c : Cls} (h : AncJ p nm (t ++ [sx]) out) (hc : clsFind p sx = some c) (hn : sx ∉ out) : out.length + 1 ≤ p.classes.length := by
 have h4 := Z12 (h.sub1 hc hn).1 (h.sub1 hc hn).2
 simpa using h4
theorem AncJ.len {p : Prog} {nm : Str} {t out : List Str} (h : AncJ p nm t out) : out.length ≤ p.classes.length := by
 have h4 := Z12 h.nd h.sub
 simpa using h4
def MapR (p : Prog) (nm : Str) : AEnd → AHeap → Prop := fun e H => ∃ q out, e = .ret (.map q) ∧ H = [(q, .mp (setM out))] ∧ ∀ s, s ∈ out ↔ Anc p nm s
noncomputable def subP (p : Prog) (a b : Str) : Bool := open Classical in decide (Anc p a b)
def fitsBy (sub : Bool) (f : Fact) (t : Ty) : Bool :=
 if t.kind = 2 then f.kind == 1 else if t.kind = 3 then f.kind == 2 || (f.kind == 3 && sub) else if t.kind = 4 then f.kind == 2 || f.kind == 4 else if t.kind = 5 then f.kind == 2 || (f.kind == 5 && beqS f.cls t.cls) else false
theorem Zbb (a : Str) : beqS a a = true := beqS_iff.2 rfl
def ancRun (p : Prog) : Nat → List Str → List Str → Option (List Str)
 | 0, _, _ => none
 | n + 1, todo, out => match todo.getLast? with
  | none => some out
  | some s => match clsFind p s with
   | none => ancRun p n todo.dropLast out
   | some c => if inL out s then ancRun p n todo.dropLast out else ancRun p n (todo.dropLast ++ upC c) (out ++ [s])
def nA : Str := ⟨#[65]⟩
def nB : Str := ⟨#[66]⟩
def nC : Str := ⟨#[67]⟩
def lvCA : Cls := ⟨nA, zS, false, false, [], [], []⟩
def lvCB : Cls := ⟨nB, nA, false, false, [], [], []⟩
def lvCC : Cls := ⟨nC, nA, false, false, [], [], []⟩
def lvP : Prog := ⟨[lvCA, lvCB, lvCC], [], ⟨zS, zS, zS⟩⟩
end Go.Sx
namespace Go.Sx
open Go
structure LtOK {α : Type} (lt : α → α → Bool) : Prop where
 irr : ∀ x, lt x x = false
 asy : ∀ x y, lt x y = true → lt y x = false
 tr : ∀ x y z, lt y x = false → lt z y = false → lt z x = false
section
variable {α : Type} [Inhabited α]
def swp (l : List α) (i j : Nat) : List α := (l.set i (l.getD j default)).set j (l.getD i default)
theorem Z2k (l : List α) (i j : Nat) : (swp l i j).length = l.length := by simp [swp]
theorem Z3e {l : List α} {i j : Nat} (hi : i < l.length) (hj : j < l.length) (k : Nat) : (swp l i j).getD k default = if k = j then l.getD i default else if k = i then l.getD j default else l.getD k default := by
 unfold swp
 simp only [List.getD_eq_getElem?_getD, List.getElem?_set, List.length_set]
 by_cases h1 : j = k
 ·subst h1; simp [hj]
 ·by_cases h2 : i = k
  ·subst h2; simp [h1, Ne.symm h1, hi]
  ·simp [h1, h2, Ne.symm h1, Ne.symm h2]
theorem Z6x {l : List α} {i j : Nat} (hi : i < l.length) (hj : j < l.length) : (swp l i j).getD i default = l.getD j default := by
 rw [Z3e hi hj]; by_cases h : i = j
 ·subst h; simp
 ·simp [h]
theorem Zb2 {l : List α} {i j : Nat} (hi : i < l.length) (hj : j < l.length) : (swp l i j).getD j default = l.getD i default := by rw [Z3e hi hj]; simp
theorem Z1t {l : List α} {i j k : Nat} (hi : i < l.length) (hj : j < l.length) (h1 : k ≠ i) (h2 : k ≠ j) : (swp l i j).getD k default = l.getD k default := by rw [Z3e hi hj]; simp [h1, h2]
theorem Za8 {l : List α} {i j : Nat} (hi : i < l.length) (hj : j < l.length) : (swp l i j).Perm l := by
 unfold swp
 rw [show l.getD i default = l[i] from by simp [List.getD, hi], show l.getD j default = l[j] from by simp [List.getD, hj]]
 exact List.set_set_perm hi hj
inductive Sw (a b : Nat) (l : List α) : List α → Prop
 | refl : Sw a b l l
 | step {m : List α} (i j : Nat) (h : Sw a b l m) (hi : a ≤ i ∧ i < b) (hj : a ≤ j ∧ j < b) (hb : b ≤ m.length) : Sw a b l (swp m i j)
theorem Sw.len {a b : Nat} {l m : List α} (h : Sw a b l m) : m.length = l.length := by
 induction h with
 | refl => rfl
 | step i j _ _ _ _ ih => rw [Z2k, ih]
theorem Sw.out {a b : Nat} {l m : List α} (h : Sw a b l m) {k : Nat} (hk : k < a ∨ b ≤ k) : m.getD k default = l.getD k default := by
 induction h with
 | refl => rfl
 | step i j _ hi hj hb ih => rw [Z1t (by omega) (by omega) (by omega) (by omega), ih]
theorem Sw.all {a b : Nat} {l m : List α} (h : Sw a b l m) {Q : α → Prop} (hq : ∀ k, a ≤ k → k < b → Q (l.getD k default)) : ∀ k, a ≤ k → k < b → Q (m.getD k default) := by
 induction h with
 | refl => exact hq
 | step i j _ hi hj hb ih =>
  intro k h1 h2
  rw [Z3e (by omega) (by omega)]
  split
  ·exact ih i hi.1 hi.2
  ·split
   ·exact ih j hj.1 hj.2
   ·exact ih k h1 h2
theorem Sw.perm {a b : Nat} {l m : List α} (h : Sw a b l m) : m.Perm l := by
 induction h with
 | refl => exact .refl _
 | step i j _ hi hj hb ih => exact (Za8 (by omega) (by omega)).trans ih
theorem Sw.trans {a b : Nat} {l m r : List α} (h : Sw a b l m) (k : Sw a b m r) : Sw a b l r := by
 induction k with
 | refl => exact h
 | step i j _ hi hj hb ih => exact .step i j ih hi hj hb
theorem Sw.mono {a b a' b' : Nat} {l m : List α} (h : Sw a b l m) (ha : a' ≤ a) (hb' : b ≤ b') (hl : b' ≤ l.length) : Sw a' b' l m := by
 induction h with
 | refl => exact .refl
 | step i j h hi hj hb ih => exact .step i j ih (by omega) (by omega) (by rw [h.len]; exact hl)
variable {lt : α → α → Bool}
def SAdj (lt : α → α → Bool) (a b : Nat) (l : List α) : Prop := ∀ k, a < k → k < b → lt (l.getD k default) (l.getD (k - 1) default) = false
def SOn (lt : α → α → Bool) (a b : Nat) (l : List α) : Prop := ∀ i j, a ≤ i → i ≤ j → j < b → lt (l.getD j default) (l.getD i default) = false
theorem SAdj.on (hO : LtOK lt) {a b : Nat} {l : List α} (h : SAdj lt a b l) : SOn lt a b l := by
 intro i j h1 h2 h3
 induction j with
 | zero =>
  have : i = 0 := by omega
  subst this; exact hO.irr _
 | succ j ih =>
  rcases Nat.lt_or_ge j i with h4 | h4
  ·have : i = j + 1 := by omega
   subst this; exact hO.irr _
  ·exact hO.tr _ _ _ (ih h4 (by omega)) (h (j + 1) (by omega) h3)
theorem SAdj.refl1 {a b : Nat} {l : List α} (h : b ≤ a + 1) : SAdj lt a b l := fun k h1 h2 => by omega
structure Ins (lt : α → α → Bool) (a j i : Nat) (l : List α) : Prop where
 one : ∀ k, a < k → k ≤ i → k ≠ j → lt (l.getD k default) (l.getD (k - 1) default) = false
 two : j < i → a < j → lt (l.getD (j + 1) default) (l.getD (j - 1) default) = false
theorem Ins.start {a i : Nat} {l : List α} (h : SAdj lt a i l) : Ins lt a i i l := ⟨fun k h1 h2 h3 => h k h1 (by omega), fun h => by omega⟩
theorem Ins.step (hO : LtOK lt) {a j i : Nat} {l : List α} (h : Ins lt a j i l) (hj : a < j) (hi : j ≤ i) (hl : i < l.length) (hlt : lt (l.getD j default) (l.getD (j - 1) default) = true) : Ins lt a (j - 1) i (swp l j (j - 1)) := by
 have hjl : j < l.length := by omega
 have hjl1 : j - 1 < l.length := by omega
 refine ⟨fun k h1 h2 h3 => ?_, fun h1 h2 => ?_⟩
 ·by_cases e1 : k = j
  ·subst e1; rw [Z6x hjl hjl1, Zb2 hjl hjl1]; exact hO.asy _ _ hlt
  ·by_cases e2 : k = j + 1
   ·subst e2
    rw [Z1t hjl hjl1 (by omega) (by omega), show j + 1 - 1 = j from by omega, Z6x hjl hjl1]
    exact h.two (by omega) hj
   ·rw [Z1t hjl hjl1 e1 h3, Z1t hjl hjl1 (by omega) (by omega)]; exact h.one k h1 h2 e1
 ·rw [show j - 1 + 1 = j from by omega, Z6x hjl hjl1, Z1t hjl hjl1 (by omega) (by omega)]
  exact h.one (j - 1) h2 (by omega) (by omega)
theorem Ins.done {a j i : Nat} {l : List α} (h : Ins lt a j i l) (he : j ≤ a ∨ lt (l.getD j default) (l.getD (j - 1) default) = false) : SAdj lt a (i + 1) l := by
 intro k h1 h2
 by_cases e : k = j
 ·subst e; rcases he with he | he; omega; exact he
 ·exact h.one k h1 (by omega) e
def hp (l : List α) (f x : Nat) : α := l.getD (f + x) default
def Heap (lt : α → α → Bool) (lo hi f : Nat) (l : List α) : Prop := ∀ x c, lo ≤ x → (c = 2 * x + 1 ∨ c = 2 * x + 2) → c < hi → lt (hp l f x) (hp l f c) = false
structure Sift (lt : α → α → Bool) (lo hi f root : Nat) (l : List α) : Prop where
 one : ∀ x c, lo ≤ x → x ≠ root → (c = 2 * x + 1 ∨ c = 2 * x + 2) → c < hi → lt (hp l f x) (hp l f c) = false
 two : ∀ x c, lo ≤ x → (root = 2 * x + 1 ∨ root = 2 * x + 2) → (c = 2 * root + 1 ∨ c = 2 * root + 2) → c < hi → lt (hp l f x) (hp l f c) = false
theorem Sift.start {lo hi f : Nat} {l : List α} (h : Heap lt (lo + 1) hi f l) : Sift lt lo hi f lo l :=
 ⟨fun x c h1 h2 h3 h4 => h x c (by omega) h3 h4, fun x c h1 h2 => by omega⟩
theorem Z9u {l : List α} {f i j k : Nat} (hi : f + i < l.length) (hj : f + j < l.length) : hp (swp l (f + i) (f + j)) f k = if k = j then hp l f i else if k = i then hp l f j else hp l f k := by
 unfold hp; rw [Z3e hi hj]; simp only [Nat.add_left_cancel_iff]
theorem Sift.step (hO : LtOK lt) {lo hi f root c0 : Nat} {l : List α} (h : Sift lt lo hi f root l) (hlo : lo ≤ root) (hc : c0 = 2 * root + 1 ∨ c0 = 2 * root + 2) (hch : c0 < hi) (hl : f + hi ≤ l.length)
  (hmax : ∀ c, (c = 2 * root + 1 ∨ c = 2 * root + 2) → c < hi → lt (hp l f c0) (hp l f c) = false) (hlt : lt (hp l f root) (hp l f c0) = true) : Sift lt lo hi f c0 (swp l (f + root) (f + c0)) := by
 have h1 : f + root < l.length := by omega
 have h2 : f + c0 < l.length := by omega
 refine ⟨fun x c hx hne hcx hcl => ?_, fun x c hx hcx hcc hcl => ?_⟩
 ·rw [Z9u h1 h2, Z9u h1 h2, if_neg hne]
  by_cases e : x = root
  ·subst e
   rw [if_pos rfl]
   by_cases e2 : c = c0
   ·subst e2; rw [if_pos rfl]; exact hO.asy _ _ hlt
   ·rw [if_neg e2, if_neg (by omega)]; exact hmax c hcx hcl
  ·rw [if_neg e, if_neg (by omega : c ≠ c0)]
   by_cases e2 : c = root
   ·subst e2; rw [if_pos rfl]; exact h.two x c0 hx hcx hc hch
   ·rw [if_neg e2]; exact h.one x c hx e hcx hcl
 ·have e : x = root := by omega
  subst e
  rw [Z9u h1 h2, Z9u h1 h2, if_neg (by omega), if_pos rfl, if_neg (by omega), if_neg (by omega)]
  exact h.one c0 c (by omega) (by omega) hcc hcl
theorem Sift.leaf {lo hi f root : Nat} {l : List α} (h : Sift lt lo hi f root l) (hc : hi ≤ 2 * root + 1) : Heap lt lo hi f l := fun x c h1 h2 h3 => by
 by_cases e : x = root
 ·subst e; omega
 ·exact h.one x c h1 e h2 h3
theorem Sift.stop (hO : LtOK lt) {lo hi f root c0 : Nat} {l : List α} (h : Sift lt lo hi f root l) (hmax : ∀ c, (c = 2 * root + 1 ∨ c = 2 * root + 2) → c < hi → lt (hp l f c0) (hp l f c) = false) (hs : lt (hp l f root) (hp l f c0) = false) : Heap lt lo hi f l := fun x c h1 h2 h3 => by
 by_cases e : x = root
 ·subst e; exact hO.tr _ _ _ (hmax c h2 h3) hs
 ·exact h.one x c h1 e h2 h3
theorem Heap.top (hO : LtOK lt) {hi f : Nat} {l : List α} (h : Heap lt 0 hi f l) : ∀ x, x < hi → lt (hp l f 0) (hp l f x) = false := by
 intro x
 induction x using Nat.strongRecOn with
 | _ x ih =>
  intro hx
  by_cases e : x = 0
  ·subst e; exact hO.irr _
  ·exact hO.tr _ _ _ (h ((x - 1) / 2) x (by omega) (by omega) hx) (ih ((x - 1) / 2) (by omega) (by omega))
theorem Heap.none {hi f : Nat} {l : List α} {lo : Nat} (h : hi ≤ 2 * lo + 1) : Heap lt lo hi f l := fun x c h1 h2 h3 => by omega
structure Pops (lt : α → α → Bool) (a b i : Nat) (l : List α) : Prop where
 heap : Heap lt 0 i a l
 srt : SOn lt (a + i) b l
 le : ∀ x y, a ≤ x → x < a + i → a + i ≤ y → y < b → lt (l.getD y default) (l.getD x default) = false
theorem Pops.start {a b : Nat} {l : List α} (hab : a ≤ b) (h : Heap lt 0 (b - a) a l) : Pops lt a b (b - a) l :=
 ⟨h, fun i j h1 h2 h3 => by omega, fun x y h1 h2 h3 h4 => by omega⟩
theorem Pops.swap (hO : LtOK lt) {a b i : Nat} {l : List α} (h : Pops lt a b (i + 1) l) (hb : a + i < b) (hl : b ≤ l.length) :
  Heap lt 1 i a (swp l a (a + i)) ∧ SOn lt (a + i) b (swp l a (a + i)) ∧ ∀ x y, a ≤ x → x < a + i → a + i ≤ y → y < b → lt ((swp l a (a + i)).getD y default) ((swp l a (a + i)).getD x default) = false := by
 have ha : a < l.length := by omega
 have hi : a + i < l.length := by omega
 have top := h.heap.top hO
 have htop : ∀ x, a ≤ x → x < a + (i + 1) → lt (l.getD a default) (l.getD x default) = false := fun x h1 h2 => by
  have := top (x - a) (by omega)
  unfold hp at this
  rwa [show a + (x - a) = x from by omega, Nat.add_zero] at this
 refine ⟨fun x c h1 h2 h3 => ?_, fun x y h1 h2 h3 => ?_, fun x y h1 h2 h3 h4 => ?_⟩
 ·have := h.heap x c (by omega) h2 (by omega)
  unfold hp at this ⊢
  rwa [Z1t ha hi (by omega) (by omega), Z1t ha hi (by omega) (by omega)]
 ·by_cases e : y = a + i
  ·have : x = a + i := by omega
   subst e; subst this; exact hO.irr _
  ·rw [Z1t ha hi (by omega : y ≠ a) e]
   by_cases e2 : x = a + i
   ·subst e2; rw [Zb2 ha hi]; exact h.le a y (by omega) (by omega) (by omega) h3
   ·rw [Z1t ha hi (by omega) e2]; exact h.srt x y (by omega) h2 h3
 ·have hx : ∃ z, a ≤ z ∧ z < a + (i + 1) ∧ (swp l a (a + i)).getD x default = l.getD z default := by
   by_cases e : x = a
   ·subst e; exact ⟨x + i, by omega, by omega, Z6x ha hi⟩
   ·exact ⟨x, h1, by omega, Z1t ha hi e (by omega)⟩
  obtain ⟨z, z1, z2, z3⟩ := hx
  rw [z3]
  by_cases e : y = a + i
  ·subst e; rw [Zb2 ha hi]; exact htop z z1 z2
  ·rw [Z1t ha hi (by omega) e]; exact h.le z y z1 z2 (by omega) h4
theorem Pops.sift {a b i : Nat} {l m : List α} (hs : SOn lt (a + i) b l) (hle : ∀ x y, a ≤ x → x < a + i → a + i ≤ y → y < b → lt (l.getD y default) (l.getD x default) = false) (h : Sw a (a + i) l m) (hh : Heap lt 0 i a m) : Pops lt a b i m := by
 refine ⟨hh, fun x y h1 h2 h3 => ?_, fun x y h1 h2 h3 h4 => ?_⟩
 ·rw [h.out (.inr h1), h.out (.inr (by omega : a + i ≤ y))]; exact hs x y h1 h2 h3
 ·rw [h.out (.inr h3)]
  exact h.all (Q := fun z => lt (l.getD y default) z = false) (fun k h5 h6 => hle k y h5 h6 h3 h4) x h1 h2
structure Part (lt : α → α → Bool) (a b i j : Nat) (l : List α) : Prop where
 lo : ∀ k, a < k → k < i → lt (l.getD k default) (l.getD a default) = true
 hi : ∀ k, j < k → k < b → lt (l.getD k default) (l.getD a default) = false
structure PartR (lt : α → α → Bool) (a b m : Nat) (l : List α) : Prop where
 lo : ∀ k, a ≤ k → k < m → lt (l.getD k default) (l.getD m default) = true
 hi : ∀ k, m < k → k < b → lt (l.getD k default) (l.getD m default) = false
theorem Part.swap {a b i j : Nat} {l : List α} (h : Part lt a b i j l) (hai : a < i) (hij : i ≤ j) (hj : j < b) (hl : b ≤ l.length) (h1 : lt (l.getD i default) (l.getD a default) = false) (h2 : lt (l.getD j default) (l.getD a default) = true) :
  Part lt a b (i + 1) (j - 1) (swp l i j) := by
 have x : i < l.length := by omega
 have y : j < l.length := by omega
 refine ⟨fun k k1 k2 => ?_, fun k k1 k2 => ?_⟩
 ·rw [Z1t x y (by omega : a ≠ i) (by omega)]
  by_cases e : k = i
  ·subst e; rw [Z6x x y]; exact h2
  ·rw [Z1t x y e (by omega)]; exact h.lo k k1 (by omega)
 ·rw [Z1t x y (by omega : a ≠ i) (by omega)]
  by_cases e : k = j
  ·subst e; rw [Zb2 x y]; exact h1
  ·rw [Z3e x y, if_neg e, if_neg (by omega)]; exact h.hi k (by omega) k2
theorem Part.fin {a b i j : Nat} {l : List α} (h : Part lt a b i j l) (hij : i = j + 1) (ha : a ≤ j) (hj : j < b) (hl : b ≤ l.length) (hai : a < i) : PartR lt a b j (swp l j a) := by
 have x : j < l.length := by omega
 have y : a < l.length := by omega
 refine ⟨fun k k1 k2 => ?_, fun k k1 k2 => ?_⟩
 ·rw [Z6x x y]
  by_cases e : k = a
  ·subst e; rw [Zb2 x y]; exact h.lo j (by omega) (by omega)
  ·rw [Z1t x y (by omega) e]; exact h.lo k (by omega) (by omega)
 ·rw [Z6x x y, Z1t x y (by omega) (by omega)]; exact h.hi k k1 k2
structure PartE (lt : α → α → Bool) (a b i j : Nat) (l : List α) : Prop where
 lo : ∀ k, a < k → k < i → lt (l.getD a default) (l.getD k default) = false
 hi : ∀ k, j < k → k < b → lt (l.getD a default) (l.getD k default) = true
theorem PartE.swap {a b i j : Nat} {l : List α} (h : PartE lt a b i j l) (hai : a < i) (hij : i ≤ j) (hj : j < b) (hl : b ≤ l.length) (h1 : lt (l.getD a default) (l.getD i default) = true) (h2 : lt (l.getD a default) (l.getD j default) = false) :
  PartE lt a b (i + 1) (j - 1) (swp l i j) := by
 have x : i < l.length := by omega
 have y : j < l.length := by omega
 refine ⟨fun k k1 k2 => ?_, fun k k1 k2 => ?_⟩
 ·rw [Z1t x y (by omega : a ≠ i) (by omega)]
  by_cases e : k = i
  ·subst e; rw [Z6x x y]; exact h2
  ·rw [Z1t x y e (by omega)]; exact h.lo k k1 (by omega)
 ·rw [Z1t x y (by omega : a ≠ i) (by omega)]
  by_cases e : k = j
  ·subst e; rw [Zb2 x y]; exact h1
  ·rw [Z3e x y, if_neg e, if_neg (by omega)]; exact h.hi k (by omega) k2
def Bd (lt : α → α → Bool) (a b : Nat) (l : List α) : Prop := a = 0 ∨ ∀ k, a ≤ k → k < b → lt (l.getD k default) (l.getD (a - 1) default) = false
theorem Bd.sw {a b : Nat} {l m : List α} (h : Bd lt a b l) (k : Sw a b l m) : Bd lt a b m := by
 rcases h with h | h
 ·exact .inl h
 ·by_cases e : a = 0
  ·exact .inl e
  ·refine .inr ?_
   rw [k.out (.inl (by omega : a - 1 < a))]
   exact k.all (Q := fun z => lt z (l.getD (a - 1) default) = false) h
structure Rest (lt : α → α → Bool) (a0 b0 : Nat) (l0 : List α) (a b : Nat) (l : List α) : Prop where
 ha : a0 ≤ a
 hb : b ≤ b0
 hab : a ≤ b
 sw : Sw a0 b0 l0 l
 bd : Bd lt a b l
 fin : ∀ m, Sw a b l m → SOn lt a b m → SOn lt a0 b0 m
theorem Rest.start {a b : Nat} {l : List α} (hab : a ≤ b) (h : Bd lt a b l) : Rest lt a b l a b l := ⟨Nat.le_refl _, Nat.le_refl _, hab, .refl, h, fun m _ h => h⟩
theorem Rest.move {a0 b0 a b : Nat} {l0 l m : List α} (h : Rest lt a0 b0 l0 a b l) (hl : b0 ≤ l0.length) (k : Sw a b l m) : Rest lt a0 b0 l0 a b m :=
 ⟨h.ha, h.hb, h.hab, h.sw.trans (k.mono h.ha h.hb (by rw [h.sw.len]; exact hl)), h.bd.sw k, fun r hr hs => h.fin r (k.trans hr) hs⟩
theorem Rest.equal (hO : LtOK lt) {a0 b0 a b i j : Nat} {l0 l : List α} (h : Rest lt a0 b0 l0 a b l) (hl : b0 ≤ l0.length) (ha : 0 < a) (hp : lt (l.getD (a - 1) default) (l.getD a default) = false) (h2 : PartE lt a b i j l) (hij : i = j + 1) (hai : a < i) (hib : i ≤ b) : Rest lt a0 b0 l0 i b l := by
 have hbd : ∀ k, a ≤ k → k < b → lt (l.getD k default) (l.getD (a - 1) default) = false := by
  rcases h.bd with h3 | h3
  ·omega
  ·exact h3
 have hll : b ≤ l.length := by rw [h.sw.len]; have := h.hb; omega
 have lo : ∀ k, a ≤ k → k < i → lt (l.getD a default) (l.getD k default) = false := fun k k1 k2 => by
  by_cases e : k = a
  ·subst e; exact hO.irr _
  ·exact h2.lo k (by omega) k2
 refine ⟨by have := h.ha; omega, h.hb, hib, h.sw, .inr fun k k1 k2 => ?_, fun m hm hs => ?_⟩
 ·exact hO.tr _ _ _ (lo (i - 1) (by omega) (by omega)) (hO.asy _ _ (h2.hi k (by omega) k2))
 ·refine h.fin m (hm.mono (by omega) (Nat.le_refl _) hll) ?_
  intro x y h1 h3 h4
  by_cases e : i ≤ x
  ·exact hs x y e h3 h4
  ·rw [hm.out (.inl (by omega : x < i))]
   by_cases e2 : i ≤ y
   ·have := hm.all (Q := fun z => lt (l.getD a default) z = true) (fun k k1 k2 => h2.hi k (by omega) k2) y e2 h4
    exact hO.tr _ _ _ (lo x h1 (by omega)) (hO.asy _ _ this)
   ·rw [hm.out (.inl (by omega : y < i))]
    exact hO.tr _ _ _ (lo x h1 (by omega)) (hO.tr _ _ _ hp (hbd y (by omega) h4))
theorem PartR.swL {a b m : Nat} {l r : List α} (h : PartR lt a b m l) (k : Sw a m l r) : PartR lt a b m r := by
 refine ⟨?_, fun x h1 h2 => ?_⟩
 ·rw [k.out (.inr (Nat.le_refl m))]
  exact k.all (Q := fun z => lt z (l.getD m default) = true) h.lo
 ·rw [k.out (.inr (Nat.le_refl m)), k.out (.inr (by omega : m ≤ x))]; exact h.hi x h1 h2
theorem PartR.swR {a b m : Nat} {l r : List α} (h : PartR lt a b m l) (k : Sw (m + 1) b l r) : PartR lt a b m r := by
 refine ⟨fun x h1 h2 => ?_, fun x h1 h2 => ?_⟩
 ·rw [k.out (.inl (by omega : x < m + 1)), k.out (.inl (by omega : m < m + 1))]; exact h.lo x h1 h2
 ·rw [k.out (.inl (by omega : m < m + 1))]
  exact k.all (Q := fun z => lt z (l.getD m default) = false) (fun k k1 k2 => h.hi k (by omega) k2) x (by omega) h2
theorem PartR.glue (hO : LtOK lt) {a b m : Nat} {l : List α} (h : PartR lt a b m l) (h1 : SOn lt a m l) (h2 : SOn lt (m + 1) b l) : SOn lt a b l := by
 intro x y k1 k2 k3
 rcases Nat.lt_trichotomy y m with e | e | e
 ·exact h1 x y k1 k2 e
 ·subst e
  by_cases e2 : x = y
  ·subst e2; exact hO.irr _
  ·exact hO.asy _ _ (h.lo x k1 (by omega))
 ·have hy := h.hi y e k3
  rcases Nat.lt_trichotomy x m with e2 | e2 | e2
  ·exact hO.tr _ _ _ (hO.asy _ _ (h.lo x k1 e2)) hy
  ·subst e2; exact hy
  ·exact h2 x y e2 k2 k3
theorem Rest.lower (hO : LtOK lt) {a0 b0 a b m : Nat} {l0 l r : List α} (h : Rest lt a0 b0 l0 a b l) (hl : b0 ≤ l0.length) (hm : a ≤ m ∧ m < b) (hp : PartR lt a b m l) (k : Sw a m l r) (hs : SOn lt a m r) : Rest lt a0 b0 l0 (m + 1) b r := by
 have hll : b ≤ l.length := by rw [h.sw.len]; have := h.hb; omega
 have h2 := h.move hl (k.mono (Nat.le_refl _) (by omega) hll)
 have hp2 := hp.swL k
 refine ⟨by have := h.ha; omega, h.hb, by omega, h2.sw, .inr fun x x1 x2 => hp2.hi x (by omega) x2, fun q hq hsq => ?_⟩
 have hrl : b ≤ r.length := by rw [k.len]; exact hll
 refine h2.fin q (hq.mono (by omega) (Nat.le_refl _) hrl) ?_
 refine (hp2.swR hq).glue hO ?_ hsq
 intro x y x1 x2 x3
 rw [hq.out (.inl (by omega : x < m + 1)), hq.out (.inl (by omega : y < m + 1))]; exact hs x y x1 x2 x3
theorem Rest.upper (hO : LtOK lt) {a0 b0 a b m : Nat} {l0 l r : List α} (h : Rest lt a0 b0 l0 a b l) (hl : b0 ≤ l0.length) (hm : a ≤ m ∧ m < b) (hp : PartR lt a b m l) (k : Sw (m + 1) b l r) (hs : SOn lt (m + 1) b r) : Rest lt a0 b0 l0 a m r := by
 have hll : b ≤ l.length := by rw [h.sw.len]; have := h.hb; omega
 have h2 := h.move hl (k.mono (by omega) (Nat.le_refl _) hll)
 have hp2 := hp.swR k
 have hrl : b ≤ r.length := by rw [k.len]; exact hll
 refine ⟨h.ha, by have := h.hb; omega, hm.1, h2.sw, ?_, fun q hq hsq => ?_⟩
 ·rcases h2.bd with h3 | h3
  ·exact .inl h3
  ·exact .inr fun x x1 x2 => h3 x x1 (by omega)
 refine h2.fin q (hq.mono (Nat.le_refl _) (by omega) hrl) ?_
 refine (hp2.swL hq).glue hO hsq ?_
 intro x y x1 x2 x3
 rw [hq.out (.inr (by omega : m ≤ x)), hq.out (.inr (by omega : m ≤ y))]; exact hs x y x1 x2 x3
theorem SAdj.swp_ge {a u i j : Nat} {l : List α} (h : SAdj lt a u l) (hi : u ≤ i) (hj : u ≤ j) (hil : i < l.length) (hjl : j < l.length) : SAdj lt a u (swp l i j) := fun k h1 h2 => by
 rw [Z1t hil hjl (by omega) (by omega), Z1t hil hjl (by omega) (by omega)]; exact h k h1 h2
theorem SAdj.le {a u v : Nat} {l : List α} (h : SAdj lt a u l) (hv : v ≤ u) : SAdj lt a v l := fun k h1 h2 => h k h1 (by omega)
theorem SAdj.succ {a u : Nat} {l : List α} (h : SAdj lt a u l) (hv : lt (l.getD u default) (l.getD (u - 1) default) = false) : SAdj lt a (u + 1) l := fun k h1 h2 => by
 rcases Nat.lt_succ_iff_lt_or_eq.1 h2 with h3 | h3
 ·exact h k h1 h3
 ·subst h3; exact hv
theorem Bd.gt {a b j : Nat} {l : List α} (h : Bd lt a b l) (h1 : a ≤ j) (h2 : j < b) (h0 : 1 ≤ j) (hlt : lt (l.getD j default) (l.getD (j - 1) default) = true) : a < j := by
 rcases Nat.lt_or_ge a j with h3 | h3
 ·exact h3
 ·have e : j = a := by omega
  subst e
  rcases h with h | h
  ·omega
  ·rw [h j (Nat.le_refl _) h2] at hlt; cases hlt
theorem Bd.le {a b c : Nat} {l : List α} (h : Bd lt a b l) (hc : c ≤ b) : Bd lt a c l := by
 rcases h with h | h
 ·exact .inl h
 ·exact .inr fun k h1 h2 => h k h1 (by omega)
theorem PartR.bd {a b m : Nat} {l : List α} (h : PartR lt a b m l) : Bd lt (m + 1) b l := .inr fun k h1 h2 => h.hi k (by omega) h2
end
end Go.Sx
namespace Go.Sx
open Go
structure LtT {α : Type} (lt : α → α → Bool) : Prop where
 ok : LtOK lt
 tot : ∀ x y, lt x y = false → lt y x = false → x = y
section
variable {α : Type} [Inhabited α] [DecidableEq α] {lt : α → α → Bool}
def hasG (l : List α) (x : α) : Bool := l.any fun y => decide (y = x)
theorem hasG_mem {l : List α} {x : α} : hasG l x = true ↔ x ∈ l := by unfold hasG; simp
def ddO (o : List α) (s : α) : List α := if hasG o s then o else o ++ [s]
def ddG (l : List α) : List α := l.foldl ddO []
theorem Zf2 (l : List α) : (ddG l).length ≤ l.length := by
 have key : ∀ (l o : List α), (l.foldl ddO o).length ≤ o.length + l.length := by
  intro l
  induction l with
  | nil => intro o; simp
  | cons x l ih =>
   intro o
   have h := ih (ddO o x)
   have h2 : (ddO o x).length ≤ o.length + 1 := by unfold ddO; split <;> simp
   simp only [List.foldl_cons, List.length_cons]; omega
 simpa [ddG] using key l []
theorem Zf3 (l : List α) (s : α) : s ∈ ddG l ↔ s ∈ l := by
 have key : ∀ (l o : List α), s ∈ l.foldl ddO o ↔ s ∈ o ∨ s ∈ l := by
  intro l
  induction l with
  | nil => intro o; simp
  | cons x l ih =>
   intro o
   rw [List.foldl_cons, ih]
   unfold ddO
   split
   ·rename_i h
    have h := hasG_mem.1 h
    constructor
    ·rintro (h1 | h1); exact .inl h1; exact .inr (List.mem_cons_of_mem _ h1)
    ·rintro (h1 | h1); exact .inl h1; rcases List.mem_cons.1 h1 with rfl | h1; exact .inl h; exact .inr h1
   ·simp [or_assoc]
 simpa [ddG] using key l []
theorem Zbj (l : List α) : (ddG l).Nodup := by
 have key : ∀ (l o : List α), o.Nodup → (l.foldl ddO o).Nodup := by
  intro l
  induction l with
  | nil => intro o h; exact h
  | cons x l ih =>
   intro o h
   refine ih _ ?_
   unfold ddO
   split
   ·exact h
   ·rename_i h1
    rw [List.nodup_append]
    refine ⟨h, by simp, fun a ha b hb => ?_⟩
    rw [List.mem_singleton] at hb; subst hb
    rintro rfl; exact h1 (hasG_mem.2 ha)
 exact key l [] List.nodup_nil
theorem Z4j {l : List α} {i : Nat} (h : i < l.length) : l.getD i default = l[i] := by simp [List.getD, h]
def insG (lt : α → α → Bool) : Nat → List α → List α
 | 0, l => l
 | k + 1, l => if lt (l.getD (k + 1) default) (l.getD k default) then insG lt k (swp l (k + 1) k) else l
def outG (lt : α → α → Bool) : Nat → Nat → List α → List α
 | 0, _, l => l
 | f + 1, i, l => outG lt f (i + 1) (insG lt i l)
def risG (lt : α → α → Bool) (l : List α) : List α := outG lt ((ddG l).length - 1) 1 (ddG l)
theorem Z6o : ∀ (k : Nat) (l : List α), (insG lt k l).length = l.length
 | 0, _ => rfl
 | k + 1, l => by unfold insG; split; rw [Z6o, Z2k]; rfl
theorem Z7v : ∀ (k : Nat) (l : List α), k < l.length → (insG lt k l).Perm l
 | 0, _, _ => .refl _
 | k + 1, l, h => by
  unfold insG
  split
  ·exact (Z7v k _ (by rw [Z2k]; omega)).trans (Za8 h (by omega))
  ·exact .refl _
theorem Z80 : ∀ (f i : Nat) (l : List α), i + f ≤ l.length → (outG lt f i l).Perm l
 | 0, _, _, _ => .refl _
 | f + 1, i, l, h => by
  unfold outG
  exact (Z80 f (i + 1) _ (by rw [Z6o]; omega)).trans (Z7v i l (by omega))
theorem Z41 (l : List α) : (risG lt l).Perm (ddG l) := by
 unfold risG
 cases h : (ddG l).length with
 | zero => exact .refl _
 | succ n => exact Z80 _ _ _ (by omega)
theorem Z40 (l : List α) (s : α) : s ∈ risG lt l ↔ s ∈ l := ((Z41 l).mem_iff).trans (Zf3 l s)
theorem Z6v (l : List α) : (risG lt l).length ≤ l.length := by rw [(Z41 l).length_eq]; exact Zf2 l
theorem Z6a (l : List α) : (risG lt l).Nodup := (Z41 l).nodup_iff.2 (Zbj l)
variable (hO : LtT lt)
include hO
theorem Z9v : ∀ (k i : Nat) (l : List α), Ins lt 0 k i l → k ≤ i → i < l.length → SAdj lt 0 (i + 1) (insG lt k l)
 | 0, i, l, h, _, _ => h.done (.inl (Nat.le_refl _))
 | k + 1, i, l, h, hk, hl => by
  unfold insG
  cases hlt : lt (l.getD (k + 1) default) (l.getD k default) with
  | true =>
   rw [if_pos rfl]
   exact Z9v k i _ (h.step hO.ok (by omega) hk hl hlt) (by omega) (by rw [Z2k]; exact hl)
  | false => exact h.done (.inr hlt)
theorem Za3 : ∀ (f i : Nat) (l : List α), SAdj lt 0 i l → i + f ≤ l.length → SAdj lt 0 (i + f) (outG lt f i l)
 | 0, i, l, h, _ => h
 | f + 1, i, l, h, hl => by
  unfold outG
  rw [show i + (f + 1) = i + 1 + f from by omega]
  exact Za3 f (i + 1) _ (Z9v hO i i l (Ins.start h) (Nat.le_refl _) (by omega)) (by rw [Z6o]; omega)
theorem Za5 (l : List α) : SOn lt 0 (risG lt l).length (risG lt l) := by
 have hl : (risG lt l).length = (ddG l).length := (Z41 l).length_eq
 rw [hl]
 unfold risG
 cases h : (ddG l).length with
 | zero => intro i j h1 h2 h3; omega
 | succ n =>
  have := Za3 hO n 1 (ddG l) (SAdj.refl1 (by omega)) (by omega)
  rw [show n + 1 - 1 = n from by omega, show n + 1 = 1 + n from by omega]
  exact this.on hO.ok
theorem SOn.pwG {m : List α} (h : SOn lt 0 m.length m) : m.Pairwise fun x y => lt y x = false := by
 rw [List.pairwise_iff_getElem]
 intro i j hi hj hij
 have := h i j (by omega) (by omega) hj
 rwa [Z4j hj, Z4j hi] at this
theorem SOn.uniqG {m r : List α} (hp : m.Perm r) (hm : SOn lt 0 m.length m) (hr : SOn lt 0 r.length r) : m = r :=
 List.Perm.eq_of_pairwise (fun a b _ _ h k => hO.tot a b k h) (SOn.pwG hO hm) (SOn.pwG hO hr) hp
theorem Z97 {m l : List α} (hn : m.Nodup) (hs : SOn lt 0 m.length m) (hm : ∀ s, s ∈ m ↔ s ∈ l) : m = risG lt l := by
 refine SOn.uniqG hO ?_ hs (Za5 hO l)
 exact (List.perm_ext_iff_of_nodup hn (Z6a l)).2 fun s => (hm s).trans (Z40 l s).symm
theorem Zfo {a b : List α} (h : ∀ x, x ∈ a ↔ x ∈ b) : risG lt a = risG lt b := Z97 hO (Z6a a) (Za5 hO a) fun s => (Z40 a s).trans (h s)
omit hO
def riseG (lt : α → α → Bool) (l : List α) : Bool := (List.range l.length).all fun i => Nat.beq i 0 || lt (l.getD (i - 1) default) (l.getD i default)
include hO
end
end Go.Sx
namespace Go.Sx
open Go
def ltS (a b : Str) : Bool := Op.bytesLess a.toList b.toList
def ddS (o : List Str) (s : Str) : List Str := if inL o s then o else o ++ [s]
def dd (l : List Str) : List Str := l.foldl ddS []
def swapS (l : List Str) (i j : Nat) : List Str := (l.set i (l.getD j default)).set j (l.getD i default)
def insK : Nat → List Str → List Str
 | 0, l => l
 | k + 1, l => if ltS (l.getD (k + 1) default) (l.getD k default) then insK k (swapS l (k + 1) k) else l
def outF : Nat → Nat → List Str → List Str
 | 0, _, l => l
 | f + 1, i, l => outF f (i + 1) (insK i l)
def risF (l : List Str) : List Str := outF ((dd l).length - 1) 1 (dd l)
theorem Zfi {l : List Str} {i : Nat} (h : i < l.length) : l.getD i default = l[i] := by simp [List.getD, h]
def hasC (p : Prog) (s : Str) : Bool := (clsFind p s).isSome
def addS (p : Prog) (o : List Str) (u : Str) : List Str := if hasC p u && !inL o u then o ++ [u] else o
def addU (p : Prog) (l o : List Str) : List Str := l.foldl (addS p) o
theorem Z9a (p : Prog) : ∀ (l o : List Str), ∃ r, addU p l o = o ++ r
 | [], o => ⟨[], by simp [addU]⟩
 | x :: l, o => by
  obtain ⟨r, h⟩ := Z9a p l (addS p o x)
  have h2 : ∃ r2, addS p o x = o ++ r2 := by unfold addS; split; exact ⟨[x], rfl⟩; exact ⟨[], by simp⟩
  obtain ⟨r2, h2⟩ := h2
  exact ⟨r2 ++ r, by rw [show addU p (x :: l) o = addU p l (addS p o x) from rfl, h, h2]; simp⟩
theorem Z2n (p : Prog) (s : Str) : ∀ (l o : List Str), s ∈ addU p l o ↔ s ∈ o ∨ (s ∈ l ∧ hasC p s = true)
 | [], o => by simp [addU]
 | x :: l, o => by
  rw [show addU p (x :: l) o = addU p l (addS p o x) from rfl, Z2n p s l]
  unfold addS
  cases hx : hasC p x with
  | false =>
   simp only [Bool.false_and, Bool.false_eq_true, if_false, List.mem_cons]
   constructor
   ·rintro (h | ⟨h, h2⟩); exact .inl h; exact .inr ⟨.inr h, h2⟩
   ·rintro (h | ⟨rfl | h, h2⟩); exact .inl h; rw [hx] at h2; cases h2; exact .inr ⟨h, h2⟩
  | true =>
   cases hi : inL o x with
   | true =>
    have hi := inL_mem.1 hi
    simp only [Bool.not_true, Bool.and_false, Bool.false_eq_true, if_false, List.mem_cons]
    constructor
    ·rintro (h | ⟨h, h2⟩); exact .inl h; exact .inr ⟨.inr h, h2⟩
    ·rintro (h | ⟨rfl | h, h2⟩); exact .inl h; exact .inl hi; exact .inr ⟨h, h2⟩
   | false =>
    simp only [Bool.not_false, Bool.and_true, if_true, List.mem_append, List.mem_cons, List.not_mem_nil, or_false]
    constructor
    ·rintro ((h | rfl) | ⟨h, h2⟩); exact .inl h; exact .inr ⟨.inl rfl, hx⟩; exact .inr ⟨.inr h, h2⟩
    ·rintro (h | ⟨rfl | h, h2⟩); exact .inl (.inl h); exact .inl (.inr rfl); exact .inr ⟨h, h2⟩
theorem Z5z (p : Prog) : ∀ (l o : List Str), o.Nodup → (addU p l o).Nodup
 | [], o, h => h
 | x :: l, o, h => by
  refine Z5z p l _ ?_
  unfold addS
  split
  ·rename_i h1
   rw [List.nodup_append]
   refine ⟨h, by simp, fun a ha b hb => ?_⟩
   rw [List.mem_singleton] at hb; subst hb
   rintro rfl
   rw [inL_mem.2 ha] at h1; simp at h1
  ·exact h
theorem Z3u {p : Prog} {s : Str} (h : hasC p s = true) : ∃ c, clsFind p s = some c := Option.isSome_iff_exists.1 h
theorem Z6n {p : Prog} {s : Str} (h : hasC p s = true) : s ∈ p.classes.map Cls.name := by
 obtain ⟨c, h⟩ := Z3u h
 obtain ⟨h1, h2⟩ := Z0q h
 exact List.mem_map.2 ⟨c, h2, h1⟩
structure AncB (p : Prog) (nm : Str) (out : List Str) (i : Nat) : Prop where
 nd : out.Nodup
 has : ∀ x, x ∈ out → hasC p x = true
 snd : ∀ x, x ∈ out → Anc p nm x
 st : hasC p nm = true → nm ∈ out
 cl : ∀ j, j < i → ∀ s, out[j]? = some s → ∀ c, clsFind p s = some c → ∀ u, u ∈ upC c → hasC p u = true → u ∈ out
 le : i ≤ out.length
theorem AncB.len {p : Prog} {nm : Str} {out : List Str} {i : Nat} (h : AncB p nm out i) : out.length ≤ p.classes.length := by
 have := Z12 h.nd (fun x hx => Z6n (h.has x hx))
 simpa using this
theorem AncB.step {p : Prog} {nm : Str} {out : List Str} {i : Nat} (h : AncB p nm out i) (hi : i < out.length) {c : Cls} (hc : clsFind p out[i] = some c) : AncB p nm (addU p (upC c) out) (i + 1) := by
 obtain ⟨r, hr⟩ := Z9a p (upC c) out
 have ha := h.snd _ (List.getElem_mem hi)
 refine ⟨Z5z p _ _ h.nd, ?_, ?_, fun h2 => (Z2n ..).2 (.inl (h.st h2)), ?_, ?_⟩
 ·intro x hx
  rcases (Z2n ..).1 hx with h1 | h1
  ·exact h.has x h1
  ·exact h1.2
 ·intro x hx
  rcases (Z2n ..).1 hx with h1 | h1
  ·exact h.snd x h1
  ·obtain ⟨d, hd⟩ := Z3u h1.2
   exact .step ha hc h1.1 hd
 ·intro j hj s hs d hd u hu hh
  have hjl : j < out.length := by omega
  have hs' : out[j]? = some s := by rw [hr, List.getElem?_append_left hjl] at hs; exact hs
  rcases Nat.lt_succ_iff_lt_or_eq.1 hj with h1 | h1
  ·exact (Z2n ..).2 (.inl (h.cl j h1 s hs' d hd u hu hh))
  ·subst h1
   rw [List.getElem?_eq_getElem hjl] at hs'; cases hs'
   rw [hc] at hd; cases hd
   exact (Z2n ..).2 (.inr ⟨hu, hh⟩)
 ·rw [hr, List.length_append]; omega
theorem AncB.fin {p : Prog} {nm : Str} {out : List Str} {i : Nat} (h : AncB p nm out i) (hi : ¬ i < out.length) (s : Str) : s ∈ out ↔ Anc p nm s := by
 refine ⟨h.snd s, fun ha => ?_⟩
 induction ha with
 | base hc => exact h.st (by simp [hasC, hc])
 | step _ hc hu hd ih =>
  obtain ⟨j, hj, e⟩ := List.getElem_of_mem ih
  exact h.cl j (by omega) _ (by rw [List.getElem?_eq_getElem hj, e]) _ hc _ hu (by simp [hasC, hd])
noncomputable def chk1 (p : Prog) (c : Cls) : Int :=
 if !beqS c.super zS && !hasC p c.super then 7 else if c.ifaces.any fun s => !hasC p s then 7 else if !beqS c.super zS && ifaceP p c.super then 9 else if c.ifaces.any fun s => !ifaceP p s then 9 else 0
noncomputable def chk2 (p : Prog) (c : Cls) : Bool := (!beqS c.super zS && subP p c.super c.name) || c.ifaces.any fun s => subP p s c.name
noncomputable def checkP (p : Prog) : Int × Str := match p.classes.find? fun c => chk1 p c != 0 with
 | some c => (chk1 p c, c.name)
 | none => match p.classes.find? fun c => chk2 p c with
  | some c => (8, c.name)
  | none => (0, zS)
structure SoundP (p : Prog) : Prop where
 one : ∀ c, c ∈ p.classes → chk1 p c = 0
 two : ∀ c, c ∈ p.classes → chk2 p c = false
noncomputable def f1 (p : Prog) (c : Cls) : Bool := chk1 p c != 0
def nNo : Str := ⟨#[78, 111]⟩
def nearK (k : Int) : Int := (k.tmod 7 + 7).tmod 7
def nearF (p : Prog) (f : Fact) (k : Int) : Fact :=
 ⟨nearK f.kind, if nearK f.kind = 3 ∨ nearK f.kind = 5 then (if 0 < p.classes.length ∧ k < 250 then (p.classes.getD (k.tmod p.classes.length).toNat default).name else nNo) else zS⟩
end Go.Sx
namespace Go.Sx
open Go
theorem Zed : ∀ l : List UInt8, Op.bytesLess l l = false
 | [] => rfl
 | x :: l => by simp [Op.bytesLess, Zed l]
theorem Zec : ∀ l r : List UInt8, Op.bytesLess l r = true → Op.bytesLess r l = false
 | [], [], h => rfl
 | [], _ :: _, h => rfl
 | _ :: _, [], h => by simp [Op.bytesLess] at h
 | x :: l, y :: r, h => by
  simp only [Op.bytesLess] at h ⊢
  by_cases h1 : x < y
  ·have h2 : ¬ y < x := fun h => by simp [UInt8.lt_iff_toNat_lt] at h h1; omega
   have h3 : ¬ y = x := fun e => by subst e; simp at h1
   simp [h2, h3]
  ·by_cases h2 : x = y
   ·subst h2; simp at h; simp [Zec l r h]
   ·simp [h1, h2] at h
theorem Zfw : ∀ x y z : List UInt8, Op.bytesLess y x = false → Op.bytesLess z y = false → Op.bytesLess z x = false
 | [], _, [], _, _ => rfl
 | [], _, _ :: _, _, _ => rfl
 | _ :: _, [], _, h, _ => by simp [Op.bytesLess] at h
 | _ :: _, _ :: _, [], _, h => by simp [Op.bytesLess] at h
 | a :: x, b :: y, c :: z, h, k => by
  simp only [Op.bytesLess] at h k ⊢
  have ih := Zfw x y z
  simp only [UInt8.lt_iff_toNat_lt, Bool.or_eq_false_iff, Bool.and_eq_false_iff, decide_eq_false_iff_not, beq_eq_false_iff_ne, ne_eq] at h k ⊢
  refine ⟨by omega, ?_⟩
  by_cases e : c = a
  ·subst e
   have e2 : b = c := UInt8.toNat_inj.1 (by omega)
   subst e2
   exact .inr (ih (h.2.resolve_left (fun h => h rfl)) (k.2.resolve_left (fun h => h rfl)))
  ·exact .inl e
theorem ltS_ok : LtOK ltS := ⟨fun x => Zed _, fun x y h => Zec _ _ h, fun x y z h k => Zfw _ _ _ h k⟩
end Go.Sx
namespace Go.Sx
open Go
theorem Z9e : ∀ x y : List UInt8, (Op.bytesLess x y || x == y) = !Op.bytesLess y x
 | [], [] => rfl
 | [], _ :: _ => by simp [Op.bytesLess]
 | _ :: _, [] => by simp [Op.bytesLess]
 | a :: x, b :: y => by
  have ih := Z9e x y
  by_cases h1 : a < b
  ·have h2 : ¬ b < a := fun h => by simp [UInt8.lt_iff_toNat_lt] at h h1; omega
   have h3 : ¬ b = a := fun e => by subst e; simp at h1
   simp [Op.bytesLess, h1, h2, h3]
  ·by_cases h2 : b < a
   ·have h3 : ¬ a = b := fun e => by subst e; simp at h2
    simp [Op.bytesLess, h1, h2, h3]
   ·have h3 : a = b := UInt8.toNat_inj.1 (by simp [UInt8.lt_iff_toNat_lt] at h1 h2; omega)
    subst h3
    simp [Op.bytesLess] at ih ⊢
    exact ih
theorem Zfj (x y : Str) : (Op.bytesLess x.toList y.toList || x.toList == y.toList) = !ltS y x := Z9e _ _
theorem Zcb {x y : Str} (h : ltS x y = false) (k : ltS y x = false) : x = y := by
 have h2 := Zfj x y
 rw [k] at h2
 have h3 : Op.bytesLess x.toList y.toList = false := h
 rw [h3] at h2
 have h4 : beqS x y = true := by unfold beqS; simpa using h2
 exact beqS_iff.1 h4
def longS (s : Str) : Bool := decide (s.size > 64)
def allN (g : Nat → Bool) (n : Nat) : Bool := (List.range n).all fun i => Nat.beq i 0 || g i
def gS (l : List Str) (k : Nat) : Bool := ltS (l.getD (k - 1) default) (l.getD k default)
def rightL (l : List Str) : Bool := decide (l.length ≤ 1024) && !l.any longS && allN (gS l) l.length
def findL (l : List Str) (s : Str) : Int := if rightL l then idxFrom (fun x => beqS x s) l 0 else -1
def sameT : List Str → List Str → Bool
 | [], [] => true
 | x :: l, y :: r => beqS x y && sameT l r
 | _, _ => false
def makeP (l : List Str) : List Str × Int := if l.any longS || decide (1024 < (dd l).length) then ([], 3) else (risF l, 0)
end Go.Sx
namespace Go.Sx
open Go
theorem Anc.trans {p : Prog} {a b c : Str} (h : Anc p a b) (k : Anc p b c) : Anc p a c := by
 induction k with
 | base _ => exact h
 | step _ hc hu hd ih => exact .step ih hc hu hd
theorem Anc.known {p : Prog} {a b : Str} (h : Anc p a b) : hasC p b = true := by
 cases h with
 | base hc => simp [hasC, hc]
 | step _ _ _ hd => simp [hasC, hd]
theorem subP_iff {p : Prog} {a b : Str} : subP p a b = true ↔ Anc p a b := by unfold subP; simp
theorem Zcx {p : Prog} {a b : Str} (h : subP p a b = false) : ¬ Anc p a b := fun k => by rw [subP_iff.2 k] at h; cases h
theorem beqS_no {a b : Str} : beqS a b = false ↔ a ≠ b := by
 cases h : beqS a b with
 | true => have := beqS_iff.1 h; simp [this]
 | false => simp; intro e; subst e; rw [Zbb] at h; cases h
structure UpOK (p : Prog) (c : Cls) : Prop where
 sup : c.super ≠ zS → hasC p c.super = true ∧ ifaceP p c.super = false ∧ ¬ Anc p c.super c.name
 ifs : ∀ s, s ∈ c.ifaces → hasC p s = true ∧ ifaceP p s = true ∧ ¬ Anc p s c.name
theorem SoundP.ok {p : Prog} (h : SoundP p) {c : Cls} (hc : c ∈ p.classes) : UpOK p c := by
 have h1 := h.one c hc
 have h2 := h.two c hc
 unfold chk1 at h1
 unfold chk2 at h2
 have h3 : (!beqS c.super zS && !hasC p c.super) = false ∧ (c.ifaces.any fun s => !hasC p s) = false ∧ (!beqS c.super zS && ifaceP p c.super) = false ∧ (c.ifaces.any fun s => !ifaceP p s) = false := by
  revert h1
  generalize (!beqS c.super zS && !hasC p c.super) = a
  generalize (c.ifaces.any fun s => !hasC p s) = b
  generalize (!beqS c.super zS && ifaceP p c.super) = d
  generalize (c.ifaces.any fun s => !ifaceP p s) = e
  cases a <;> cases b <;> cases d <;> cases e <;> simp
 obtain ⟨a1, a2, a3, a4⟩ := h3
 rw [Bool.or_eq_false_iff] at h2
 obtain ⟨a5, a6⟩ := h2
 rw [List.any_eq_false] at a2 a4 a6
 refine ⟨fun hn => ?_, fun s hs => ⟨by simpa using a2 s hs, by simpa using a4 s hs, Zcx (by simpa using a6 s hs)⟩⟩
 rw [beqS_no.2 hn] at a1 a3 a5
 exact ⟨by simpa using a1, by simpa using a3, Zcx (by simpa using a5)⟩
theorem Zer {p : Prog} (hs : SoundP p) {s : Str} {c : Cls} (hc : clsFind p s = some c) (hn : c.super ≠ zS) : Anc p s c.super := by
 obtain ⟨d, hd⟩ := Z3u ((hs.ok (Z0q hc).2).sup hn).1
 exact .step (.base hc) hc (by unfold upC; rw [beqS_no.2 hn]; exact List.mem_cons_self) hd
theorem Zhg {p : Prog} (hs : SoundP p) {s : Str} {c : Cls} (hc : clsFind p s = some c) (hn : c.super ≠ zS) : ¬ Anc p c.super s := by
 have := ((hs.ok (Z0q hc).2).sup hn).2.2
 rwa [(Z0q hc).1] at this
theorem Z7d {α : Type} {q r : α → Bool} : ∀ {l : List α} {a : α}, (∀ z, q z = true → r z = true) → a ∈ l → r a = true → q a = false → l.countP q < l.countP r
 | [], _, _, h, _, _ => nomatch h
 | x :: l, a, hm, h, hr, hq => by
  rw [List.countP_cons, List.countP_cons]
  rcases List.mem_cons.1 h with rfl | h
  ·have := List.countP_mono_left (l := l) (p := q) (q := r) (fun z _ => hm z)
   rw [hr, hq]; simp; omega
  ·have ih := Z7d hm h hr hq
   have : (if q x = true then 1 else 0) ≤ (if r x = true then 1 else 0 : Nat) := by
    cases hqx : q x with
    | false => simp
    | true => rw [hm x hqx]; simp
   omega
noncomputable def mu (p : Prog) (s : Str) : Nat := (p.classes.map Cls.name).countP (subP p s)
theorem Zfk {p : Prog} (hs : SoundP p) {s : Str} {c : Cls} (hc : clsFind p s = some c) (hn : c.super ≠ zS) : mu p c.super < mu p s := by
 refine Z7d (a := s) (fun z hz => subP_iff.2 ((Zer hs hc hn).trans (subP_iff.1 hz))) (Z6n (by simp [hasC, hc])) (subP_iff.2 (.base hc)) ?_
 cases h : subP p c.super s with
 | false => rfl
 | true => exact absurd (subP_iff.1 h) (Zhg hs hc hn)
theorem Zcg {p : Prog} {s : Str} (h : mu p s = 0) : clsFind p s = none := by
 cases hc : clsFind p s with
 | none => rfl
 | some c =>
  have hm : s ∈ p.classes.map Cls.name := Z6n (by simp [hasC, hc])
  have := List.countP_pos_iff.2 ⟨s, hm, subP_iff.2 (.base hc)⟩
  unfold mu at h; omega
theorem Zgf (p : Prog) (s : Str) : mu p s ≤ p.classes.length := by
 have := List.countP_le_length (p := subP p s) (l := p.classes.map Cls.name)
 simpa [mu] using this
def chain (p : Prog) : Nat → Str → List Str
 | 0, _ => []
 | n + 1, s => match clsFind p s with
  | none => []
  | some c => s :: (if beqS c.super zS then [] else chain p n c.super)
theorem Z4z {p : Prog} (hs : SoundP p) : ∀ {n : Nat} {s z : Str}, z ∈ chain p n s → Anc p s z
 | 0, _, _, h => nomatch h
 | n + 1, s, z, h => by
  unfold chain at h
  cases hc : clsFind p s with
  | none => rw [hc] at h; cases h
  | some c =>
   rw [hc] at h
   rcases List.mem_cons.1 h with rfl | h
   ·exact .base hc
   ·cases hb : beqS c.super zS with
    | true => rw [hb] at h; cases h
    | false => rw [hb] at h; exact (Zer hs hc (beqS_no.1 hb)).trans (Z4z hs h)
theorem Z30 {p : Prog} (hs : SoundP p) : ∀ (n : Nat) (s : Str) (out : List Str), (∀ z, z ∈ out → z ∉ chain p n s) → supF p n s out = out ++ chain p n s
 | 0, _, out, _ => by simp [supF, chain]
 | n + 1, s, out, h => by
  unfold supF chain
  unfold chain at h
  cases hc : clsFind p s with
  | none => simp
  | some c =>
   rw [hc] at h
   simp only at h ⊢
   rw [(Z0q hc).1]
   have hin : inL out s = false := inL_false.2 fun hx => h s hx List.mem_cons_self
   rw [hin]
   cases hb : beqS c.super zS with
   | true => simp
   | false =>
    rw [hb] at h
    simp only [Bool.false_eq_true, if_false] at h ⊢
    rw [Z30 hs n c.super (out ++ [s])]
    ·simp
    ·intro z hz hk
     rcases List.mem_append.1 hz with hz | hz
     ·exact h z hz (List.mem_cons_of_mem _ hk)
     ·rw [List.mem_singleton] at hz; subst hz
      exact Zhg hs hc (beqS_no.1 hb) (Z4z hs hk)
theorem Z4e {p : Prog} (hs : SoundP p) : ∀ (n m : Nat) (s : Str), mu p s ≤ n → mu p s ≤ m → chain p n s = chain p m s
 | 0, 0, _, _, _ => rfl
 | 0, m + 1, s, h, _ => by unfold chain; rw [Zcg (by omega)]
 | n + 1, 0, s, _, h => by unfold chain; rw [Zcg (by omega)]
 | n + 1, m + 1, s, h1, h2 => by
  unfold chain
  cases hc : clsFind p s with
  | none => rfl
  | some c =>
   simp only
   cases hb : beqS c.super zS with
   | true => rfl
   | false =>
    have := Zfk hs hc (beqS_no.1 hb)
    simp only [Bool.false_eq_true, if_false]
    rw [Z4e hs n m c.super (by omega) (by omega)]
theorem Z5q {p : Prog} {s : Str} (h : clsFind p s = none) : supers p s = [] := by unfold supers supF; rw [h]
theorem Z5o {p : Prog} (hs : SoundP p) {s : Str} {c : Cls} (hc : clsFind p s = some c) : supers p s = s :: (if beqS c.super zS then [] else supers p c.super) := by
 unfold supers
 rw [Z30 hs _ _ _ (fun _ h => absurd h List.not_mem_nil), Z30 hs _ _ _ (fun _ h => absurd h List.not_mem_nil), List.nil_append, List.nil_append]
 conv => lhs; unfold chain
 rw [hc]
 simp only
 cases hb : beqS c.super zS with
 | true => rfl
 | false =>
  have h1 := Zfk hs hc (beqS_no.1 hb)
  have h2 := Zgf p s
  simp only [Bool.false_eq_true, if_false]
  rw [Z4e hs p.classes.length (p.classes.length + 1) c.super (by omega) (by omega)]
theorem Z31 {p : Prog} (hs : SoundP p) : ∀ (n : Nat) (x y : Str), mu p x ≤ n → y ∈ supers p x → ∃ pre, supers p x = pre ++ supers p y
 | 0, x, y, h, hy => by rw [Z5q (Zcg (by omega))] at hy; cases hy
 | n + 1, x, y, h, hy => by
  cases hc : clsFind p x with
  | none => rw [Z5q hc] at hy; cases hy
  | some c =>
   have e := Z5o hs hc
   rw [e] at hy
   rcases List.mem_cons.1 hy with rfl | hy
   ·exact ⟨[], rfl⟩
   ·cases hb : beqS c.super zS with
    | true => rw [hb] at hy; cases hy
    | false =>
     rw [hb] at hy e
     simp only [Bool.false_eq_true, if_false] at hy e
     have := Zfk hs hc (beqS_no.1 hb)
     obtain ⟨pre, h2⟩ := Z31 hs n c.super y (by omega) hy
     exact ⟨x :: pre, by rw [e, h2]; rfl⟩
theorem Z87 {p : Prog} (hs : SoundP p) {x y z : Str} (h : y ∈ supers p x) (k : z ∈ supers p y) : z ∈ supers p x := by
 obtain ⟨pre, e⟩ := Z31 hs _ x y (Nat.le_refl _) h
 rw [e]; exact List.mem_append_right _ k
theorem Z6b {p : Prog} (hs : SoundP p) {x y : Str} (h : y ∈ supers p x) : Anc p x y := by
 unfold supers at h
 rw [Z30 hs _ _ _ (fun _ h => absurd h List.not_mem_nil), List.nil_append] at h
 exact Z4z hs h
theorem Z5p {p : Prog} (hs : SoundP p) {x : Str} (h : hasC p x = true) : ∃ r, supers p x = x :: r := by
 obtain ⟨c, hc⟩ := Z3u h
 exact ⟨_, Z5o hs hc⟩
theorem Z99 {p : Prog} (hs : SoundP p) {x y : Str} (h : y ∈ supers p x) (k : x ∈ supers p y) : x = y := by
 obtain ⟨a, e1⟩ := Z31 hs _ x y (Nat.le_refl _) h
 obtain ⟨b, e2⟩ := Z31 hs _ y x (Nat.le_refl _) k
 have h1 := congrArg List.length e1
 have h2 := congrArg List.length e2
 simp only [List.length_append] at h1 h2
 have ha : a = [] := List.eq_nil_of_length_eq_zero (by omega)
 rw [ha, List.nil_append] at e1
 obtain ⟨r, hx⟩ := Z5p hs (Z6b hs k).known
 obtain ⟨r', hy⟩ := Z5p hs (Z6b hs h).known
 rw [hx, hy] at e1
 exact (List.cons.inj e1).1
def upS (p : Prog) (x z : Str) : Prop := z = x ∨ (ifaceP p x = false ∧ z ∈ supers p x)
theorem Zcy {p : Prog} (hs : SoundP p) {x y z : Str} (h : upS p x y) (k : upS p y z) : upS p x z := by
 rcases h with rfl | ⟨h1, h2⟩
 ·exact k
 ·rcases k with rfl | ⟨k1, k2⟩
  ·exact .inr ⟨h1, h2⟩
  ·exact .inr ⟨h1, Z87 hs h2 k2⟩
theorem Ze8 {p : Prog} (hs : SoundP p) {x y : Str} (h : upS p x y) (k : upS p y x) : x = y := by
 rcases h with rfl | ⟨_, h⟩
 ·rfl
 ·rcases k with rfl | ⟨_, k⟩
  ·rfl
  ·exact Z99 hs h k
theorem Zc1 {a b : Fact} (h1 : a.kind = b.kind) (h2 : a.cls = b.cls) : a = b := by cases a; cases b; cases h1; cases h2; rfl
def NearOK (f : Fact) : Prop := 0 ≤ f.kind ∧ f.kind ≤ 6 ∧ (f.kind = 3 ∨ f.kind = 5 ∨ f.cls = zS)
def rK (f : Fact) : Prop := 2 ≤ f.kind ∧ f.kind ≤ 6
def LeF (p : Prog) (a b : Fact) : Prop := a = b ∨ b = ⟨0, zS⟩ ∨ (rK a ∧ rK b ∧ (a.kind = 2 ∨ b.kind = 6 ∨ (a.kind = 3 ∧ b.kind = 3 ∧ upS p a.cls b.cls)))
theorem LeF.refl (p : Prog) (a : Fact) : LeF p a a := .inl rfl
theorem rK0 : ¬ rK ⟨0, zS⟩ := fun h => by have := h.1; simp at this
theorem LeF.trans {p : Prog} (hs : SoundP p) {a b c : Fact} (h : LeF p a b) (k : LeF p b c) : LeF p a c := by
 rcases h with rfl | rfl | ⟨h1, h2, h3⟩
 ·exact k
 ·rcases k with rfl | rfl | ⟨k1, k2, k3⟩
  ·exact .inr (.inl rfl)
  ·exact .inr (.inl rfl)
  ·exact absurd k1 rK0
 ·rcases k with rfl | rfl | ⟨k1, k2, k3⟩
  ·exact .inr (.inr ⟨h1, h2, h3⟩)
  ·exact .inr (.inl rfl)
  ·refine .inr (.inr ⟨h1, k2, ?_⟩)
   rcases h3 with h3 | h3 | ⟨h3, h4, h5⟩
   ·exact .inl h3
   ·rcases k3 with k3 | k3 | ⟨k3, _⟩
    ·omega
    ·exact .inr (.inl k3)
    ·omega
   ·rcases k3 with k3 | k3 | ⟨k3, k4, k5⟩
    ·omega
    ·exact .inr (.inl k3)
    ·exact .inr (.inr ⟨h3, k4, Zcy hs h5 k5⟩)
theorem LeF.anti {p : Prog} (hs : SoundP p) {a b : Fact} (ha : NearOK a) (hb : NearOK b) (h : LeF p a b) (k : LeF p b a) : a = b := by
 rcases h with rfl | rfl | ⟨h1, h2, h3⟩
 ·rfl
 ·rcases k with k | k | ⟨k1, _⟩
  ·exact k.symm
  ·exact k
  ·exact absurd k1 rK0
 ·rcases k with k | rfl | ⟨k1, k2, k3⟩
  ·exact k.symm
  ·exact absurd h1 rK0
  ·obtain ⟨_, _, ha⟩ := ha
   obtain ⟨_, _, hb⟩ := hb
   have zz : a.kind = b.kind → a.kind ≠ 3 → a.kind ≠ 5 → a = b := fun e n3 n5 => by
    refine Zc1 e ?_
    rcases ha with ha | ha | ha
    ·exact absurd ha n3
    ·exact absurd ha n5
    ·rcases hb with hb | hb | hb
     ·exact absurd (e.trans hb) n3
     ·exact absurd (e.trans hb) n5
     ·rw [ha, hb]
   rcases h3 with h3 | h3 | ⟨h3, h4, h5⟩
   ·rcases k3 with k3 | k3 | ⟨k3, k4, k5⟩
    ·exact zz (by omega) (by omega) (by omega)
    ·omega
    ·omega
   ·rcases k3 with k3 | k3 | ⟨k3, k4, k5⟩
    ·omega
    ·exact zz (by omega) (by omega) (by omega)
    ·omega
   ·rcases k3 with k3 | k3 | ⟨k3, k4, k5⟩
    ·omega
    ·omega
    ·exact Zc1 (by omega) (Ze8 hs h5 k5)
structure Lub (p : Prog) (a b j : Fact) : Prop where
 ok : NearOK j
 l : LeF p a j
 r : LeF p b j
 u : ∀ c, NearOK c → LeF p a c → LeF p b c → LeF p j c
section
variable {p : Prog} (hs : SoundP p) {a b c : Fact} (ha : NearOK a) (hb : NearOK b) (hc : NearOK c)
include hs ha hb
include hc
end
section
variable {p : Prog} (hs : SoundP p) {a b c : Fact} (ha : NearOK a) (hb : NearOK b) (hc : NearOK c)
include hs ha hb
include hc
end
end Go.Sx
namespace Go.Sx
open Go
def rotF (l : List Str) (k i : Nat) : List Str := (List.range i).map fun j => l.getD ((j + k) % l.length) default
end Go.Sx
namespace Go.Sx
open Go
def SeqGR {α : Type} (Fin : List α → Prop) (J Jx : List α → AHeap → Prop) : AEnd → AHeap → Prop :=
 fun e H' => (∃ v, e = .ret v) ∧ ((∃ l H'', Fin l ∧ H'.Perm H'' ∧ J l H'') ∨ (∃ pre H'', H'.Perm H'' ∧ Jx pre H''))
structure SeqG {α : Type} (P : Program) (gf : Nat) (caps : List AV) (Hit : AHeap) (enc : α → List AV) (Adm Fin : List α → Prop) : Prop where
 ok : Callable P gf
 run : ∀ (id : Nat) (J Jx : List α → AHeap → Prop),
  (∀ pre x H, Adm (pre ++ [x]) → J pre H → YCalls P id (enc x) H (fun e H' => (e = .ret (.v (.bool true)) ∧ J (pre ++ [x]) H') ∨ (e = .ret (.v (.bool false)) ∧ Jx (pre ++ [x]) H'))) →
  ∀ H, J [] H → ACalls P gf (.yld id :: caps) (Hit ++ H) (SeqGR Fin J Jx)
theorem Z5v {P : Program} {Q : Exit → St → Prop} {s : St} {g : Operand} {ps : Array Tmp} {assign body : Code} {gf : Nat} {caps : List AV} {α : Type} (enc : α → List AV) (Adm Fin : List α → Prop) (Hit Hb0 : AHeap)
  (I : List α → AHeap → Prop) (Ix : Code → List α → AHeap → Prop) (hg : ev s.T g = some (.fn (.func gf) caps)) (hp : s.H.Perm (Hit ++ Hb0)) (hI0 : I [] Hb0) (hseq : SeqG P gf caps Hit enc Adm Fin)
  (hps : ∀ x, (enc x).length = ps.size) (hpn : ∀ t, t ∈ ps.toList → t < s.n)
  (round : ∀ l pre x Hb, Adm (pre ++ [x]) → I pre Hb → AWp P (some l) assign (fun e s' => e = .normal ∧ AWp P (some l) body (roundQ I Ix (pre ++ [x])) s') ⟨prm s.T ps.toList (enc x), Hb, [], s.n⟩)
  (done : ∀ i ll Hb, Fin ll → I ll Hb → Q .normal ⟨s.T, Hb ++ [(i, .raw (.deferred (some [])))], i :: s.D, s.n⟩)
  (stop : ∀ i c pre Hb, Ix c pre Hb → AWp P none c Q ⟨s.T, Hb ++ [(i, .raw (.deferred (some [])))], i :: s.D, s.n⟩) :
  AWp P none (.rangeFunc g ps assign body) Q s := by
 intro Z C0 H0 w0 C a w he hs
 refine wpIn_rangeFunc (F := Wd none) (n := 0) (fun fn _ => ?_)
 -- two new blocks
 obtain ⟨i1, hi1⟩ := Z5w (C.U ++ Z)
 rw [List.mem_append, not_or] at hi1
 have hd1 : OR (C.bind i1 w.heap.size 0) i1 (w.alloc (.deferred (some []))) (.raw (.deferred (some []))) := ⟨_, 0, Ctx.bind_m .., heap_alloc_new w _⟩
 obtain ⟨hw1, he1⟩ := Z26 (Z := Z) hs.wr hi1.1 hi1.2 hd1
 obtain ⟨i2, hi2⟩ := Z5w ((C.bind i1 w.heap.size 0).U ++ Z)
 rw [List.mem_append, not_or] at hi2
 let rec0 : Loop := { state := .ready, pending := none, fn := fn, tmps := a.tmps, params := ps, assign := assign, body := body, defers := w.heap.size }
 let C2 := (C.bind i1 w.heap.size 0).bind i2 (w.alloc (.deferred (some []))).heap.size 0
 let w2 := (w.alloc (.deferred (some []))).alloc (.loop rec0)
 have hsz1 : (w.alloc (.deferred (some []))).heap.size = w.heap.size + 1 := by simp
 have hl2 : OR C2 i2 w2 (.loop s.T s.n ps assign body .ready none) := by
  refine ⟨_, 0, rec0, Ctx.bind_m .., heap_alloc_new _ _, rfl, rfl, rfl, rfl, rfl, hs.sz, fun t x ht => ?_⟩
  obtain ⟨v, h1, h2⟩ := hs.sl t x ht
  exact ⟨v, h1, (h2.mono he1.le).mono (Ctx.le_bind hi2.1)⟩
 obtain ⟨hw2, he2⟩ := Z26 (Z := Z) hw1 hi2.1 hi2.2 hl2
 have he12 := he1.trans he2
 have hm2 : C2.m i2 = some (w.heap.size + 1, 0) := by rw [← hsz1]; exact Ctx.bind_m ..
 have hm1 : C2.m i1 = some (w.heap.size, 0) := by rw [he2.le.m i1 List.mem_cons_self]; exact Ctx.bind_m ..
 -- the function's value
 have hgv := hs.ev hg
 generalize hge : a.eval g = gv at hgv
 cases hgv with
 | fn _ _ vcaps hcl hcv =>
  refine ⟨w.heap.size + 1, [{ target := .collected w.heap.size, args := #[] }], w2, { target := .fn (.func gf) vcaps, args := #[.func (.yield (w.heap.size + 1)) #[] #[]] }, w2, gf, #[.func (.yield (w.heap.size + 1)) #[] #[]] ++ vcaps, w2, run_enterLoop_outer fn a.tmps ps assign body, ?_, fun _ _ => trivial, ?_, nofun, ?_⟩
  ·simp only [resolve, rangeCall, Deferred.ofValue, hge, Sem.run_pure]
   simp [Act.eval]
  ·simp only [invoke]; exact Z4o hseq.ok _ w2
  -- the rounds
  let J : List α → AHeap → Prop := fun pre H => ∃ Hb, I pre Hb ∧ H = (i2, .loop s.T s.n ps assign body .ready none) :: Hb
  let Jx : List α → AHeap → Prop := fun pre H => ∃ c Hb, Ix c pre Hb ∧ H = (i2, .loop s.T s.n ps assign body .done (some c)) :: Hb
  have hY : ∀ pre x H, Adm (pre ++ [x]) → J pre H → YCalls P i2 (enc x) H (fun e H' => (e = .ret (.v (.bool true)) ∧ J (pre ++ [x]) H') ∨ (e = .ret (.v (.bool false)) ∧ Jx (pre ++ [x]) H')) := by
   rintro pre x H hxs ⟨Hb, hI, rfl⟩
   intro Z1 C1 w1 vs l N hm hwr hvs
   obtain ⟨hu, hor⟩ := hwr.ids _ _ List.mem_cons_self
   obtain ⟨r, h1, h2, h3, h4, h5, h6, h7, h8⟩ := Z1x hor hm
   refine ⟨r.fn, _, r.assign, r.body, run_yield h1 (by rw [← hvs.1, hps, h4]), ?_⟩
   refine roundIn_of_wpIn (F := Wd none) trivial ?_
   have hwb : WR C1 Hb w1 := (hwr.perm (List.perm_append_comm (l₁ := [(i2, _)]) (l₂ := Hb))).left
   have hfold : ((r.params.zip vs).foldl (fun tmps (x : Tmp × Value) => tmps.setIfInBounds x.1 x.2) r.tmps) = ((ps.toList.zip vs.toList).foldl (fun tmps (x : Tmp × Value) => tmps.setIfInBounds x.1 x.2) r.tmps) := by
    rw [h4, ← Array.foldl_toList, Array.toList_zip]
   obtain ⟨hq1, hq2⟩ := Z6s (C := C1) (n := s.n) ps.toList (enc x) s.T r.tmps vs.toList (by rw [hps]; simp) (by rw [hvs.1]; simp) hpn h7 h8 (fun i y v hy hv => hvs.2 i y v hy (by rw [← Array.getElem?_toList]; exact hv))
   have hSR : SR C1 ⟨prm s.T ps.toList (enc x), Hb, [], s.n⟩ { tmps := (r.params.zip vs).foldl (fun tmps (x : Tmp × Value) => tmps.setIfInBounds x.1 x.2) r.tmps, defers := [] } w1 := by
    refine ⟨hwb, ?_, rfl, nofun, ?_⟩
    ·rw [hfold]; exact hq2
    ·rw [hfold]; exact hq1
   rw [h5, h6]
   refine wpIn_mono (round l pre x Hb hxs hI (Z1 ++ []) C1 Hb w1 C1 _ w1 (.refl ..) hSR) ?_
   rintro e a' w' ⟨_, C', s', ⟨rfl, hbody⟩, hs', he'⟩
   -- the record is beside
   have hperm : ((i2, AObj.loop s.T s.n ps assign body .ready none) :: Hb).Perm (Hb ++ [(i2, .loop s.T s.n ps assign body .ready none)]) := List.perm_append_comm (l₁ := [(i2, _)]) (l₂ := Hb)
   obtain ⟨hf1, hf2⟩ := he'.frame (hwr.perm hperm) hs'.wr
   have hperm' : (s'.H ++ [(i2, AObj.loop s.T s.n ps assign body .ready none)]).Perm ((i2, .loop s.T s.n ps assign body .ready none) :: s'.H) := List.perm_append_comm (l₁ := s'.H) (l₂ := [(i2, _)])
   have hwr' := hf1.perm hperm'
   have hm' : C'.m i2 = some (l, N) := by rw [he'.le.m i2 hu]; exact hm
   obtain ⟨_, hor'⟩ := hwr'.ids _ _ List.mem_cons_self
   obtain ⟨r', g1, g2, g3, g4, g5, g6, g7, g8⟩ := Z1x hor' hm'
   obtain ⟨hb1, hb2⟩ := Z5g (Z := Z1) (st' := .busy) (pend' := r'.pending) hwr' hm' g1
   refine ⟨_, run_beginRound g1 g2, ?_⟩
   have hwbusy : WR C' s'.H (w'.putObj l (.loop { r' with state := .busy })) := (hb1.perm (List.perm_append_comm (l₁ := [(i2, _)]) (l₂ := s'.H))).left
   refine wpIn_mono (hbody (Z1 ++ []) C' s'.H _ C' a' _ (.refl ..) ⟨hwbusy, hs'.sl, hs'.df, hs'.du, hs'.sz⟩) ?_
   rintro e a'' w'' ⟨hno, C'', s'', hq, hs'', he''⟩
   have big : ∀ s3, Weak s'' s3 → ∀ (jump : Option Code) (st : LoopState), st = (if jump.isNone then .ready else .done) →
     ∃ v w4, (Instr.endRound l jump).run P w'' = .ok v w4 ∧ v = .bool jump.isNone ∧ ∃ C3, WR C3 ((i2, .loop s.T s.n ps assign body st jump) :: s3.H) w4 ∧ Ext Z1 C1 ((i2, .loop s.T s.n ps assign body .ready none) :: Hb) w1 C3 ((i2, .loop s.T s.n ps assign body st jump) :: s3.H) w4 := by
    intro s3 hwk jump st hst
    obtain ⟨C3, hs3, he3⟩ := hwk Z1 C'' a'' w'' hs''
    have he4 : Ext Z1 C' s'.H (w'.putObj l (.loop { r' with state := .busy })) C3 s3.H w'' := (he''.subZ (fun z hz => List.mem_append_left _ hz)).trans he3
    obtain ⟨hf3, hf4⟩ := he4.frame (hb1.perm (List.perm_append_comm (l₁ := [(i2, _)]) (l₂ := s'.H))) hs3.wr
    have hwr3 := hf3.perm (List.perm_append_comm (l₁ := s3.H) (l₂ := [(i2, _)]))
    have hm3 : C3.m i2 = some (l, N) := by
     rw [he4.le.m i2 (he'.le.U i2 hu)]; exact hm'
    obtain ⟨_, hor3⟩ := hwr3.ids _ _ List.mem_cons_self
    obtain ⟨r3, k1, k2, k3, k4, k5, k6, k7, k8⟩ := Z1x hor3 hm3
    obtain ⟨ht1, ht2⟩ := Z5g (Z := Z1) (st' := st) (pend' := jump) hwr3 hm3 k1
    refine ⟨_, _, run_endRound jump k1, rfl, C3, by rw [← hst]; exact ht1, ?_⟩
    rw [← hst]
    have x1 : Ext Z1 C1 ((i2, .loop s.T s.n ps assign body .ready none) :: Hb) w1 C' ((i2, .loop s.T s.n ps assign body .ready none) :: s'.H) w' := ((hf2.subZ (fun z hz => List.mem_append_left _ hz)).permL hperm.symm).permR hperm'
    have x2 := (hf4.permL (List.perm_append_comm (l₁ := s'.H) (l₂ := [(i2, _)]))).permR (List.perm_append_comm (l₁ := s3.H) (l₂ := [(i2, _)]))
    exact ((x1.trans hb2).trans x2).trans ht2
   cases e with
   | normal =>
    obtain ⟨s3, hwk, hI3⟩ := hq
    obtain ⟨v, w4, k1, rfl, C3, k2, k3⟩ := big s3 hwk none .ready rfl
    exact ⟨_, w4, k1, C3, _, .ret (.v (.bool true)), .inl ⟨rfl, s3.H, hI3, rfl⟩, k2, k3, .v _⟩
   | ret =>
    obtain ⟨s3, hwk, hI3⟩ := hq
    obtain ⟨v, w4, k1, rfl, C3, k2, k3⟩ := big s3 hwk (some .ret) .done rfl
    exact ⟨_, w4, k1, C3, _, .ret (.v (.bool false)), .inr ⟨rfl, _, s3.H, hI3, rfl⟩, k2, k3, .v _⟩
   | exit i =>
    obtain ⟨s3, hwk, hI3⟩ := hq
    obtain ⟨v, w4, k1, rfl, C3, k2, k3⟩ := big s3 hwk (some (.exit i)) .done rfl
    exact ⟨_, w4, k1, C3, _, .ret (.v (.bool false)), .inr ⟨rfl, _, s3.H, hI3, rfl⟩, k2, k3, .v _⟩
   | goto i =>
    obtain ⟨s3, hwk, hI3⟩ := hq
    obtain ⟨v, w4, k1, rfl, C3, k2, k3⟩ := big s3 hwk (some (.goto i)) .done rfl
    exact ⟨_, w4, k1, C3, _, .ret (.v (.bool false)), .inr ⟨rfl, _, s3.H, hI3, rfl⟩, k2, k3, .v _⟩
   | panic ch => exact hq.elim
   | outgrown => exact hno rfl
  -- the one call
  have hcall := hseq.run i2 J Jx hY _ ⟨Hb0, hI0, rfl⟩
  have hpa : ((i2, AObj.loop s.T s.n ps assign body .ready none) :: (i1, .raw (.deferred (some []))) :: s.H).Perm ((Hit ++ (i2, .loop s.T s.n ps assign body .ready none) :: Hb0) ++ [(i1, .raw (.deferred (some [])))]) := by
   refine List.Perm.trans ?_ (List.perm_append_comm (l₁ := [(i1, AObj.raw (.deferred (some [])))]) (l₂ := Hit ++ (i2, .loop s.T s.n ps assign body .ready none) :: Hb0))
   refine (List.Perm.swap _ _ _).trans ?_
   refine List.Perm.cons _ ?_
   exact (List.Perm.cons _ hp).trans List.perm_middle.symm
  have hvs : VRs C2 (.yld i2 :: caps) (#[.func (.yield (w.heap.size + 1)) #[] #[]] ++ vcaps) := by
   have h1 : VRs C2 [.yld i2] #[.func (.yield (w.heap.size + 1)) #[] #[]] := ⟨rfl, by
    intro i x v hx hv
    cases i with
    | zero => simp at hx hv; subst hx; subst hv; exact .yld i2 _ 0 hm2 List.mem_cons_self
    | succ i => simp at hx⟩
   exact h1.append ⟨hcl, fun i x v hx hv => ((hcv i x v hx hv).mono he1.le).mono he2.le⟩
  refine ((hcall.frame _ _ hpa).run Z C2 w2 _ hw2 hvs).mono ?_
  rintro e w3 ⟨C3, K3, x, ⟨H', ⟨⟨v, rfl⟩, hfin⟩, rfl⟩, hw3, he3, hx⟩
  have hm3 : C3.m i2 = some (w.heap.size + 1, 0) := by rw [he3.le.m i2 List.mem_cons_self]; exact hm2
  -- behind it
  have fin : ∀ (st : LoopState) (pend : Option Code) (Hb : AHeap), H'.Perm ((i2, .loop s.T s.n ps assign body st pend) :: Hb) → st ≠ .busy →
    ∃ w4, (Instr.endLoop (w.heap.size + 1)).run P w3 = .ok pend w4 ∧ SR C3 ⟨s.T, Hb ++ [(i1, .raw (.deferred (some [])))], i1 :: s.D, s.n⟩ { a with defers := [{ target := .collected w.heap.size, args := #[] }] ++ a.defers } w4 ∧
     Ext Z C0 H0 w0 C3 (Hb ++ [(i1, .raw (.deferred (some [])))]) w4 := by
   intro st pend Hb hpm hst
   have hpm' : (H' ++ [(i1, AObj.raw (.deferred (some [])))]).Perm ((i2, .loop s.T s.n ps assign body st pend) :: (Hb ++ [(i1, .raw (.deferred (some [])))])) := by
    exact List.Perm.append_right _ hpm
   have hwl := hw3.perm hpm'
   obtain ⟨_, hor⟩ := hwl.ids _ _ List.mem_cons_self
   obtain ⟨r, g1, g2, g3, _⟩ := Z1x hor hm3
   obtain ⟨ht1, ht2⟩ := Z5g (Z := Z) (st' := .exhausted) (pend' := r.pending) hwl hm3 g1
   refine ⟨_, by rw [← g3]; exact run_endLoop g1 (by rw [g2]; exact hst), ?_, ?_⟩
   ·have hsub : ∀ p, p ∈ (Hb ++ [(i1, AObj.raw (.deferred (some [])))]) → p ∈ (i2, AObj.loop s.T s.n ps assign body .exhausted r.pending) :: (Hb ++ [(i1, AObj.raw (.deferred (some [])))]) := fun p hp => List.mem_cons_of_mem _ hp
    have hnd := ht1.nd
    simp only [List.map_cons, List.nodup_cons] at hnd
    refine ⟨ht1.sub hsub hnd.2, fun t x ht => ?_, ?_, ?_, hs.sz⟩
    ·obtain ⟨v, h1, h2⟩ := hs.sl t x ht
     exact ⟨v, h1, (h2.mono he12.le).mono he3.le⟩
    ·simp only [List.map_cons, List.cons_append, List.nil_append]
     have e1 : mark C3 i1 = { target := .collected w.heap.size, args := #[] } := by
      simp [mark, he3.le.m i1 (List.mem_cons_of_mem _ List.mem_cons_self), hm1]
     rw [e1, hs.df]
     congr 1
     exact List.map_congr_left fun i hi => by
      have e2 : C3.m i = C.m i := (he3.le.m i (he12.le.U i (hs.du i hi))).trans (he12.le.m i (hs.du i hi))
      have e3 : C3.df i = C.df i := (he3.le.df i (he12.le.U i (hs.du i hi))).trans (he12.le.df i (hs.du i hi))
      simp only [mark, e2, e3]
    ·intro i hi
     rcases List.mem_cons.1 hi with rfl | hi
     ·exact he3.le.U _ (List.mem_cons_of_mem _ List.mem_cons_self)
     ·exact he3.le.U i (he12.le.U i (hs.du i hi))
   ·refine (he.trans (he12.trans ((he3.permR hpm').trans ht2))).trans (Ext.sub (fun p hp => List.mem_cons_of_mem _ hp))
  cases e with
  | returned v' =>
   rcases hfin with ⟨ll, H'', hfl, hpm, Hb, hI, rfl⟩ | ⟨pre, H'', hpm, c, Hb, hIx, rfl⟩
   ·obtain ⟨w4, h1, h2, h3⟩ := fin .ready none Hb hpm nofun
    exact ⟨none, w4, h1, nofun, C3, _, done i1 ll Hb hfl hI, h2, h3⟩
   ·obtain ⟨w4, h1, h2, h3⟩ := fin .done (some c) Hb hpm nofun
    exact ⟨some c, w4, h1, stop i1 c pre Hb hIx Z C0 H0 w0 C3 _ w4 h3 h2⟩
  | panicked ch => exact hx.elim
  | outgrown => exact hx.elim
end Go.Sx
namespace Go.Sx
open Go
open Go.ChangeMaps (setBlock)
def AWpO (Z : List Nat) (C0 : Ctx) (H0 : AHeap) (w0 : World) (P : Program) (ro : Option Nat) (c : Code) (Q : Exit → St → Prop) (s : St) : Prop :=
 ∀ C a w, Ext Z C0 H0 w0 C s.H w → SR C s a w → c.wpIn (Wd ro) 0 P (Post Z C0 H0 w0 Q) a w
def AOpsO (Z : List Nat) (C0 : Ctx) (H0 : AHeap) (w0 : World) (P : Program) (ro : Option Nat) (ops : Array Oper) (l : List Oper) (Q : Exit → St → Prop) (s : St) : Prop :=
 ∀ k, ops.toList.drop k = l → ∀ C a w, Ext Z C0 H0 w0 C s.H w → SR C s a w → wpOpsIn (Wd ro) 0 P ops (Post Z C0 H0 w0 Q) (List.range' k l.length) a w
section
variable {Z : List Nat} {C0 : Ctx} {H0 : AHeap} {w0 : World} {P : Program} {ro : Option Nat} {Q : Exit → St → Prop} {s : St}
theorem Z8k {c : Code} (h : AWp P ro c Q s) : AWpO Z C0 H0 w0 P ro c Q s := h Z C0 H0 w0
theorem Zd5 {ops : Array Oper} {l : List Oper} (h : AOps P ro ops l Q s) : AOpsO Z C0 H0 w0 P ro ops l Q s := fun k hk => h k hk Z C0 H0 w0
theorem Z3k {x y : Code} (h : AWpO Z C0 H0 w0 P ro x (thenQ (AWpO Z C0 H0 w0 P ro y Q) Q) s) : AWpO Z C0 H0 w0 P ro (.seq x y) Q s :=
 fun C a w he hs => wpIn_seq (wpIn_mono (h C a w he hs) (by
  rintro e a' w' ⟨h1, C', s', hq, hs', he'⟩
  cases e with
  | normal => exact hq C' a' w' he' hs'
  | outgrown => exact absurd rfl h1
  | _ => exact ⟨h1, C', s', hq, hs', he'⟩))
theorem Z73 {c : Operand} {x y : Code} {t : Bool} (hc : ev s.T c = some (.v (.bool t))) (ht : t = true → AWpO Z C0 H0 w0 P ro x Q s) (hf : t = false → AWpO Z C0 H0 w0 P ro y Q s) : AWpO Z C0 H0 w0 P ro (.cond c x y) Q s :=
 fun C a w he hs => wpIn_cond_split (t := t) (VR.val (hs.ev hc)) (fun h => ht h C a w he hs) (fun h => hf h C a w he hs)
theorem Z60 {id : Nat} {c : Code} (h : AWpO Z C0 H0 w0 P ro c (blockQ id Q) s) : AWpO Z C0 H0 w0 P ro (.block id c) Q s :=
 fun C a w he hs => wpIn_block (wpIn_mono (h C a w he hs) (by
  rintro e a' w' ⟨h1, C', s', hq, hs', he'⟩
  cases e with
  | exit i =>
   by_cases hi : i = id
   ·simp only [blockQ, hi, if_true] at hq
    simp only [Exit.inBlock, hi, if_true]
    exact ⟨nofun, C', s', hq, hs', he'⟩
   ·simp only [blockQ, hi, if_false] at hq
    simp only [Exit.inBlock, hi, if_false]
    exact ⟨nofun, C', s', hq, hs', he'⟩
  | _ => exact ⟨h1, C', s', hq, hs', he'⟩))
theorem Zba {c : Code} {s' : St} (hw : Weak s s') (h : AWpO Z C0 H0 w0 P ro c Q s') : AWpO Z C0 H0 w0 P ro c Q s :=
 fun C a w he hs => let ⟨C', h1, h2⟩ := hw Z C a w hs; h C' a w (he.trans h2) h1
theorem Zb9 {c : Code} {α : Type} (inv : α → St) (μ : α → Nat) (x0 : α) (h0 : Weak s (inv x0))
  (round : ∀ x, AWpO Z C0 H0 w0 P ro c (thenQ (fun s' => ∃ y, μ y < μ x ∧ Weak s' (inv y)) Q) (inv x)) : AWpO Z C0 H0 w0 P ro (.loop c) Q s := by
 refine Zba h0 ?_
 intro C a w he hs
 let I : Act → World → Nat → Prop := fun a w n => ∃ x C, μ x ≤ n ∧ SR C (inv x) a w ∧ Ext Z C0 H0 w0 C (inv x).H w
 have hI : ∃ n, I a w n := ⟨μ x0, x0, C, Nat.le_refl _, hs, he⟩
 classical
 refine wpIn_loop (fun a w => ∃ n, I a w n) (fun a w => if h : ∃ n, I a w n then Classical.choose (Z2b h) else 0) hI ?_
 intro a w hx
 obtain ⟨x, C, hle, hs, he⟩ := (Classical.choose_spec (Z2b hx)).1
 refine wpIn_mono (round x C a w he hs) ?_
 rintro e a' w' ⟨h1, C', s', hq, hs', he'⟩
 cases e with
 | normal =>
  obtain ⟨y, hy, hwk⟩ := hq
  obtain ⟨C'', h2, h3⟩ := hwk Z C' a' w' hs'
  have hi : I a' w' (μ y) := ⟨y, C'', Nat.le_refl _, h2, he'.trans h3⟩
  refine ⟨⟨_, hi⟩, ?_⟩
  rw [dif_pos ⟨_, hi⟩, dif_pos hx]
  exact Nat.lt_of_le_of_lt ((Classical.choose_spec (Z2b ⟨_, hi⟩)).2 _ hi) (Nat.lt_of_lt_of_le hy hle)
 | outgrown => exact absurd rfl h1
 | _ => exact ⟨h1, C', s', hq, hs', he'⟩
theorem Zag {c : Code} {α : Type} (inv : α → St) (J : α → Prop) (μ : α → Nat) (x0 : α) (j0 : J x0) (h0 : Weak s (inv x0))
  (round : ∀ x, J x → AWpO Z C0 H0 w0 P ro c (thenQ (fun s' => ∃ y, J y ∧ μ y < μ x ∧ Weak s' (inv y)) Q) (inv x)) : AWpO Z C0 H0 w0 P ro (.loop c) Q s :=
 Zb9 (α := { x : α // J x }) (fun x => inv x.1) (fun x => μ x.1) ⟨x0, j0⟩ h0 fun x => by
  intro C a w he hs
  refine wpIn_mono (round x.1 x.2 C a w he hs) ?_
  rintro e a' w' ⟨h1, C', s', hq, hs', he'⟩
  refine ⟨h1, C', s', ?_, hs', he'⟩
  cases e with
  | normal => obtain ⟨y, h2, h3, h4⟩ := hq; exact ⟨⟨y, h2⟩, h3, h4⟩
  | _ => exact hq
theorem Z35 {id : Nat} {l : List Oper} (h : AOpsO Z C0 H0 w0 P ro l.toArray l Q s) : AWpO Z C0 H0 w0 P ro (.region id l.toArray false) Q s :=
 fun C a w he hs => wpIn_region (by
  have := h 0 (by simp) C a w he hs
  rw [List.range_eq_range']
  simpa using this)
theorem Z4s {ops : Array Oper} (h : Q .normal s) : AOpsO Z C0 H0 w0 P ro ops [] Q s := fun _ _ C _ _ he hs => by
 simp only [List.length_nil, List.range'_zero, wpOpsIn]
 exact ⟨nofun, C, s, h, hs, he⟩
def StepO (Z : List Nat) (C0 : Ctx) (H0 : AHeap) (w0 : World) (P : Program) (ro : Option Nat) (o : Oper) (K : St → Prop) (KP : List PanicEntry → St → Prop) (s : St) : Prop :=
 ∀ C a w, Ext Z C0 H0 w0 C s.H w → SR C s a w →
  o.uponIn (Wd ro) 0 P a (Sat Z C0 H0 w0 K) (fun e a' w' => match e with | .panic ch => Sat Z C0 H0 w0 (KP ch) a' w' | _ => False) ((o.semAt ro a.eval).run P w)
theorem Z1z {ops : Array Oper} {o : Oper} {rest : List Oper} (hw : Wanted ops s.T o true)
  (h : StepO Z C0 H0 w0 P ro o (AOpsO Z C0 H0 w0 P ro ops rest Q) (fun ch => Q (.panic ch)) s) : AOpsO Z C0 H0 w0 P ro ops (o :: rest) Q s := by
 intro k hk C a w he hs
 obtain ⟨h1, h2⟩ := Z07 hk
 have ho : ops[k]? = some o := by rw [← Array.getElem?_toList]; exact h1
 rw [List.length_cons, List.range'_succ, wpOpsIn_cons]
 unfold wpOpIn
 simp only [ho, hs.wanted hw, if_true]
 refine ⟨fun _ _ => trivial, ?_⟩
 refine Z3f ?_ ?_ ?_ (h C a w he hs)
 ·rintro a' w' ⟨C', s', hk', hs', he'⟩
  exact hk' (k + 1) h2 C' a' w' he' hs'
 ·intro c w' hx
  exact ⟨nofun, hx⟩
 ·rintro ⟨a', w', hx⟩
  exact hx.elim
theorem Zb6 {ops : Array Oper} {o : Oper} {rest : List Oper} (Hn : AHeap) (x : AV) (hw : Wanted ops s.T o true) (hd : dok o.dst s.n = true)
  (he : Eff P o s.T Hn x []) (hn : ∀ p, p ∈ Hn → p ∈ s.H) (h : AOpsO Z C0 H0 w0 P ro ops rest Q { s with T := Sx.put s.T o.dst x }) : AOpsO Z C0 H0 w0 P ro ops (o :: rest) Q s := by
 refine Z1z hw ?_
 intro C a w hx hs
 refine he Z C s.H a w hs.wr hn (fun p _ y hy => hs.ev hy) nofun List.nodup_nil (fun _ _ => by simp) ro _ _ ?_
 intro v w1 C1 hv hw1 he1
 exact ⟨C1, _, h, hs.put he1.le hw1 (Z0k hd) hv, hx.trans he1⟩
theorem Z8g {ops : Array Oper} {o : Oper} {rest : List Oper} {x : AV} (hw : Wanted ops s.T o true) (hd : dok o.dst s.n = true)
  (he : Eff P o s.T [] x []) (h : AOpsO Z C0 H0 w0 P ro ops rest Q { s with T := Sx.put s.T o.dst x }) : AOpsO Z C0 H0 w0 P ro ops (o :: rest) Q s := by
 refine Z1z hw ?_
 intro C a w hx hs
 refine he Z C s.H a w hs.wr nofun (fun p _ y hy => hs.ev hy) nofun List.nodup_nil (fun _ _ => by simp) ro _ _ ?_
 intro v w1 C1 hv hw1 he1
 exact ⟨C1, _, h, hs.put he1.le hw1 (Z0k hd) hv, hx.trans he1⟩
theorem Zco {C : Ctx} {H : AHeap} {w : World} {k id b N : Nat} {o : Obj} (hw : WR C H w) (hH : H[k]? = some (id, .raw o)) (hm : C.m id = some (b, N)) : w.heap[b]? = some o := by
 obtain ⟨_, b', N', h1, h2⟩ := hw.ids _ _ (List.mem_of_getElem? hH)
 rw [hm] at h1; cases h1
 exact h2
theorem Z8i {ops : Array Oper} {o : Oper} {rest : List Oper} {t kt et q mb N : Nat} {p : Operand} {ents : Array MapEntry} {clock : Nat} (k : Nat) [hu : UD P t (.map kt et)] (hw : Wanted ops s.T o true) (hd : dok o.dst s.n = true)
  (ho : o.op = .range t p) (hp : ev s.T p = some (.map q)) (hH : s.H[k]? = some (q, .raw (.map ents clock))) (hq : C0.m q = some (mb, N)) (hqu : q ∈ C0.U)
  (h : ∀ id, AOpsO Z C0 H0 w0 P ro ops rest Q { s with T := Sx.put s.T o.dst (.ptr id 1 0 0), H := (id, .raw (.mapIter (some mb) clock #[] clock)) :: s.H }) : AOpsO Z C0 H0 w0 P ro ops (o :: rest) Q s := by
 refine Z1z hw ?_
 intro C a w hx hs
 have hm : C.m q = some (mb, N) := (hx.le.m q hqu).trans hq
 have hb := Zco hs.wr hH hm
 have hpv := hs.ev hp
 have hpe : a.eval p = .map (some mb) := by
  generalize a.eval p = u at hpv
  cases hpv with
  | map _ b' N' hid _ => rw [hm] at hid; cases hid; rfl
 obtain ⟨id, hid⟩ := Z5w (C.U ++ Z)
 rw [List.mem_append, not_or] at hid
 have hor : OR (C.bind id w.heap.size 1) id (w.alloc (.mapIter (some mb) clock #[] clock)) (.raw (.mapIter (some mb) clock #[] clock)) := ⟨_, 1, Ctx.bind_m .., heap_alloc_new w _⟩
 obtain ⟨hw1, he1⟩ := Z26 (Z := Z) hs.wr hid.1 hid.2 hor
 have hrun : (o.semAt ro a.eval).run P w = .ok (.value (.pointer (some ⟨w.heap.size, 0, none⟩))) (w.alloc (.mapIter (some mb) clock #[] clock)) := by
  rw [Oper.semAt_eq _ _ _ (by intro c; rw [ho]; nofun)]
  simp only [execOp, ho, hpe]
  simp [Sem.run_bind, run_range_map w t kt et mb ents clock hu.ud hb, Result.andThen]
 rw [hrun]
 refine ⟨_, _, h id, hs.put he1.le hw1 (Z0k hd) ?_, hx.trans he1⟩
 have := VR.ptr (C := C.bind id w.heap.size 1) id 1 0 0 w.heap.size 1 (Ctx.bind_m ..) List.mem_cons_self
 simpa using this
theorem Zae {ops : Array Oper} {o : Oper} {rest : List Oper} {q it mb N since c0 : Nat} {p : Operand} {ents : Array MapEntry} {clock : Nat} {seen : Array Nat} (j k : Nat) (hw : Wanted ops s.T o true) (hd : dok o.dst s.n = true)
  (ho : o.op = .next p false) (hp : ev s.T p = some (.ptr it 1 0 0)) (hI : s.H[j]? = some (it, .raw (.mapIter (some mb) since seen c0))) (hH : s.H[k]? = some (q, .raw (.map ents clock))) (hq : C0.m q = some (mb, N)) (hqu : q ∈ C0.U)
  (hold : ∀ x ∈ ents.toList, x.born < since) (hsc : since ≤ c0)
  (h0 : (leftOf ents seen).size = 0 → AOpsO Z C0 H0 w0 P ro ops rest Q { s with T := Sx.put s.T o.dst (.tup [.v (.bool false)]) })
  (h1 : ∀ e ∈ (leftOf ents seen).toList, AOpsO Z C0 H0 w0 P ro ops rest Q { s with T := Sx.put s.T o.dst (.tup [.v (.bool true), .v e.key, .v e.val]), H := s.H.set j (it, .raw (.mapIter (some mb) since (seen.push e.born) clock)) }) : AOpsO Z C0 H0 w0 P ro ops (o :: rest) Q s := by
 refine Z1z hw ?_
 intro C a w hx hs
 have hm : C.m q = some (mb, N) := (hx.le.m q hqu).trans hq
 have hb := Zco hs.wr hH hm
 have hpv := hs.ev hp
 have tup1 : ∀ C' : Ctx, VR C' (.tup [.v (.bool false)]) (.tuple #[.bool false]) := fun C' => .tup _ _ rfl (fun i c x hc hv => by
  cases i with
  | zero => simp at hc hv; subst hc; subst hv; exact .v _
  | succ i => simp at hc)
 have tup3 : ∀ (C' : Ctx) (x y : Value), VR C' (.tup [.v (.bool true), .v x, .v y]) (.tuple #[.bool true, x, y]) := fun C' x y => .tup _ _ rfl (fun i c z hc hv => by
  rcases i with _ | _ | _ | i
  ·simp at hc hv; subst hc; subst hv; exact .v _
  ·simp at hc hv; subst hc; subst hv; exact .v _
  ·simp at hc hv; subst hc; subst hv; exact .v _
  ·simp at hc)
 obtain ⟨hu', r, N', hmi, hr⟩ := hs.wr.ids _ _ (List.mem_of_getElem? hI)
 have hpe : a.eval p = .pointer (some ⟨r, 0, none⟩) := by
  generalize a.eval p = u at hpv
  cases hpv with
  | ptr _ _ _ _ b' N'' hid _ => rw [hmi] at hid; cases hid; rfl
 have hsem : ∀ (v : Value) (w' : World), (Instr.next (.pointer (some ⟨r, 0, none⟩)) false o.type).run P w = .ok v w' → (o.semAt ro a.eval).run P w = .ok (.value v) w' := fun v w' hv => by
  rw [Oper.semAt_eq _ _ _ (by intro c; rw [ho]; nofun)]
  simp only [execOp, ho, hpe]
  simp [Sem.run_bind, hv, Result.andThen]
 rcases run_next_at (P := P) w o.type r mb since c0 seen ents clock hr hb hold hsc with ⟨hz, hrun⟩ | ⟨e, hem, w1, hw1, hrun⟩
 ·rw [hsem _ _ hrun]
  exact ⟨C, _, h0 hz, hs.put (.refl C) hs.wr (Z0k hd) (tup1 C), hx⟩
 ·rw [hsem _ _ hrun]
  have hlt : r < w.heap.size := (Array.getElem?_eq_some_iff.1 hr).1
  have hh : w1.heap = w.heap ∧ w1.os = w.os ∧ w1.tape = w.tape ∧ w1.output = w.output := by rcases hw1 with rfl | rfl <;> exact ⟨rfl, rfl, rfl, rfl⟩
  have hget : ∀ b, (setBlock w1 r (.mapIter (some mb) since (seen.push e.born) clock)).heap[b]? = if b = r then some (.mapIter (some mb) since (seen.push e.born) clock) else w.heap[b]? := fun b => by
   simp only [setBlock, hh.1]
   rw [Array.getElem?_setIfInBounds]
   split
   ·rename_i hbr; subst hbr; simp [hlt]
   ·rename_i hbr; rw [if_neg (fun h => hbr h.symm)]
  obtain ⟨g1, g2⟩ := Z0p (Z := Z) (C' := C) (id' := it) (o' := .raw (.mapIter (some mb) since (seen.push e.born) clock)) (w' := setBlock w1 r (.mapIter (some mb) since (seen.push e.born) clock)) hs.wr hI (.refl C) rfl (.inl rfl) hu' (fun _ _ h => h)
   hh.2.1 hh.2.2.1 hh.2.2.2 (by simp [setBlock, hh.1]) (fun b N' hm' => .inl ⟨N', hm'⟩) (fun b2 hb2 hne => by rw [hget, if_neg (by rintro rfl; exact hne _ hmi)]) ⟨r, N', hmi, by rw [hget, if_pos rfl]⟩
  exact ⟨C, _, h1 e hem, hs.put g2.le g1 (Z0k hd) (tup3 C _ _), hx.trans g2⟩
theorem Z8h {ops : Array Oper} {o : Oper} {rest : List Oper} {q it mb N since : Nat} {p : Operand} {ents : Array MapEntry} {clock : Nat} {seen : Array Nat} {e : MapEntry} (j k : Nat) (hw : Wanted ops s.T o true) (hd : dok o.dst s.n = true)
  (ho : o.op = .entry p) (hp : ev s.T p = some (.ptr it 1 0 0)) (hI : s.H[j]? = some (it, .raw (.mapIter (some mb) since (seen.push e.born) clock))) (hH : s.H[k]? = some (q, .raw (.map ents clock))) (hq : C0.m q = some (mb, N)) (hqu : q ∈ C0.U)
  (hem : e ∈ ents.toList) (hn : (ents.toList.map (·.born)).Nodup)
  (h : AOpsO Z C0 H0 w0 P ro ops rest Q { s with T := Sx.put s.T o.dst (.tup [.v e.key, .v e.val]) }) : AOpsO Z C0 H0 w0 P ro ops (o :: rest) Q s := by
 refine Z1z hw ?_
 intro C a w hx hs
 have hm : C.m q = some (mb, N) := (hx.le.m q hqu).trans hq
 have hb := Zco hs.wr hH hm
 have hpv := hs.ev hp
 obtain ⟨hu', r, N', hmi, hr⟩ := hs.wr.ids _ _ (List.mem_of_getElem? hI)
 have hpe : a.eval p = .pointer (some ⟨r, 0, none⟩) := by
  generalize a.eval p = u at hpv
  cases hpv with
  | ptr _ _ _ _ b' N'' hid _ => rw [hmi] at hid; cases hid; rfl
 have hrun : (o.semAt ro a.eval).run P w = .ok (.value (.tuple #[e.key, e.val])) w := by
  rw [Oper.semAt_eq _ _ _ (by intro c; rw [ho]; nofun)]
  simp only [execOp, ho, hpe]
  simp [Sem.run_bind, run_entry_at w r mb since seen ents clock e hr hb hem hn, Result.andThen]
 rw [hrun]
 refine ⟨C, _, h, hs.put (.refl C) hs.wr (Z0k hd) (.tup _ _ rfl (fun i c z hc hv => ?_)), hx⟩
 rcases i with _ | _ | i
 ·simp at hc hv; subst hc; subst hv; exact .v _
 ·simp at hc hv; subst hc; subst hv; exact .v _
 ·simp at hc
end
def keyS (e : MapEntry) : Str := match e.key with | .string s => s | _ => default
def bornsA (x : List MapEntry) : Array Nat := (x.map (·.born)).toArray
theorem Z4u (x : List MapEntry) (e : MapEntry) : (bornsA x).push e.born = bornsA (x ++ [e]) := by simp [bornsA]
theorem bornsA_has {x : List MapEntry} {b : Nat} : (bornsA x).contains b = true ↔ b ∈ x.map (·.born) := by simp [bornsA]
structure SetE (out : List Str) (ents : Array MapEntry) (clock : Nat) : Prop where
 key : ents.toList.map (·.key) = out.map Value.string
 born : ∀ e ∈ ents.toList, e.born < clock
 nd : (ents.toList.map (·.born)).Nodup
theorem SetE.keyS {out : List Str} {ents : Array MapEntry} {clock : Nat} (h : SetE out ents clock) {e : MapEntry} (he : e ∈ ents.toList) : e.key = .string (Sx.keyS e) ∧ Sx.keyS e ∈ out := by
 have h1 : e.key ∈ out.map Value.string := h.key ▸ List.mem_map.2 ⟨e, he, rfl⟩
 obtain ⟨s, hs, hk⟩ := List.mem_map.1 h1
 unfold Sx.keyS
 rw [← hk]
 exact ⟨rfl, hs⟩
theorem SetE.all {out : List Str} {ents : Array MapEntry} {clock : Nat} (h : SetE out ents clock) {s : Str} (hs : s ∈ out) : ∃ e ∈ ents.toList, Sx.keyS e = s := by
 have h1 : Value.string s ∈ ents.toList.map (·.key) := h.key ▸ List.mem_map.2 ⟨s, hs, rfl⟩
 obtain ⟨e, he, hk⟩ := List.mem_map.1 h1
 refine ⟨e, he, ?_⟩
 unfold Sx.keyS
 rw [hk]
theorem SetE.keys {out : List Str} {ents : Array MapEntry} {clock : Nat} (h : SetE out ents clock) : ents.toList.map Sx.keyS = out := by
 have h1 : ents.toList.map Sx.keyS = (ents.toList.map (·.key)).map (fun v => match v with | .string s => s | _ => default) := by rw [List.map_map]; rfl
 rw [h1, h.key, List.map_map]
 exact (List.map_congr_left fun s _ => rfl).trans (List.map_id _)
structure Got (out : List Str) (ents : Array MapEntry) (x : List MapEntry) : Prop where
 sub : ∀ e ∈ x, e ∈ ents.toList
 nd : (x.map (·.born)).Nodup
theorem Got.start (out : List Str) (ents : Array MapEntry) : Got out ents [] := ⟨nofun, List.nodup_nil⟩
theorem Got.step {out : List Str} {ents : Array MapEntry} {x : List MapEntry} {e : MapEntry} (h : Got out ents x) (he : e ∈ (leftOf ents (bornsA x)).toList) : Got out ents (x ++ [e]) := by
 obtain ⟨h1, h2⟩ := mem_left he
 refine ⟨fun z hz => ?_, ?_⟩
 ·rcases List.mem_append.1 hz with hz | hz
  ·exact h.sub z hz
  ·rw [List.mem_singleton.1 hz]; exact h1
 ·rw [List.map_append, List.nodup_append]
  refine ⟨h.nd, by simp, ?_⟩
  rintro a ha b hb rfl
  rw [List.map_singleton, List.mem_singleton] at hb
  subst hb
  rw [bornsA_has.2 ha] at h2; cases h2
theorem Got.keys {out : List Str} {ents : Array MapEntry} {clock : Nat} (hs : SetE out ents clock) (ho : out.Nodup) {x : List MapEntry} (h : Got out ents x) : (x.map keyS).Nodup ∧ ∀ s, s ∈ x.map keyS → s ∈ out := by
 refine ⟨?_, fun s hsx => ?_⟩
 ·have hk : ∀ a b : MapEntry, a ∈ ents.toList → b ∈ ents.toList → keyS a = keyS b → a.born = b.born := by
   intro a b ha hb hab
   obtain ⟨i, hi, rfl⟩ := List.mem_iff_getElem.1 ha
   obtain ⟨j, hj, rfl⟩ := List.mem_iff_getElem.1 hb
   have e1 := hs.keys
   have hnd : (ents.toList.map keyS).Nodup := by rw [e1]; exact ho
   have hi' : i < (ents.toList.map keyS).length := by simpa using hi
   have hj' : j < (ents.toList.map keyS).length := by simpa using hj
   have : i = j := (List.getElem_inj (h₀ := hi') (h₁ := hj') hnd).1 (by simpa using hab)
   subst this; rfl
  have hx := h.nd
  unfold List.Nodup at hx ⊢
  rw [List.pairwise_map] at hx ⊢
  refine List.Pairwise.imp_of_mem ?_ hx
  intro a b ha hb hne hab
  exact hne (hk a b (h.sub a ha) (h.sub b hb) hab)
 ·obtain ⟨e, he, rfl⟩ := List.mem_map.1 hsx
  exact (hs.keyS (h.sub e he)).2
theorem Got.fin {out : List Str} {ents : Array MapEntry} {clock : Nat} (hs : SetE out ents clock) (ho : out.Nodup) {x : List MapEntry} (h : Got out ents x) (hz : (leftOf ents (bornsA x)).size = 0) : (x.map keyS).Perm out := by
 obtain ⟨h1, h2⟩ := h.keys hs ho
 refine (List.perm_ext_iff_of_nodup h1 ho).2 fun s => ⟨h2 s, fun hso => ?_⟩
 obtain ⟨e, he, rfl⟩ := hs.all hso
 have h3 := bornsA_has.1 (all_seen _ _ hz e he)
 obtain ⟨e', he', hb⟩ := List.mem_map.1 h3
 rw [← born_inj hs.nd (h.sub e' he') he hb]
 exact List.mem_map.2 ⟨e', he', rfl⟩
theorem Got.dec {out : List Str} {ents : Array MapEntry} {x : List MapEntry} {e : MapEntry} (he : e ∈ (leftOf ents (bornsA x)).toList) : (leftOf ents (bornsA (x ++ [e]))).size < (leftOf ents (bornsA x)).size := by
 rw [← Z4u]; exact left_shrinks _ _ _ he
def AdmS (out : List Str) (l : List Str) : Prop := l.Nodup ∧ ∀ s, s ∈ l → s ∈ out
def FinS (out : List Str) (l : List Str) : Prop := l.Perm out
theorem AdmS.len {out l : List Str} (h : AdmS out l) : l.length ≤ out.length := Z12 h.1 h.2
def MapN (p : Prog) (nm : Str) : AEnd → AHeap → Prop := fun e H => ∃ q out, e = .ret (.map q) ∧ H = [(q, .mp (setM out))] ∧ out.Nodup ∧ out.length ≤ p.classes.length ∧ ∀ s, s ∈ out ↔ Anc p nm s
end Go.Sx
namespace Go.Sx
open Go
noncomputable def ancL (p : Prog) (nm : Str) : List Str := risF ((p.classes.map Cls.name).filter (subP p nm))
noncomputable def subsL (p : Prog) (nm : Str) : List Str := risF ((p.classes.map Cls.name).filter fun s => subP p s nm)
noncomputable def subN (p : Prog) (nm : Str) (n : Nat) : List Str := ((p.classes.take n).map Cls.name).filter fun s => subP p s nm
def cptS (l : List Str) (n : Nat) : Bool := !beqS (l.getD n default) (l.getD (n - 1) default)
def cptN (l : List Str) (n : Nat) : List Str := ((List.range n).filter fun k => Nat.beq k 0 || cptS l k).map fun k => l.getD k default
theorem Z3m (l : List Str) (n : Nat) : cptN l (n + 1) = cptN l n ++ (if Nat.beq n 0 || cptS l n then [l.getD n default] else []) := by
 unfold cptN
 rw [List.range_succ, List.filter_append, List.map_append]
 congr 1
 simp only [List.filter_cons, List.filter_nil]
 split <;> rfl
theorem Z7e {l : List Str} : ∀ {n : Nat}, n ≤ l.length → (∀ k, 0 < k → k < n → cptS l k = true) → cptN l n = l.take n
 | 0, _, _ => rfl
 | n + 1, hn, h => by
  rw [Z3m, Z7e (by omega) (fun k h0 hk => h k h0 (by omega)), Z1i (show n < l.length by omega)]
  congr 1
  rw [if_pos]
  ·rw [Zfi (show n < l.length by omega)]
  ·cases n with
   | zero => rfl
   | succ n => rw [h (n + 1) (by omega) (by omega), Bool.or_true]
structure CptJ (l : List Str) (k : Nat) (m : List Str) (k2 j : Nat) : Prop where
 h1 : 1 ≤ j
 h2 : j ≤ l.length - k
 h3 : k ≤ k2
 h4 : k2 + 1 ≤ k + j
 hl : m.length = l.length
 ht : m.take k2 = cptN l (k + j)
 ho : ∀ i, k2 ≤ i → m.getD i default = l.getD i default
theorem CptJ.start {l : List Str} {k : Nat} (h0 : 1 ≤ k) (h1 : k < l.length) (h : ∀ i, 0 < i → i < k → cptS l i = true) (he : beqS (l.getD k default) (l.getD (k - 1) default) = true) : CptJ l k l k 1 := by
 refine ⟨Nat.le_refl _, by omega, Nat.le_refl _, Nat.le_refl _, rfl, ?_, fun _ _ => rfl⟩
 rw [Z3m, if_neg, List.append_nil, Z7e (by omega) h]
 unfold cptS
 rw [he]
 simp
 omega
theorem CptJ.keep {l m : List Str} {k k2 j : Nat} (h : CptJ l k m k2 j) (hj : j < l.length - k) (he : beqS (m.getD (k + j) default) (m.getD (k + (j - 1)) default) = true) : CptJ l k m k2 (j + 1) := by
 have g1 := h.h1
 have g4 := h.h4
 refine ⟨by omega, by omega, h.h3, by omega, h.hl, ?_, h.ho⟩
 rw [h.ho _ (by omega), h.ho _ (by omega)] at he
 rw [show k + (j + 1) = (k + j) + 1 by omega, Z3m, if_neg, List.append_nil]
 ·exact h.ht
 ·unfold cptS
  rw [show k + j - 1 = k + (j - 1) by omega, he]
  simp
  omega
theorem CptJ.put {l m : List Str} {k k2 j : Nat} (h : CptJ l k m k2 j) (hj : j < l.length - k) (he : (!beqS (m.getD (k + j) default) (m.getD (k + (j - 1)) default)) = true) : CptJ l k (m.set k2 (m.getD (k + j) default)) (k2 + 1) (j + 1) := by
 have g1 := h.h1
 have g4 := h.h4
 have gl := h.hl
 have hx := h.ho (k + j) (by omega)
 have h0 := h.ho (k + (j - 1)) (by omega)
 refine ⟨by omega, by omega, by have := h.h3; omega, by omega, by rw [List.length_set]; exact gl, ?_, ?_⟩
 ·rw [hx, h0] at he
  rw [show k + (j + 1) = (k + j) + 1 by omega, Z3m, if_pos, ← h.ht]
  ·rw [Z1i (by rw [List.length_set]; omega), List.take_set_of_le (Nat.le_refl _), List.getElem_set_self, hx]
  ·unfold cptS
   rw [show k + j - 1 = k + (j - 1) by omega, he, Bool.or_true]
 ·intro i hi
  rw [← h.ho i (by omega)]
  simp only [List.getD, List.getElem?_set]
  rw [if_neg (by omega)]
theorem CptJ.fin {l m : List Str} {k k2 j : Nat} (h : CptJ l k m k2 j) (hk : k < l.length) (hj : ¬ j < l.length - k) : m.take k2 = cptN l l.length ∧ k2 < l.length := by
 have g2 := h.h2
 have g4 := h.h4
 refine ⟨?_, by omega⟩
 rw [h.ht]
 congr 1
 omega
def nno : Str := ⟨#[110, 111]⟩
def nameP (p : Prog) (k : Int) : Str := if p.classes.length = 0 ∨ k = 255 then nno else (p.classes.getD (k.tmod p.classes.length).toNat default).name
end Go.Sx
namespace Go.Sx
open Go
def okU (p : Prog) (i : Nat) : Bool := !((p.classes.getD i default).iface && !beqS (p.classes.getD i default).super zS) && !(beqS (p.classes.getD i default).name zS || classAt p (p.classes.getD i default).name != (i : Int))
def unlikeB (p : Prog) : Bool := (List.range p.classes.length).all (okU p)
structure UnlikeP (p : Prog) : Prop where
 top : ∀ c, c ∈ p.classes → c.iface = true → c.super = zS
 nm : ∀ c, c ∈ p.classes → c.name ≠ zS
section
variable {p : Prog} {a b c : Str}
end
def nI : Str := ⟨#[73]⟩
def lhA : Cls := ⟨nA, zS, false, false, [], [], []⟩
def lhB : Cls := ⟨nB, nA, false, false, [nI], [], []⟩
def lhC : Cls := ⟨nC, nA, false, false, [], [], []⟩
def lhI : Cls := ⟨nI, zS, true, true, [], [], []⟩
def lhP : Prog := ⟨[lhA, lhB, lhC, lhI], [], ⟨zS, zS, zS⟩⟩
def lhA2 : Cls := ⟨nA, nB, false, false, [], [], []⟩
def lhB2 : Cls := ⟨nB, nA, false, false, [], [], []⟩
def lhQ : Prog := ⟨[lhA2, lhB2], [], ⟨zS, zS, zS⟩⟩
def subC (p : Prog) (n : Nat) (a b : Str) : Bool := match ancRun p n [a] [] with | some out => inL out b | none => false
def chk2C (p : Prog) (n : Nat) (c : Cls) : Bool := (upC c).any fun s => subC p n s c.name
end Go.Sx
namespace Go.Sx
open Go
def zCl : Cls := ⟨zS, zS, false, false, [], [], []⟩
def zMt : Meth := ⟨zS, zS, false, false, 0, []⟩
def zMR : MRef := ⟨zS, zS, zS⟩
def zFl : Fld := ⟨zS, ⟨0, zS⟩, false⟩
structure FRef where
 cls : Str
 name : Str
 deriving DecidableEq
def FRef.cells (f : FRef) : List AV := [sA f.cls, sA f.name]
def FRef.av (f : FRef) : AV := .agg f.cells
def Meth.av (m : Meth) : AV := .agg m.cells
def MRef.av (m : MRef) : AV := .agg m.cells
def Fld.av (f : Fld) : AV := .agg f.cells
def Instr.av (i : Instr) : AV := .agg i.cells
def zFR : FRef := ⟨zS, zS⟩
def nInit : Str := ⟨#[60, 99, 108, 105, 110, 105, 116, 62]⟩
def nVd : Str := ⟨#[40, 41, 86]⟩
def knownC (p : Prog) (nm : Str) : Cls := (clsFind p nm).getD zCl
def fldAt (c : Cls) (nm : Str) : Int := idxFrom (fun f : Fld => beqS f.name nm) c.fields 0
def mthAt (c : Cls) (nm d : Str) : Int := idxFrom (fun m : Meth => beqS m.name nm && beqS m.desc d) c.methods 0
def fldC (c : Cls) (nm : Str) : Option Fld := c.fields.find? fun f => beqS f.name nm
def mthC (c : Cls) (nm d : Str) : Option Meth := c.methods.find? fun m => beqS m.name nm && beqS m.desc d
def getP (p : Prog) (m : MRef) : Option Meth := mthC (knownC p m.cls) m.name m.desc
def fldP (p : Prog) (f : FRef) : Option Fld := fldC (knownC p f.cls) f.name
def fieldW (p : Prog) (f : FRef) : Option FRef := ((supers p f.cls).find? fun s => (fldP p ⟨s, f.name⟩).isSome).map fun s => ⟨s, f.name⟩
def firstP (p : Prog) (l : List Str) (m : MRef) : Option MRef := (l.find? fun s => (getP p ⟨s, m.name, m.desc⟩).isSome).map fun s => ⟨s, m.name, m.desc⟩
def declP (p : Prog) (l : List Str) (m : MRef) (may : Meth → Bool) : Option MRef := match firstP p l m with
 | none => none
 | some r => match getP p r with
  | some x => if may x then some r else none
  | none => none
def mayS (x : Meth) : Bool := x.static
def mayD (x : Meth) : Bool := (!x.static && !x.abs) && !beqS x.name nInit
def mayV (x : Meth) : Bool := !x.static && !beqS x.name nInit
def initP (p : Prog) (c : Str) : Option MRef := match getP p ⟨c, nInit, nVd⟩ with
 | some x => if x.static then some ⟨c, nInit, nVd⟩ else none
 | none => none
def askedP (p : Prog) (x y z : Int) : MRef :=
 if p.classes.length = 0 then ⟨nA, ⟨#[109]⟩, nVd⟩ else
 let c := p.classes.getD (y.tmod p.classes.length).toNat default
 let k := c.methods.getD (z.tmod c.methods.length).toNat default
 ⟨(p.classes.getD (x.tmod p.classes.length).toNat default).name, if c.methods.length = 0 then zS else k.name, if c.methods.length = 0 then zS else k.desc⟩
def fieldQ (p : Prog) (x y z : Int) : FRef :=
 let c := p.classes.getD (y.tmod p.classes.length).toNat default
 ⟨(askedP p x y z).cls, if p.classes.length = 0 then ⟨#[102]⟩ else if c.fields.length = 0 then ⟨#[102]⟩ else (c.fields.getD (z.tmod c.fields.length).toNat default).name⟩
end Go.Sx
namespace Go.Sx
open Go
theorem Z7b (a b : MRef) : ceqs a.cells b.cells = (beqS a.cls b.cls && (beqS a.name b.name && beqS a.desc b.desc)) := rfl
def nm1 : Str := ⟨#[109]⟩
def ns1 : Str := ⟨#[115]⟩
def nf1 : Str := ⟨#[102]⟩
def lfI : Instr := ⟨23, 0, 0, 0, 0, zS, zS, zS, []⟩
def lfM : Meth := ⟨nm1, nVd, false, false, 1, [lfI]⟩
def lfS : Meth := ⟨ns1, nVd, true, false, 0, [lfI]⟩
def lfF : Fld := ⟨nf1, ⟨2, zS⟩, false⟩
def lfA : Cls := ⟨nA, zS, false, false, [], [lfF], [lfM, lfS]⟩
def lfB : Cls := ⟨nB, nA, false, false, [], [], []⟩
def lfP : Prog := ⟨[lfA, lfB], [], ⟨zS, zS, zS⟩⟩
end Go.Sx
namespace Go.Sx
open Go
def cmpT (a b : Str) : Int := if ltS a b then -1 else if ltS b a then 1 else 0
def cmpI (a b : Int) : Int := if a < b then -1 else if b < a then 1 else 0
def orI (a b : Int) : Int := if a = 0 then b else a
structure PreC {α : Type} (f : α → α → Int) : Prop where
 rg : ∀ x y, f x y = -1 ∨ f x y = 0 ∨ f x y = 1
 anti : ∀ x y, f x y = - f y x
 tr : ∀ x y z, f x y ≤ 0 → f y z ≤ 0 → f x z ≤ 0
namespace PreC
variable {α β : Type} {f g : α → α → Int}
theorem str1 (h : PreC f) {x y z : α} (h1 : f x y < 0) (h2 : f y z ≤ 0) : f x z < 0 := by
 have h3 := h.tr x y z (by omega) h2
 have h4 := h.anti x z
 have h5 := h.anti x y
 by_cases e : f x z = 0
 ·have := h.tr y z x h2 (by omega); omega
 ·omega
theorem str2 (h : PreC f) {x y z : α} (h1 : f x y ≤ 0) (h2 : f y z < 0) : f x z < 0 := by
 have h3 := h.tr x y z h1 (by omega)
 have h4 := h.anti x z
 have h5 := h.anti y z
 by_cases e : f x z = 0
 ·have := h.tr z x y (by omega) h1; omega
 ·omega
theorem or (h : PreC f) (k : PreC g) : PreC fun x y => orI (f x y) (g x y) where
 rg x y := by
  unfold orI
  split
  ·exact k.rg x y
  ·exact h.rg x y
 anti x y := by
  have h1 := h.anti x y
  have h2 := k.anti x y
  unfold orI
  by_cases e : f x y = 0
  ·rw [if_pos e, if_pos (by omega)]; exact h2
  ·rw [if_neg e, if_neg (by omega)]; exact h1
 tr x y z h1 h2 := by
  have key : ∀ x y, orI (f x y) (g x y) ≤ 0 ↔ f x y < 0 ∨ (f x y = 0 ∧ g x y ≤ 0) := fun x y => by
   unfold orI; split <;> omega
  rw [key] at h1 h2 ⊢
  rcases h1 with h1 | ⟨h1, h3⟩ <;> rcases h2 with h2 | ⟨h2, h4⟩
  ·exact .inl (h.str1 h1 (by omega))
  ·exact .inl (h.str1 h1 (by omega))
  ·exact .inl (h.str2 (by omega) h2)
  ·have h5 := h.tr x y z (by omega) (by omega)
   have h6 := h.anti x y; have h7 := h.anti y z; have h8 := h.anti x z
   have h9 := h.tr z y x (by omega) (by omega)
   exact .inr ⟨by omega, k.tr x y z h3 h4⟩
theorem on (h : PreC f) (p : β → α) : PreC fun x y => f (p x) (p y) := ⟨fun _ _ => h.rg _ _, fun _ _ => h.anti _ _, fun _ _ _ => h.tr _ _ _⟩
theorem self (h : PreC f) (x : α) : f x x = 0 := by have := h.anti x x; omega
end PreC
theorem cmpT_pre : PreC cmpT where
 rg x y := by unfold cmpT; split; exact .inl rfl; split; exact .inr (.inr rfl); exact .inr (.inl rfl)
 anti x y := by
  unfold cmpT
  cases h : ltS x y with
  | true => rw [ltS_ok.asy _ _ h]; rfl
  | false => cases h2 : ltS y x <;> rfl
 tr x y z h1 h2 := by
  have key : ∀ x y, cmpT x y ≤ 0 ↔ ltS y x = false := fun x y => by
   unfold cmpT
   cases h : ltS x y with
   | true => rw [ltS_ok.asy _ _ h]; simp
   | false => cases h2 : ltS y x <;> simp
  rw [key] at h1 h2 ⊢
  exact ltS_ok.tr x y z h1 h2
theorem Z8p {x y : Str} (h : cmpT x y = 0) : x = y := by
 unfold cmpT at h
 cases h1 : ltS x y with
 | true => rw [h1] at h; cases h
 | false => cases h2 : ltS y x with
  | true => rw [h1, h2] at h; cases h
  | false => exact Zcb h1 h2
theorem Zel {a b : Int} (h : orI a b = 0) : a = 0 ∧ b = 0 := by
 unfold orI at h
 split at h
 ·exact ⟨by assumption, h⟩
 ·exact ⟨h, absurd h (by assumption)⟩
def ltC {α : Type} (f : α → α → Int) (x y : α) : Bool := decide (f x y < 0)
theorem PreC.ltT {α : Type} {f : α → α → Int} (h : PreC f) (he : ∀ x y, f x y = 0 → x = y) : LtT (ltC f) where
 ok := {
  irr := fun x => by unfold ltC; rw [h.self]; rfl
  asy := fun x y hx => by unfold ltC at hx ⊢; have := h.anti x y; simp at hx ⊢; omega
  tr := fun x y z h1 h2 => by
   unfold ltC at h1 h2 ⊢
   simp at h1 h2 ⊢
   have h3 := h.anti x y; have h4 := h.anti y z; have h5 := h.anti x z
   have := h.tr x y z (by omega) (by omega)
   omega }
 tot x y h1 h2 := by
  unfold ltC at h1 h2
  simp at h1 h2
  have := h.anti x y
  exact he x y (by omega)
structure Site where
 m : MRef
 pc : Int
 cls : Str
 deriving DecidableEq
structure Place where
 kind : Int
 m : MRef
 reg : Int
 field : FRef
 site : Site
 deriving DecidableEq
instance : Inhabited MRef := ⟨zMR⟩
instance : Inhabited FRef := ⟨⟨zS, zS⟩⟩
instance : Inhabited Site := ⟨⟨zMR, 0, zS⟩⟩
instance : Inhabited Place := ⟨⟨0, zMR, 0, ⟨zS, zS⟩, ⟨zMR, 0, zS⟩⟩⟩
def Site.cells (s : Site) : List AV := [sA s.m.cls, sA s.m.name, sA s.m.desc, iA s.pc, sA s.cls]
def Site.av (s : Site) : AV := .agg s.cells
def Place.cells (p : Place) : List AV := [iA p.kind, sA p.m.cls, sA p.m.name, sA p.m.desc, iA p.reg, sA p.field.cls, sA p.field.name, sA p.site.m.cls, sA p.site.m.name, sA p.site.m.desc, iA p.site.pc, sA p.site.cls]
def Place.av (p : Place) : AV := .agg p.cells
def sitesA (l : List Site) : AV := .lst (l.map Site.cells)
structure Site.ok (s : Site) : Prop where
 m : s.m.ok
 pc : i64 s.pc
 cls : small s.cls.size
structure FRef.ok (f : FRef) : Prop where
 cls : small f.cls.size
 name : small f.name.size
structure Place.ok (p : Place) : Prop where
 kind : i64 p.kind
 m : p.m.ok
 reg : i64 p.reg
 field : p.field.ok
 site : p.site.ok
def cmpR (a b : MRef) : Int := orI (cmpT a.cls b.cls) (orI (cmpT a.name b.name) (cmpT a.desc b.desc))
def cmpS (a b : Site) : Int := orI (cmpR a.m b.m) (orI (cmpI a.pc b.pc) (cmpT a.cls b.cls))
def cmpP (a b : Place) : Int := orI (cmpI a.kind b.kind) (orI (cmpR a.m b.m) (orI (cmpI a.reg b.reg) (orI (cmpT a.field.cls b.field.cls) (orI (cmpT a.field.name b.field.name) (cmpS a.site b.site)))))
theorem cmpR_pre : PreC cmpR := (cmpT_pre.on MRef.cls).or ((cmpT_pre.on MRef.name).or (cmpT_pre.on MRef.desc))
theorem Zf1 {a b : MRef} (h : cmpR a b = 0) : a = b := by
 obtain ⟨h1, h2⟩ := Zel h
 obtain ⟨h2, h3⟩ := Zel h2
 cases a; cases b
 simp only [MRef.mk.injEq]
 exact ⟨Z8p h1, Z8p h2, Z8p h3⟩
abbrev sLt : Site → Site → Bool := ltC cmpS
def orL : List Int → Int
 | [] => 0
 | x :: r => orI x (orL r)
theorem Za2 {l : List Int} {i : Nat} (h : i < l.length) : orL (l.drop i) = orI (l.getD i default) (orL (l.drop (i + 1))) := by
 rw [Z6h h]; simp [orL, List.getD, h]
theorem Zgg (a : Int) : orI a 0 = a := by unfold orI; split <;> omega
theorem Zbh : ∀ a b : List UInt8, Lib.compareBytes a b = if Op.bytesLess a b then -1 else if Op.bytesLess b a then 1 else 0
 | [], [] => rfl
 | [], _ :: _ => rfl
 | _ :: _, [] => rfl
 | x :: a, y :: b => by
  have ih := Zbh a b
  unfold Lib.compareBytes
  simp only [Op.bytesLess]
  by_cases h1 : x < y
  ·simp [h1]
  ·by_cases h2 : y < x
   ·have h3 : ¬ x = y := fun e => by subst e; simp at h2
    simp [h1, h2, h3]
   ·have e : x = y := UInt8.toNat_inj.1 (by simp [UInt8.lt_iff_toNat_lt] at h1 h2; omega)
    subst e
    simp [h1, ih]
theorem Zam (a b : Str) : Lib.compareBytes a.data.toList b.data.toList = cmpT a b := by
 rw [Zbh]
 unfold cmpT ltS
 rw [ByteArray.toList_eq, ByteArray.toList_eq]
section
variable {P : Program} {T : List (Nat × AV)} {o : Oper}
theorem Zdi {f : Nat} {fn : Func} {p q : Operand} {ats : Array TypeId} {x y : Str} (ho : o.op = .call { callee := .value (.func f), args := #[p, q], argTypes := ats }) (hf : P.funcs[f]? = some fn) (hname : (fn.name == "runtime.NumGoroutine") = false)
  (hb : fn.body.isNone = true) (hn : Extern.findNext fn = none) (he : Extern.find fn = some Extern.BytealgCompare.compare) (hp : ev T p = some (sA x)) (hq : ev T q = some (sA y)) : Eff P o T [] (iA (cmpT x y)) [] :=
 Z01 (by intro c; rw [ho]; nofun) fun C H a w hw hH hv => by
  have h1 := VR.val (hv p (by rw [ho]; simp [Op.operands, Call.operands]) _ hp)
  have h2 := VR.val (hv q (by rw [ho]; simp [Op.operands, Call.operands]) _ hq)
  refine ⟨.int .i64 (cmpT x y), ?_, .v _⟩
  have key := run_callFunc_extern hf hname hb hn he #[.string x, .string y] w
  rw [Lib.run_compareString, Zam] at key
  simp only [execOp, ho, Sem.run_bind, resolve, Deferred.ofValue, Sem.run_pure, Result.andThen, invoke, Act.eval]
  simpa [h1, h2, Result.andThen] using key
end
section
variable {P : Program} {t s i tr tf ts : TypeId}
end
end Go.Sx
namespace Go.Sx
open Go
structure GSt where
 i : Nat
 t : Nat
 b : Nat
 k : Nat
def allStar (p : ByteArray) (i : Nat) : Bool := (List.range (p.size - i)).all fun d => decide (byteAt p ((i + d : Nat) : Int) = 42)
def globF (p s : ByteArray) : Nat → GSt → Bool
 | 0, _ => false
 | f + 1, x =>
  if x.k < s.size then
   if x.i < p.size ∧ byteAt p x.i = 42 then globF p s f ⟨x.i + 1, x.i + 1, x.k, x.k⟩
   else if x.i < p.size ∧ (byteAt p x.i = 63 ∨ byteAt p x.i = byteAt s x.k) then globF p s f ⟨x.i + 1, x.t, x.b, x.k + 1⟩
   else if 0 < x.t then globF p s f ⟨x.t, x.t, x.b + 1, x.b + 1⟩
   else false
  else allStar p x.i
structure GSt.ok (p s : ByteArray) (x : GSt) : Prop where
 i : x.i ≤ p.size
 t : x.t ≤ x.i
 b : x.b ≤ x.k
 k : x.k ≤ s.size
def gmu (p s : ByteArray) (x : GSt) : Nat := (p.size - x.t) * ((s.size + 1) * (p.size + s.size + 1)) + ((s.size - x.b) * (p.size + s.size + 1) + ((p.size - x.i) + (s.size - x.k)))
section
variable {p s : ByteArray} {x : GSt}
theorem Z9s (h : x.ok p s) (hk : x.k < s.size) (hi : x.i < p.size) : gmu p s ⟨x.i + 1, x.i + 1, x.k, x.k⟩ < gmu p s x := by
 unfold gmu
 simp only
 have h1 := h.t
 generalize hN : p.size + s.size + 1 = N
 have hA : p.size - (x.i + 1) + 1 ≤ p.size - x.t := by omega
 have hB : (s.size - x.k) * N ≤ s.size * N := Nat.mul_le_mul_right _ (by omega)
 have hM := Nat.mul_le_mul_right ((s.size + 1) * N) hA
 rw [Nat.add_mul, Nat.one_mul] at hM
 have hE : (s.size + 1) * N = s.size * N + N := by rw [Nat.add_mul, Nat.one_mul]
 omega
theorem Z9r (h : x.ok p s) (hk : x.k < s.size) (hi : x.i < p.size) : gmu p s ⟨x.i + 1, x.t, x.b, x.k + 1⟩ < gmu p s x := by
 unfold gmu
 simp only
 omega
theorem Z9q (h : x.ok p s) (hk : x.k < s.size) : gmu p s ⟨x.t, x.t, x.b + 1, x.b + 1⟩ < gmu p s x := by
 unfold gmu
 simp only
 have h1 := h.t; have h2 := h.i; have h3 := h.b
 generalize hN : p.size + s.size + 1 = N
 have hA : s.size - (x.b + 1) + 1 ≤ s.size - x.b := by omega
 have hM := Nat.mul_le_mul_right N hA
 rw [Nat.add_mul, Nat.one_mul] at hM
 omega
theorem Z94 (h : x.ok p s) (hi : x.i < p.size) : GSt.ok p s ⟨x.i + 1, x.i + 1, x.k, x.k⟩ := ⟨hi, Nat.le_refl _, Nat.le_refl _, h.k⟩
theorem Z93 (h : x.ok p s) (hk : x.k < s.size) (hi : x.i < p.size) : GSt.ok p s ⟨x.i + 1, x.t, x.b, x.k + 1⟩ := ⟨hi, Nat.le_succ_of_le h.t, Nat.le_succ_of_le h.b, hk⟩
theorem Z92 (h : x.ok p s) (hk : x.k < s.size) : GSt.ok p s ⟨x.t, x.t, x.b + 1, x.b + 1⟩ := ⟨by have := h.t; have := h.i; simp only; omega, Nat.le_refl _, Nat.le_refl _, by have := h.b; simp only; omega⟩
theorem Z24 : ∀ (n m : Nat) (x : GSt), x.ok p s → gmu p s x < n → gmu p s x < m → globF p s n x = globF p s m x
 | 0, m, x, _, h, _ => by omega
 | n + 1, 0, x, _, _, h => by omega
 | n + 1, m + 1, x, hx, h1, h2 => by
  unfold globF
  by_cases hk : x.k < s.size
  ·rw [if_pos hk, if_pos hk]
   by_cases h3 : x.i < p.size ∧ byteAt p x.i = 42
   ·rw [if_pos h3, if_pos h3]
    have := Z9s hx hk h3.1
    exact Z24 n m _ (Z94 hx h3.1) (by omega) (by omega)
   ·rw [if_neg h3, if_neg h3]
    by_cases h4 : x.i < p.size ∧ (byteAt p x.i = 63 ∨ byteAt p x.i = byteAt s x.k)
    ·rw [if_pos h4, if_pos h4]
     have := Z9r hx hk h4.1
     exact Z24 n m _ (Z93 hx hk h4.1) (by omega) (by omega)
    ·rw [if_neg h4, if_neg h4]
     by_cases h5 : 0 < x.t
     ·rw [if_pos h5, if_pos h5]
      have := Z9q hx hk
      exact Z24 n m _ (Z92 hx hk) (by omega) (by omega)
     ·rw [if_neg h5, if_neg h5]
  ·rw [if_neg hk, if_neg hk]
end
def globM (p s : ByteArray) : Bool := globF p s (gmu p s ⟨0, 0, 0, 0⟩ + 1) ⟨0, 0, 0, 0⟩
structure GJ (p s : ByteArray) (x : GSt) : Prop where
 ok : x.ok p s
 e : globF p s (gmu p s x + 1) x = globM p s
section
variable {p s : ByteArray} {x : GSt}
theorem GJ.start (p s : ByteArray) : GJ p s ⟨0, 0, 0, 0⟩ := ⟨⟨Nat.zero_le _, Nat.le_refl _, Nat.le_refl _, Nat.zero_le _⟩, rfl⟩
theorem GJ.star (h : GJ p s x) (hk : x.k < s.size) (hi : x.i < p.size) (hb : byteAt p x.i = 42) : GJ p s ⟨x.i + 1, x.i + 1, x.k, x.k⟩ := by
 refine ⟨Z94 h.ok hi, ?_⟩
 have hm := Z9s h.ok hk hi
 rw [← h.e, Z24 _ (gmu p s x) _ (Z94 h.ok hi) (by omega) hm]
 conv => rhs; unfold globF
 rw [if_pos hk, if_pos ⟨hi, hb⟩]
theorem GJ.byte (h : GJ p s x) (hk : x.k < s.size) (hi : x.i < p.size) (h0 : byteAt p x.i ≠ 42) (hb : byteAt p x.i = 63 ∨ byteAt p x.i = byteAt s x.k) : GJ p s ⟨x.i + 1, x.t, x.b, x.k + 1⟩ := by
 refine ⟨Z93 h.ok hk hi, ?_⟩
 have hm := Z9r h.ok hk hi
 rw [← h.e, Z24 _ (gmu p s x) _ (Z93 h.ok hk hi) (by omega) hm]
 conv => rhs; unfold globF
 rw [if_pos hk, if_neg (fun h => h0 h.2), if_pos ⟨hi, hb⟩]
theorem GJ.back (h : GJ p s x) (hk : x.k < s.size) (h0 : ¬ (x.i < p.size ∧ byteAt p x.i = 42)) (hb : ¬ (x.i < p.size ∧ (byteAt p x.i = 63 ∨ byteAt p x.i = byteAt s x.k))) (ht : 0 < x.t) : GJ p s ⟨x.t, x.t, x.b + 1, x.b + 1⟩ := by
 refine ⟨Z92 h.ok hk, ?_⟩
 have hm := Z9q h.ok hk
 rw [← h.e, Z24 _ (gmu p s x) _ (Z92 h.ok hk) (by omega) hm]
 conv => rhs; unfold globF
 rw [if_pos hk, if_neg h0, if_neg hb, if_pos ht]
theorem GJ.no (h : GJ p s x) (hk : x.k < s.size) (h0 : ¬ (x.i < p.size ∧ byteAt p x.i = 42)) (hb : ¬ (x.i < p.size ∧ (byteAt p x.i = 63 ∨ byteAt p x.i = byteAt s x.k))) (ht : ¬ 0 < x.t) : globM p s = false := by
 rw [← h.e]
 unfold globF
 rw [if_pos hk, if_neg h0, if_neg hb, if_neg ht]
theorem GJ.fin (h : GJ p s x) (hk : ¬ x.k < s.size) : globM p s = allStar p x.i := by
 rw [← h.e]
 unfold globF
 rw [if_neg hk]
end
def plainG (p : ByteArray) : Prop := ∀ i, i < p.size → byteAt p (i : Nat) ≠ 42 ∧ byteAt p (i : Nat) ≠ 63
end Go.Sx
namespace Go.Sx
open Go
section
variable {α : Type} [Inhabited α] [DecidableEq α] {lt : α → α → Bool}
def eqG (x y : α) : Bool := decide (x = y)
theorem eqG_iff {x y : α} : eqG x y = true ↔ x = y := by unfold eqG; simp
theorem Zdn (x : α) : eqG x x = true := eqG_iff.2 rfl
def cptSG (l : List α) (n : Nat) : Bool := !eqG (l.getD n default) (l.getD (n - 1) default)
def cptNG (l : List α) (n : Nat) : List α := ((List.range n).filter fun k => Nat.beq k 0 || cptSG l k).map fun k => l.getD k default
theorem Z1m (l : List α) (n : Nat) : cptNG l (n + 1) = cptNG l n ++ (if Nat.beq n 0 || cptSG l n then [l.getD n default] else []) := by
 unfold cptNG
 rw [List.range_succ, List.filter_append, List.map_append]
 congr 1
 simp only [List.filter_cons, List.filter_nil]
 split <;> rfl
theorem Z2q {l : List α} : ∀ {n : Nat}, n ≤ l.length → (∀ k, 0 < k → k < n → cptSG l k = true) → cptNG l n = l.take n
 | 0, _, _ => rfl
 | n + 1, hn, h => by
  rw [Z1m, Z2q (by omega) (fun k h0 hk => h k h0 (by omega)), Z1i (show n < l.length by omega)]
  congr 1
  rw [if_pos]
  ·rw [Z4j (show n < l.length by omega)]
  ·cases n with
   | zero => rfl
   | succ n => rw [h (n + 1) (by omega) (by omega), Bool.or_true]
theorem Z3l {l : List α} : ∀ {n : Nat} {s : α}, n ≤ l.length → (s ∈ cptNG l n ↔ ∃ k, k < n ∧ l.getD k default = s)
 | 0, s, _ => ⟨fun h => by simp [cptNG] at h, fun ⟨k, h, _⟩ => by omega⟩
 | n + 1, s, hn => by
  rw [Z1m, List.mem_append, Z3l (n := n) (by omega)]
  constructor
  ·rintro (⟨k, h1, h2⟩ | h)
   ·exact ⟨k, by omega, h2⟩
   ·split at h
    ·rw [List.mem_singleton] at h; exact ⟨n, by omega, h.symm⟩
    ·cases h
  ·rintro ⟨k, h1, h2⟩
   by_cases hk : k < n
   ·exact .inl ⟨k, hk, h2⟩
   ·have : k = n := by omega
    subst this
    by_cases hb : (Nat.beq k 0 || cptSG l k) = true
    ·exact .inr (by rw [if_pos hb, List.mem_singleton]; exact h2.symm)
    ·rw [Bool.not_eq_true, Bool.or_eq_false_iff] at hb
     have h0 : k ≠ 0 := fun e => by subst e; cases hb.1
     have h3 : eqG (l.getD k default) (l.getD (k - 1) default) = true := by have := hb.2; unfold cptSG at this; cases h : eqG (l.getD k default) (l.getD (k - 1) default) with
      | true => rfl
      | false => rw [h] at this; cases this
     exact .inl ⟨k - 1, by omega, by rw [← h2]; exact (eqG_iff.1 h3).symm⟩
structure CptJG (l : List α) (k : Nat) (m : List α) (k2 j : Nat) : Prop where
 h1 : 1 ≤ j
 h2 : j ≤ l.length - k
 h3 : k ≤ k2
 h4 : k2 + 1 ≤ k + j
 hl : m.length = l.length
 ht : m.take k2 = cptNG l (k + j)
 ho : ∀ i, k2 ≤ i → m.getD i default = l.getD i default
theorem CptJG.start {l : List α} {k : Nat} (h0 : 1 ≤ k) (h1 : k < l.length) (h : ∀ i, 0 < i → i < k → cptSG l i = true) (he : eqG (l.getD k default) (l.getD (k - 1) default) = true) : CptJG l k l k 1 := by
 refine ⟨Nat.le_refl _, by omega, Nat.le_refl _, Nat.le_refl _, rfl, ?_, fun _ _ => rfl⟩
 rw [Z1m, if_neg, List.append_nil, Z2q (by omega) h]
 unfold cptSG
 rw [he]
 simp
 omega
theorem CptJG.keep {l m : List α} {k k2 j : Nat} (h : CptJG l k m k2 j) (hj : j < l.length - k) (he : eqG (m.getD (k + j) default) (m.getD (k + (j - 1)) default) = true) : CptJG l k m k2 (j + 1) := by
 have g1 := h.h1
 have g4 := h.h4
 refine ⟨by omega, by omega, h.h3, by omega, h.hl, ?_, h.ho⟩
 rw [h.ho _ (by omega), h.ho _ (by omega)] at he
 rw [show k + (j + 1) = (k + j) + 1 by omega, Z1m, if_neg, List.append_nil]
 ·exact h.ht
 ·unfold cptSG
  rw [show k + j - 1 = k + (j - 1) by omega, he]
  simp
  omega
theorem CptJG.put {l m : List α} {k k2 j : Nat} (h : CptJG l k m k2 j) (hj : j < l.length - k) (he : (!eqG (m.getD (k + j) default) (m.getD (k + (j - 1)) default)) = true) : CptJG l k (m.set k2 (m.getD (k + j) default)) (k2 + 1) (j + 1) := by
 have g1 := h.h1
 have g4 := h.h4
 have gl := h.hl
 have hx := h.ho (k + j) (by omega)
 have h0 := h.ho (k + (j - 1)) (by omega)
 refine ⟨by omega, by omega, by have := h.h3; omega, by omega, by rw [List.length_set]; exact gl, ?_, ?_⟩
 ·rw [hx, h0] at he
  rw [show k + (j + 1) = (k + j) + 1 by omega, Z1m, if_pos, ← h.ht]
  ·rw [Z1i (by rw [List.length_set]; omega), List.take_set_of_le (Nat.le_refl _), List.getElem_set_self, hx]
  ·unfold cptSG
   rw [show k + j - 1 = k + (j - 1) by omega, he, Bool.or_true]
 ·intro i hi
  rw [← h.ho i (by omega)]
  simp only [List.getD, List.getElem?_set]
  rw [if_neg (by omega)]
theorem CptJG.fin {l m : List α} {k k2 j : Nat} (h : CptJG l k m k2 j) (hk : k < l.length) (hj : ¬ j < l.length - k) : m.take k2 = cptNG l l.length ∧ k2 < l.length := by
 have g2 := h.h2
 have g4 := h.h4
 refine ⟨?_, by omega⟩
 rw [h.ht]
 congr 1
 omega
theorem Zbi (hO : LtT lt) {m l : List α} (hp : m.Perm l) (hs : SOn lt 0 m.length m) : cptNG m m.length = risG lt l := by
 have hmono : ∀ i j, i ≤ j → j < m.length → lt (m.getD j default) (m.getD i default) = false := fun i j h1 h2 => hs i j (Nat.zero_le _) h1 h2
 have hlt : ∀ n, n ≤ m.length → (cptNG m n).Pairwise (fun x y => lt x y = true) ∧ ∀ x, x ∈ cptNG m n → ∀ k, n ≤ k → k < m.length → lt (m.getD k default) x = false := by
  intro n
  induction n with
  | zero => intro _; exact ⟨by simp [cptNG], fun x hx => by simp [cptNG] at hx⟩
  | succ n ih =>
   intro hn
   obtain ⟨h1, h2⟩ := ih (by omega)
   have h3 : ∀ x, x ∈ cptNG m (n + 1) → ∀ k, n + 1 ≤ k → k < m.length → lt (m.getD k default) x = false := by
    intro x hx k hk hkl
    obtain ⟨i, hi, rfl⟩ := (Z3l (by omega)).1 hx
    exact hmono i k (by omega) hkl
   refine ⟨?_, h3⟩
   rw [Z1m]
   split
   ·rename_i hc
    rw [List.pairwise_append]
    refine ⟨h1, List.pairwise_singleton .., ?_⟩
    intro a ha b hb
    rw [List.mem_singleton] at hb
    subst hb
    obtain ⟨i, hi, rfl⟩ := (Z3l (by omega)).1 ha
    cases hlt : lt (m.getD i default) (m.getD n default) with
    | true => rfl
    | false =>
     exfalso
     have e1 := hO.tot _ _ hlt (hmono i n (by omega) (by omega))
     -- then the one ahead of it is the same, too
     have h0 : 0 < n := by omega
     have h4 : lt (m.getD (n - 1) default) (m.getD i default) = false := hmono i (n - 1) (by omega) (by omega)
     have h5 : lt (m.getD n default) (m.getD (n - 1) default) = false := hmono (n - 1) n (by omega) (by omega)
     have h6 : m.getD (n - 1) default = m.getD n default := by
      refine hO.tot _ _ ?_ h5
      rw [← e1]; exact h4
     have h7 : cptSG m n = true := by
      rcases Bool.or_eq_true_iff.1 hc with h | h
      ·have := Nat.eq_of_beq_eq_true h; omega
      ·exact h
     unfold cptSG at h7
     rw [h6, Zdn] at h7; cases h7
   ·rw [List.append_nil]; exact h1
 obtain ⟨h1, _⟩ := hlt m.length (Nat.le_refl _)
 have hnd : (cptNG m m.length).Nodup := h1.imp (fun h e => by rw [e, hO.ok.irr] at h; cases h)
 have hmem : ∀ s, s ∈ cptNG m m.length ↔ s ∈ l := fun s => by
  rw [Z3l (Nat.le_refl _), ← hp.mem_iff, List.mem_iff_getElem]
  constructor
  ·rintro ⟨k, hk, rfl⟩; exact ⟨k, hk, (Z4j hk).symm⟩
  ·rintro ⟨k, hk, rfl⟩; exact ⟨k, hk, Z4j hk⟩
 refine Z97 hO hnd ?_ hmem
 intro i j _ hij hj
 rcases Nat.lt_or_eq_of_le hij with h | h
 ·have h2 := List.pairwise_iff_getElem.1 h1 i j (by omega) hj h
  rw [Z4j hj, Z4j (by omega)]
  exact hO.ok.asy _ _ h2
 ·subst h; exact hO.ok.irr _
def mrgF (lt : α → α → Bool) : Nat → List α → List α → List α
 | 0, a, b => a ++ b
 | _ + 1, [], b => b
 | _ + 1, a, [] => a
 | f + 1, x :: a, y :: b => if lt x y then x :: mrgF lt f a (y :: b) else if lt y x then y :: mrgF lt f (x :: a) b else x :: mrgF lt f a b
def mrgG (lt : α → α → Bool) (a b : List α) : List α := mrgF lt (a.length + b.length) a b
theorem Z2j (f : Nat) (b : List α) : mrgF lt f [] b = b := by cases f <;> rfl
theorem Z5i (f : Nat) (a : List α) : mrgF lt f a [] = a := by cases f <;> cases a <;> simp [mrgF]
structure MrgJ (lt : α → α → Bool) (a b : List α) (o : List α) (i j : Nat) : Prop where
 h1 : i ≤ a.length
 h2 : j ≤ b.length
 h3 : o.length ≤ i + j
 e : o ++ mrgF lt (a.length - i + (b.length - j)) (a.drop i) (b.drop j) = mrgG lt a b
theorem MrgJ.start (a b : List α) : MrgJ lt a b [] 0 0 := ⟨Nat.zero_le _, Nat.zero_le _, Nat.zero_le _, rfl⟩
theorem Z2u {l : List α} {i : Nat} (h : i < l.length) : l.drop i = l.getD i default :: l.drop (i + 1) := by rw [Z4j h]; exact List.drop_eq_getElem_cons h
theorem Ze3 (hO : LtT lt) {f g : Nat} : ∀ {a b : List α}, a.length + b.length ≤ f → a.length + b.length ≤ g → mrgF lt f a b = mrgF lt g a b := by
 induction f generalizing g with
 | zero =>
  intro a b h1 h2
  have e1 : a = [] := by cases a with | nil => rfl | cons => simp at h1
  have e2 : b = [] := by cases b with | nil => rfl | cons => simp at h1
  subst e1; subst e2; rw [Z2j, Z2j]
 | succ f ih =>
  intro a b h1 h2
  cases a with
  | nil => rw [Z2j, Z2j]
  | cons x a =>
   cases b with
   | nil => rw [Z5i, Z5i]
   | cons y b =>
    cases g with
    | zero => simp at h2
    | succ g =>
     simp only [List.length_cons] at h1 h2
     unfold mrgF
     rw [ih (g := g) (a := a) (b := y :: b) (by simp only [List.length_cons]; omega) (by simp only [List.length_cons]; omega), ih (g := g) (a := x :: a) (b := b) (by simp only [List.length_cons]; omega) (by simp only [List.length_cons]; omega), ih (g := g) (a := a) (b := b) (by omega) (by omega)]
theorem Z90 (f : Nat) (x y : α) (a b : List α) : mrgF lt (f + 1) (x :: a) (y :: b) = if lt x y then x :: mrgF lt f a (y :: b) else if lt y x then y :: mrgF lt f (x :: a) b else x :: mrgF lt f a b := by rw [mrgF]
theorem MrgJ.lo (hO : LtT lt) {a b o : List α} {i j : Nat} (h : MrgJ lt a b o i j) (hi : i < a.length) (hj : j < b.length) (hlt : lt (a.getD i default) (b.getD j default) = true) : MrgJ lt a b (o ++ [a.getD i default]) (i + 1) j := by
 refine ⟨hi, h.h2, by have := h.h3; simp; omega, ?_⟩
 rw [← h.e, Z2u hi, Z2u hj, show a.length - i + (b.length - j) = (a.length - (i + 1) + (b.length - j)) + 1 by omega]
 rw [Z90, if_pos hlt, List.append_assoc]
 rfl
theorem MrgJ.hi (hO : LtT lt) {a b o : List α} {i j : Nat} (h : MrgJ lt a b o i j) (hi : i < a.length) (hj : j < b.length) (hlt : lt (a.getD i default) (b.getD j default) = false) (hgt : lt (b.getD j default) (a.getD i default) = true) : MrgJ lt a b (o ++ [b.getD j default]) i (j + 1) := by
 refine ⟨h.h1, hj, by have := h.h3; simp; omega, ?_⟩
 rw [← h.e, Z2u hi, Z2u hj, show a.length - i + (b.length - j) = (a.length - i + (b.length - (j + 1))) + 1 by omega]
 rw [Z90, if_neg (by rw [hlt]; simp), if_pos hgt, List.append_assoc]
 rfl
theorem MrgJ.eq (hO : LtT lt) {a b o : List α} {i j : Nat} (h : MrgJ lt a b o i j) (hi : i < a.length) (hj : j < b.length) (he : a.getD i default = b.getD j default) : MrgJ lt a b (o ++ [a.getD i default]) (i + 1) (j + 1) := by
 refine ⟨hi, hj, by have := h.h3; simp; omega, ?_⟩
 rw [← h.e, Z2u hi, Z2u hj, show a.length - i + (b.length - j) = (a.length - (i + 1) + (b.length - (j + 1)) + 1) + 1 by omega]
 rw [Z90, ← he, if_neg (by rw [hO.ok.irr]; simp), if_neg (by rw [hO.ok.irr]; simp), List.append_assoc]
 rw [Ze3 hO (f := a.length - (i + 1) + (b.length - (j + 1))) (g := a.length - (i + 1) + (b.length - (j + 1)) + 1) (by simp only [List.length_drop]; omega) (by simp only [List.length_drop]; omega)]
 rfl
theorem MrgJ.fin {a b o : List α} {i j : Nat} (h : MrgJ lt a b o i j) (he : ¬ (i < a.length ∧ j < b.length)) : o ++ a.drop i ++ b.drop j = mrgG lt a b := by
 rw [← h.e, List.append_assoc]
 congr 1
 by_cases hi : i < a.length
 ·rw [List.drop_of_length_le (l := b) (by omega), Z5i, List.append_nil]
 ·rw [List.drop_of_length_le (l := a) (by omega), Z2j, List.nil_append]
structure DelJ (f : α → Bool) (l m : List α) (i j : Nat) : Prop where
 h1 : i < j
 h2 : j ≤ l.length
 hl : m.length = l.length
 ht : m.take i = (l.take j).filter fun x => !f x
 ho : ∀ k, j ≤ k → m.getD k default = l.getD k default
theorem DelJ.start {f : α → Bool} {l : List α} {i : Nat} (hi : i < l.length) (h1 : ∀ k, k < i → f (l.getD k default) = false) (h2 : f (l.getD i default) = true) : DelJ f l l i (i + 1) := by
 refine ⟨by omega, hi, rfl, ?_, fun _ _ => rfl⟩
 rw [Z1i hi, List.filter_append, List.filter_cons, ← Z4j hi, h2]
 simp only [Bool.not_true, Bool.false_eq_true, if_false, List.filter_nil, List.append_nil]
 rw [List.filter_eq_self.2]
 intro x hx
 obtain ⟨k, hk, e⟩ := List.mem_iff_getElem.1 hx
 rw [List.length_take] at hk
 rw [List.getElem_take] at e
 rw [← e, ← Z4j (by omega), h1 k (by omega)]; rfl
theorem DelJ.drop {f : α → Bool} {l m : List α} {i j : Nat} (h : DelJ f l m i j) (hj : j < l.length) (hf : f (m.getD j default) = true) : DelJ f l m i (j + 1) := by
 rw [h.ho j (Nat.le_refl _)] at hf
 refine ⟨by have := h.h1; omega, hj, h.hl, ?_, fun k hk => h.ho k (by omega)⟩
 rw [Z1i hj, List.filter_append, List.filter_cons, ← Z4j hj, hf]
 simpa using h.ht
theorem DelJ.put {f : α → Bool} {l m : List α} {i j : Nat} (h : DelJ f l m i j) (hj : j < l.length) (hf : f (m.getD j default) = false) : DelJ f l (m.set i (m.getD j default)) (i + 1) (j + 1) := by
 have h1 := h.h1
 have hl := h.hl
 have e := h.ho j (Nat.le_refl _)
 refine ⟨by omega, hj, by rw [List.length_set]; exact hl, ?_, fun k hk => ?_⟩
 ·rw [Z1i hj, List.filter_append, List.filter_cons, ← Z4j hj, ← e, hf, ← h.ht]
  rw [Z1i (by rw [List.length_set]; omega), List.take_set_of_le (Nat.le_refl _), List.getElem_set_self]
  rfl
 ·rw [← h.ho k (by omega)]
  simp only [List.getD, List.getElem?_set]
  rw [if_neg (by omega)]
theorem DelJ.fin {f : α → Bool} {l m : List α} {i j : Nat} (h : DelJ f l m i j) (hj : ¬ j < l.length) : m.take i = l.filter fun x => !f x := by
 rw [h.ht, List.take_of_length_le (by omega)]
end
end Go.Sx
namespace Go.Sx
open Go
structure Rule where
 names : Bool
 member : Bool
 cls : Str
 name : Str
 desc : Str
 deriving DecidableEq
structure Roots where
 classes : List Str
 fields : List FRef
 methods : List MRef
 classNames : List Str
 fieldNames : List Str
 methodNames : List Str
 lookups : List Str
 deriving DecidableEq
instance : Inhabited Rule := ⟨⟨false, false, zS, zS, zS⟩⟩
def Rule.cells (r : Rule) : List AV := [bA r.names, bA r.member, sA r.cls, sA r.name, sA r.desc]
def Rule.av (r : Rule) : AV := .agg r.cells
def Roots.cells (r : Roots) : List AV := [row1 sA r.classes, .lst (r.fields.map FRef.cells), .lst (r.methods.map MRef.cells), row1 sA r.classNames, row1 sA r.fieldNames, row1 sA r.methodNames, row1 sA r.lookups]
def Roots.av (r : Roots) : AV := .agg r.cells
def FRef.av' (f : FRef) : AV := .agg f.cells
structure Rule.ok (r : Rule) : Prop where
 cls : small r.cls.size
 name : small r.name.size
 desc : small r.desc.size
def seenG (p : Str) (i : Nat) : Bool := decide (32 < byteAt p (i : Nat)) && decide (byteAt p (i : Nat) ≤ 126)
def globR (p : Str) : Bool := ((List.range p.size).all (seenG p)) && (!beqS p zS && decide (p.size ≤ 64))
def ruleR (r : Rule) : Bool := globR r.cls && (if r.member then globR r.name && globR r.desc else beqS r.name zS && beqS r.desc zS)
def clsR (r : Rule) (c : Str) : Bool := (!r.member && ruleR r) && globM r.cls c
def nInit' : Str := ⟨#[60, 99, 108, 105, 110, 105, 116, 62]⟩
def memR (r : Rule) (c n d : Str) : Bool := ((r.member && ruleR r) && !beqS n nInit') && ((globM r.cls c && globM r.name n) && globM r.desc d)
def anyR (l : List Rule) (f : Rule → Bool) : Bool := l.any f
def nmsR (l : List Rule) (f : Rule → Bool) : Bool := l.any fun r => f r && r.names
structure Ga where
 cl : List Str
 fd : List FRef
 md : List MRef
 cn : List Str
 fn : List Str
 mn : List Str
 lk : List Str
def Ga.nil : Ga := ⟨[], [], [], [], [], [], []⟩
def Ga.app (a b : Ga) : Ga := ⟨a.cl ++ b.cl, a.fd ++ b.fd, a.md ++ b.md, a.cn ++ b.cn, a.fn ++ b.fn, a.mn ++ b.mn, a.lk ++ b.lk⟩
def Ga.sum (l : List Ga) : Ga := l.foldr Ga.app .nil
def okB {α : Type} (b : Bool) (x : α) : List α := if b then [x] else []
section
variable (txt : Ty → Str) (p : Prog) (l : List Rule)
def fHold (ref : FRef) (r : Rule) : Bool := (fldP p ref).isSome && memR r ref.cls ((fldP p ref).getD zFl).name (txt ((fldP p ref).getD zFl).type)
def mHold (ref : MRef) (r : Rule) : Bool := (getP p ref).isSome && memR r ref.cls ref.name ref.desc
def nAsk : Str := ⟨#[40, 41, 73]⟩
def nDot : Str := ⟨#[46]⟩
def gaF (ref : FRef) : Ga := ⟨okB (anyR l (fHold txt p ref)) ref.cls, okB (anyR l (fHold txt p ref)) ref, [], [], okB (nmsR l (fHold txt p ref)) ((fldP p ref).getD zFl).name, [], []⟩
def gaM (ref : MRef) : Ga := ⟨okB (anyR l (mHold p ref)) ref.cls, [], okB (anyR l (mHold p ref)) ref, [], [], okB (nmsR l (mHold p ref)) (ref.name ++ ref.desc), okB (anyR l (mHold p ref) && (((getP p ref).getD zMt).static && beqS ref.desc nAsk)) ((ref.cls ++ nDot) ++ ref.name)⟩
def gaK (c : Cls) : Ga := ⟨okB (anyR l (clsR · c.name)) c.name, [], [], okB (nmsR l (clsR · c.name)) c.name, [], [], []⟩
def gaFs (c : Cls) : List Ga := c.fields.map fun f => gaF txt p l ⟨c.name, f.name⟩
def gaMs (c : Cls) : List Ga := c.methods.map fun m => gaM p l ⟨c.name, m.name, m.desc⟩
def gaC (c : Cls) : Ga := ((gaK l c).app (Ga.sum (gaFs txt p l c))).app (Ga.sum (gaMs p l c))
def gaP : Ga := Ga.sum (p.classes.map (gaC txt p l))
end
abbrev tLt : Str → Str → Bool := ltC cmpT
def cmpF (a b : FRef) : Int := orI (cmpT a.cls b.cls) (cmpT a.name b.name)
abbrev fLt : FRef → FRef → Bool := ltC cmpF
abbrev mLt : MRef → MRef → Bool := ltC cmpR
theorem mLtT : LtT mLt := cmpR_pre.ltT fun _ _ => Zf1
def rootsG (g : Ga) : Roots := ⟨risG tLt g.cl, risG fLt g.fd, risG mLt g.md, risG tLt g.cn, risG tLt g.fn, risG tLt g.mn, risG tLt (g.lk ++ g.cl)⟩
structure Ga.le (a b : Ga) : Prop where
 cl : ∀ x, x ∈ a.cl → x ∈ b.cl
 fd : ∀ x, x ∈ a.fd → x ∈ b.fd
 md : ∀ x, x ∈ a.md → x ∈ b.md
 cn : ∀ x, x ∈ a.cn → x ∈ b.cn
 fn : ∀ x, x ∈ a.fn → x ∈ b.fn
 mn : ∀ x, x ∈ a.mn → x ∈ b.mn
 lk : ∀ x, x ∈ a.lk → x ∈ b.lk
def withinR (a b : Roots) : Bool := (a.fields.all (hasG b.fields) && a.methods.all (hasG b.methods)) && ((((a.classes.all (hasG b.classes) && a.classNames.all (hasG b.classNames)) && a.fieldNames.all (hasG b.fieldNames)) && a.methodNames.all (hasG b.methodNames)) && a.lookups.all (hasG b.lookups))
end Go.Sx
