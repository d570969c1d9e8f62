/- YtgaifmhbijbfgaaGreatRaB4: texts of this claim, one behind the other. -/
import Derived.RecoverIn
import Derived.LoopNIn
import Derived.Test.YtgaifmhbijbfgaaGreatRaB3
set_option linter.unusedVariables false
set_option linter.unusedSimpArgs false
set_option linter.unusedSectionVars false
set_option linter.unnecessarySimpa false
namespace Go.Sx
open Go
theorem Zch (id : Nat) {f : Fn} {cs xs : List AV} {d : Deferred} {cv : Array Value} {Z : List Nat} {C : Ctx} {H : AHeap} {w : World} (hw : WR C H w) (hid' : id ∉ C.U) (hZ : id ∉ Z) (ht : d.target = .fn f cv) (hcs : VRs C cs cv) (hxs : VRs C xs d.args) :
  ∃ C', WR C' ((id, .dfr f cs xs) :: H) w ∧ Ext Z C H w C' ((id, .dfr f cs xs) :: H) w ∧ mark C' id = d ∧ id ∈ C'.U := by
 let C' : Ctx := { hp := C.hp, m := fun i => if i = id then none else C.m i, U := id :: C.U, df := fun i => if i = id then some d else C.df i }
 have hm0 : C'.m id = none := if_pos rfl
 have hd0 : C'.df id = some d := if_pos rfl
 have hm : ∀ i, i ≠ id → C'.m i = C.m i := fun i hi => if_neg hi
 have hle : C.Le C' := ⟨fun _ _ h => h, fun i hi => hm i (by rintro rfl; exact hid' hi), fun i hi => List.mem_cons_of_mem _ hi, fun i hi => if_neg (by rintro rfl; exact hid' hi)⟩
 have hother : ∀ i o, (i, o) ∈ H → i ≠ id := by rintro i o hi rfl; exact hid' (hw.ids i o hi).1
 have hblk : ∀ b, blk C' ((id, .dfr f cs xs) :: H) b → blk C H b := by
  rintro b ⟨i, o, N, hi, hmi⟩
  rcases List.mem_cons.1 hi with h2 | h2
  ·cases h2; rw [hm0] at hmi; cases hmi
  ·rw [hm i (hother i o h2)] at hmi; exact ⟨i, o, N, h2, hmi⟩
 refine ⟨C', ⟨hw.hp, ?_, ?_, ?_, fun b hb => hw.dis b (hblk b hb)⟩, ⟨hle, ?_, rfl, rfl, rfl, Nat.le_refl _, fun _ _ _ => rfl, fun _ o h => .inl ⟨o, h⟩, fun b hb => .inl (hblk b hb), ?_⟩, ?_, List.mem_cons_self⟩
 ·simp only [List.map_cons, List.nodup_cons]
  refine ⟨fun hmem => ?_, hw.nd⟩
  obtain ⟨⟨i, o⟩, hi, he⟩ := List.mem_map.1 hmem
  exact hother i o hi he
 ·intro i o hi
  rcases List.mem_cons.1 hi with h2 | h2
  ·cases h2
   exact ⟨List.mem_cons_self, hm0, d, cv, hd0, ht, ⟨hcs.1, fun i x v a b => (hcs.2 i x v a b).mono hle⟩, hxs.1, fun i x v a b => (hxs.2 i x v a b).mono hle⟩
  ·obtain ⟨h3, h4⟩ := hw.ids i o h2
   exact ⟨hle.U i h3, h4.keep hle h3 (fun _ _ _ => rfl)⟩
 ·intro i j o o' b N N' hi hj h2 h3
  rcases List.mem_cons.1 hi with h4 | h4
  ·cases h4; rw [hm0] at h2; cases h2
  ·rcases List.mem_cons.1 hj with h5 | h5
   ·cases h5; rw [hm0] at h3; cases h3
   ·rw [hm i (hother i o h4)] at h2; rw [hm j (hother j o' h5)] at h3
    exact hw.inj i j o o' b N N' h4 h5 h2 h3
 ·intro z hz hzu hmem
  rcases List.mem_cons.1 hmem with h2 | h2
  ·exact hZ (h2 ▸ hz)
  ·exact hzu h2
 ·intro i o hi
  rcases List.mem_cons.1 hi with h2 | h2
  ·cases h2; exact .inr hid'
  ·exact .inl ⟨o, h2⟩
 ·simp [mark, hm0, hd0]
def EPost (k0 : Nat) (C0 : Ctx) (H0 : AHeap) (w0 : World) (x : Exit) (e' : ES) (n : Nat) : Exit → Act → World → Prop :=
 fun x' a' w' => x' = x ∧ ∃ C' Hl', SE C' Hl' e' n a' w' ∧ EX k0 C0 H0 w0 e'.k C' Hl' w'
section
variable {P : Program} {n : Nat}
def evOps (E : Ev) (P : Program) (n : Nat) (inR : Bool) (ops : Array Oper) : List Oper → ES → Option (Exit × ES)
 | [], e => some (.normal, e)
 | o :: r, e => bif dok o.dst n then (match wantG ops e.T o.guard with
  | none => none
  | some false => evOps E P n inR ops r { e with T := putT e.T o.dst (.v undef) }
  | some true => match evStep E P e inR o.op with
   | some (.val x H k) => evOps E P n inR ops r ⟨putT e.T o.dst x, H, e.D, k⟩
   | some (.pan ch H k) => some (.panic ch, ⟨e.T, H, e.D, k⟩)
   | some (.dfr f cs xs) => bif inR then none else bif Nat.blt e.k MM then evOps E P n inR ops r ⟨putT e.T o.dst (.v undef), e.H.put e.k (some (.dfr (.func f) cs xs)), e.k :: e.D, e.k + 1⟩ else none
   | none => none) else none
theorem Z3n {E : Ev} (hE : EvOk P E) {inR : Bool} {ro : Option Nat} (hro : ro ≠ none → inR = true) {ops : Array Oper} {k0 : Nat} {C0 : Ctx} {H0 : AHeap} {w0 : World} {x : Exit} {e' : ES} : ∀ (l : List Oper) (e : ES), evOps E P n inR ops l e = some (x, e') →
  ∀ k, ops.toList.drop k = l → ∀ C Hl a w, SE C Hl e n a w → EX k0 C0 H0 w0 e.k C Hl w → wpOpsIn (Wd ro) 0 P ops (EPost k0 C0 H0 w0 x e' n) (List.range' k l.length) a w
 | [], e, h, k, hk, C, Hl, a, w, hs, hx => by
  simp only [evOps, Option.some.injEq, Prod.mk.injEq] at h
  obtain ⟨rfl, rfl⟩ := h
  simp only [List.length_nil, List.range'_zero, wpOpsIn]
  exact ⟨rfl, C, Hl, hs, hx⟩
 | o :: r, e, h, k, hk, C, Hl, a, w, hs, hx => by
  obtain ⟨h1, h2⟩ := Z03 hk
  have ho : ops[k]? = some o := by rw [← Array.getElem?_toList]; exact h1
  rw [List.length_cons, List.range'_succ, wpOpsIn_cons]
  unfold wpOpIn
  simp only [ho]
  simp only [evOps] at h
  cases hd : dok o.dst n with
  | false => rw [hd] at h; cases h
  | true =>
   rw [hd, cond_true] at h
   split at h
   ·cases h
   ·rename_i hg
    have hw := Z31 hg
    simp only [hs.sr.wanted (s := ⟨e.T.ls, Hl, e.D, n⟩) hw, Bool.false_eq_true, if_false]
    exact ⟨fun _ _ => trivial, Z3n hE hro r _ h (k + 1) h2 C Hl _ w (hs.next hd (.refl C) (.v undef) hs.sr.wr hs.hs hs.fr) hx⟩
   ·rename_i hg
    have hw := Z31 hg
    simp only [hs.sr.wanted (s := ⟨e.T.ls, Hl, e.D, n⟩) hw, if_true]
    refine ⟨fun _ _ => trivial, ?_⟩
    split at h
    ·rename_i x1 H k1 hst
     refine (Z1p hE hst (fun _ _ _ h => by cases h)).2 C Hl n a w hs ro inR _ _ hro ?_
     intro v w1 C1 Hl1 hv hw1 hh hf hx1
     exact Z3n hE hro r _ h (k + 1) h2 C1 Hl1 _ w1 (hs.next hd hx1.le hv hw1 hh hf) (hx.trans hx1)
    ·rename_i ch H k1 hst
     cases h
     refine (Z1p hE hst (fun _ _ _ h => by cases h)).2 C Hl n a w hs ro inR _ _ hro ?_
     intro w1 C1 Hl1 hw1 hh hf hx1
     refine ⟨rfl, C1, Hl1, ⟨⟨hw1, fun t y hy => let ⟨v, a1, a2⟩ := hs.sr.sl t y hy; ⟨v, a1, a2.mono hx1.le⟩, ?_, fun i hi => hx1.le.U i (hs.sr.du i hi), hs.sr.sz⟩, hh, hf⟩, hx.trans hx1⟩
     rw [hs.sr.df]
     exact List.map_congr_left fun i hi => by simp [mark, hx1.le.m i (hs.sr.du i hi), hx1.le.df i (hs.sr.du i hi)]
    ·rename_i f cs xs hst
     cases hin : inR with
     | true => rw [hin] at h; cases h
     | false =>
      rw [hin, cond_false] at h
      cases hk1 : Nat.blt e.k MM with
      | false => rw [hk1] at h; cases h
      | true =>
       rw [hk1, cond_true] at h
       rw [hin] at hst hro
       refine (Z1p hE hst (fun _ _ _ _ => rfl)).2 C Hl n a w hs ro false _ _ hro ?_
       refine ⟨rfl, fun d cv hd1 hd2 hd3 => ?_⟩
       have hlt : e.k < MM := by rwa [Nat.blt_eq] at hk1
       obtain ⟨C1, g1, g2, g3, g4⟩ := Zch (Z := Zx e.k (e.k + 1)) e.k hs.sr.wr (hs.fr e.k (Nat.le_refl _) hlt) (fun h => by have := (mem_Zx.1 h).2; omega) hd1 hd2 hd3
       refine Z3n hE hro r _ h (k + 1) h2 C1 _ _ w ?_ (hx.trans (g2.ex (Nat.le_succ _)))
       refine ⟨⟨g1, ?_, ?_, ?_, ?_⟩, hs.hs.put (hs.hs.free hs.sr.wr hs.fr (Nat.le_refl _) hlt) List.mem_cons_self fun i o' _ h => List.mem_cons_of_mem _ h, (g2.ex (Nat.le_succ _)).fr hs.fr⟩
       ·have hsr := (hs.sr.put g2.le g1 (Z0k hd) (VR.v (C := C1) undef)).lks (T' := (putT e.T o.dst (.v undef)).ls) fun t y hy => Zbd hy
        intro t y hy
        obtain ⟨v, a1, a2⟩ := hsr.sl t y hy
        refine ⟨v, ?_, a2⟩
        rw [← a1]
        cases o.dst <;> rfl
       ·have : ({ a with defers := d :: a.defers }.put o.dst undef).defers = d :: a.defers := by cases o.dst <;> rfl
        rw [this, hs.sr.df]
        simp only [List.map_cons, g3]
        congr 1
        exact List.map_congr_left fun i hi => by simp [mark, g2.le.m i (hs.sr.du i hi), g2.le.df i (hs.sr.du i hi)]
       ·intro i hi
        rcases List.mem_cons.1 hi with rfl | hi
        ·exact g4
        ·exact g2.le.U i (hs.sr.du i hi)
       ·have : ({ a with defers := d :: a.defers }.put o.dst undef).tmps.size = a.tmps.size := by cases o.dst <;> simp [Act.put]
        rw [this]; exact hs.sr.sz
    ·cases h
theorem Z57 {E : Ev} (hE : EvOk P E) {inR : Bool} {ops : Array Oper} {x : Exit} {e' : ES} : ∀ (l : List Oper) (e : ES), evOps E P n inR ops l e = some (x, e') → e'.H.R = e.H.R
 | [], e, h => by simp only [evOps, Option.some.injEq, Prod.mk.injEq] at h; obtain ⟨rfl, rfl⟩ := h; rfl
 | o :: r, e, h => by
  simp only [evOps] at h
  cases hd : dok o.dst n with
  | false => rw [hd] at h; cases h
  | true =>
   rw [hd, cond_true] at h
   split at h
   ·cases h
   ·exact Z57 hE r { e with T := putT e.T o.dst (.v undef) } h
   ·split at h
    ·rename_i x1 H k1 hst
     have h1 := (Z1p hE hst (fun _ _ _ h => by cases h)).1
     exact (Z57 hE r ⟨putT e.T o.dst x1, H, e.D, k1⟩ h).trans h1
    ·rename_i ch H k1 hst
     cases h
     exact (Z1p hE hst (fun _ _ _ h => by cases h)).1
    ·rename_i f cs xs hst
     cases hin : inR with
     | true => rw [hin] at h; cases h
     | false =>
      rw [hin, cond_false] at h
      cases hk1 : Nat.blt e.k MM with
      | false => rw [hk1] at h; cases h
      | true =>
       rw [hk1, cond_true] at h
       exact Z57 hE r ⟨putT e.T o.dst (.v undef), e.H.put e.k (some (.dfr (.func f) cs xs)), e.k :: e.D, e.k + 1⟩ h
    ·cases h
def EOkW (P : Program) (ro : Option Nat) (n : Nat) (c : Code) (e : ES) (x : Exit) (e' : ES) : Prop :=
 ∀ C Hl a w, SE C Hl e n a w → c.wpIn (Wd ro) 0 P (EPost e.k C Hl w x e' n) a w
def EOk (P : Program) (ro : Option Nat) (n : Nat) (c : Code) (e : ES) (x : Exit) (e' : ES) : Prop := e'.H.R = e.H.R ∧ EOkW P ro n c e x e'
theorem EPost.from {k0 k : Nat} {C0 C : Ctx} {H0 Hl : AHeap} {w0 w : World} {x : Exit} {e' : ES} {x' : Exit} {a' : Act} {w' : World} (hx : EX k0 C0 H0 w0 k C Hl w) (h : EPost k C Hl w x e' n x' a' w') : EPost k0 C0 H0 w0 x e' n x' a' w' :=
 let ⟨h1, C', Hl', h2, h3⟩ := h; ⟨h1, C', Hl', h2, hx.trans h3⟩
def evRounds (f : ES → Option (Exit × ES)) : Nat → ES → Option (Exit × ES)
 | 0, _ => none
 | m + 1, e => match f e with
  | some (.normal, e') => evRounds f m e'
  | r => r
def mskOf (ms : List Nat) (o : Oper) : Nat := o.after.foldl (fun m e => bif Region.binds .any e then m ||| (1 <<< e.on) ||| ms.getD e.on 0 else m) 0
def msksOf (l : List Oper) : List Nat := l.foldl (fun ms o => ms ++ [mskOf ms o]) []
theorem Eff.more {o : Oper} {T T' : List (Nat × AV)} {Hn On : AHeap} {x : AV} (h : Eff P o T Hn x On) (ht : ∀ t y, lk T t = some y → lk T' t = some y) : Eff P o T' Hn x On := by
 have hev : ∀ p y, ev T p = some y → ev T' p = some y := by
  intro p y hy
  cases p with
  | tmp t => exact ht t y hy
  | const c => exact hy
  | func f => exact hy
  | global g => exact hy
 intro Z C H a w hw hn hv
 exact h Z C H a w hw hn fun p hp y hy => hv p hp y (hev p y hy)
theorem Wanted.more {ops : Array Oper} {T T' : List (Nat × AV)} {o : Oper} {b : Bool} (h : Wanted ops T o b) (ht : ∀ t y, lk T t = some y → lk T' t = some y) : Wanted ops T' o b := by
 rcases h with h | ⟨g, c, d, og, t, h1, h2, h3, ⟨h4, h5⟩ | ⟨h4, h5⟩⟩
 ·exact .inl h
 ·exact .inr ⟨g, c, d, og, t, h1, h2, h3, .inl ⟨ht _ _ h4, h5⟩⟩
 ·exact .inr ⟨g, c, d, og, t, h1, h2, h3, .inr ⟨ht _ _ h4, h5⟩⟩
def Agree (T : Tr AV) (l : List (Nat × AV)) : Prop := ∀ t y, T.get t = some y → lk l t = some y
theorem Agree.ls {T : Tr AV} {l : List (Nat × AV)} (h : Agree T l) : ∀ t y, lk T.ls t = some y → lk l t = some y := fun t y hy => h t y (by rw [← Tr.lk_ls]; exact hy)
theorem Agree.put {T : Tr AV} {l : List (Nat × AV)} (h : Agree T l) {d : Option Nat} {x : AV} : Agree (putT T d x) (Sx.put l d x) := by
 intro t y hy
 cases d with
 | none => exact h t y hy
 | some d =>
  simp only [Sx.put, lk]
  rcases Tr.put_get hy with ⟨rfl, e⟩ | ⟨hne, e⟩
  ·cases e; simp
  ·have hb : Nat.beq d t = false := by
    cases hb : Nat.beq d t with
    | true => exact absurd (Nat.eq_of_beq_eq_true hb).symm hne
    | false => rfl
   rw [hb, cond_false]; exact h t y e
def putObs (H : Hp) : AHeap → Hp
 | [] => H
 | (i, ob) :: r => putObs (H.put i (some ob)) r
def HatM (ms : List Nat) (i : Nat) (H : Hp) : List (Nat × AHeap) → Hp
 | [] => H
 | (j, obs) :: r => bif bitOf ms i j then putObs (HatM ms i H r) obs else HatM ms i H r
def addM (i : Nat) (obs : AHeap) (k1 : Nat) (M : List (Nat × AHeap)) : List (Nat × AHeap) :=
 bif obs.isEmpty then M else bif obs.all (fun p => Nat.blt p.1 k1 && (plainOb p.2 && nmOb (fun i => Nat.blt i k1) p.2)) then (i, obs) :: M else M
def confl (ops : Array Oper) (i : Nat) : Option Nat → Bool
 | none => false
 | some t => (List.range i).any fun j => match ops[j]? with
  | some o => o.dst == some t || (o.looksAt ops).contains t
  | none => false
def evCalm (E : Ev) (P : Program) (n : Nat) (ops : Array Oper) (ms : List Nat) (H0 : Hp) : Nat → List (Nat × AHeap) → List Oper → ES → Option (ES × List (AV × AHeap) × List Oper)
 | _, _, [], e => some (e, [], [])
 | i, M, o :: r, e => bif dok o.dst n then (bif confl ops i o.dst then some (e, [], o :: r) else match wantG ops e.T o.guard with
  | none => none
  | some false => match evCalm E P n ops ms H0 (i + 1) M r { e with T := putT e.T o.dst (.v undef) } with
   | some (e', rs, tl) => some (e', (.v undef, []) :: rs, tl)
   | none => none
  | some true => match evPureL P e.T (HatM ms i H0 M) o.op with
   | some x => match evCalm E P n ops ms H0 (i + 1) M r { e with T := putT e.T o.dst x } with
    | some (e', rs, tl) => some (e', (x, []) :: rs, tl)
    | none => none
   | none => match evNew P e.T e.k o.op with
    | some (x, ob) => bif Nat.blt e.k MM then (match evCalm E P n ops ms H0 (i + 1) (addM i [(e.k, ob)] (e.k + 1) M) r ⟨putT e.T o.dst x, e.H.put e.k (some ob), e.D, e.k + 1⟩ with
     | some (e', rs, tl) => some (e', (x, [(e.k, ob)]) :: rs, tl)
     | none => none) else none
    | none => match evCallC E e.T e.k (HatM ms i H0 M) o.op with
     | some (x, obs, k') => match evCalm E P n ops ms H0 (i + 1) (addM i obs k' M) r ⟨putT e.T o.dst x, putObs e.H obs, e.D, k'⟩ with
      | some (e', rs, tl) => some (e', (x, obs) :: rs, tl)
      | none => none
     | none => some (e, [], o :: r)) else none
theorem Hp.put_get' {H : Hp} {i a : Nat} {v : Option AObj} {ob : AObj} (h : (H.put i v).get a = some ob) : (a = i ∧ v = some ob) ∨ H.get a = some ob := by
 unfold Hp.get Hp.put at h
 unfold Hp.get
 simp only at h
 split at h
 ·rename_i o hg; exact .inr h
 ·rename_i hg
  rcases Tr.put_get h with ⟨rfl, e⟩ | ⟨_, e⟩
  ·exact .inl ⟨rfl, e⟩
  ·exact .inr e
theorem Z69 {a : Nat} {ob : AObj} : ∀ (l : AHeap) {H : Hp}, (putObs H l).get a = some ob → (a, ob) ∈ l ∨ H.get a = some ob
 | [], _, h => .inr h
 | (i, o) :: r, H, h => by
  rcases Z69 r h with h | h
  ·exact .inl (List.mem_cons_of_mem _ h)
  ·rcases Hp.put_get' h with ⟨rfl, e⟩ | h
   ·cases e; exact .inl List.mem_cons_self
   ·exact .inr h
theorem Z4h {ms : List Nat} {i a : Nat} {H : Hp} {ob : AObj} : ∀ (M : List (Nat × AHeap)), (HatM ms i H M).get a = some ob → H.get a = some ob ∨ ∃ j obs, (j, obs) ∈ M ∧ bitOf ms i j = true ∧ (a, ob) ∈ obs
 | [], h => .inl h
 | (j, obs) :: r, h => by
  simp only [HatM] at h
  cases hb : bitOf ms i j with
  | true =>
   rw [hb, cond_true] at h
   rcases Z69 obs h with h | h
   ·exact .inr ⟨j, obs, List.mem_cons_self, hb, h⟩
   ·rcases Z4h r h with h | ⟨j', o', h1, h2, h3⟩
    ·exact .inl h
    ·exact .inr ⟨j', o', List.mem_cons_of_mem _ h1, h2, h3⟩
  | false =>
   rw [hb, cond_false] at h
   rcases Z4h r h with h | ⟨j', o', h1, h2, h3⟩
   ·exact .inl h
   ·exact .inr ⟨j', o', List.mem_cons_of_mem _ h1, h2, h3⟩
theorem Z9h {i k1 : Nat} {obs : AHeap} {M : List (Nat × AHeap)} {p : Nat × AHeap} (h : p ∈ addM i obs k1 M) : p ∈ M ∨ (p = (i, obs) ∧ ∀ q, q ∈ obs → q.1 < k1 ∧ plainOb q.2 = true ∧ nmOb (fun i => Nat.blt i k1) q.2 = true) := by
 unfold addM at h
 cases he : obs.isEmpty with
 | true => rw [he] at h; exact .inl h
 | false =>
  rw [he, cond_false] at h
  cases ha : obs.all (fun p => Nat.blt p.1 k1 && (plainOb p.2 && nmOb (fun i => Nat.blt i k1) p.2)) with
  | false => rw [ha] at h; exact .inl h
  | true =>
   rw [ha, cond_true] at h
   rcases List.mem_cons.1 h with h | h
   ·refine .inr ⟨h, fun q hq => ?_⟩
    have := List.all_eq_true.1 ha q hq
    rw [Bool.and_eq_true, Bool.and_eq_true, Nat.blt_eq] at this
    exact this
   ·exact .inl h
def rsX (rs : List (AV × AHeap)) (i : Nat) : AV := ((rs[i]?).map Prod.fst).getD (.v undef)
def rsO (rs : List (AV × AHeap)) (i : Nat) : AHeap := ((rs[i]?).map Prod.snd).getD []
theorem Z8s {T T' : List (Nat × AV)} (ht : ∀ t y, lk T t = some y → lk T' t = some y) {q : Operand} {y : AV} (h : ev T q = some y) : ev T' q = some y := by
 cases q with
 | tmp t => exact ht t y h
 | const c => exact h
 | func f => exact h
 | global g => exact h
def LookP (P : Program) (ops : Array Oper) (xs : Nat → AV) (os : Nat → AHeap) (T0 : List (Nat × AV)) (Hl : AHeap) (i : Nat) (o : Oper) (q : Operand) : Prop :=
 os i = [] ∧ ∃ y, ev (TT ops xs T0 i) q = some y ∧ ∃ Hn : AHeap, Eff P o (TT ops xs T0 i) Hn (xs i) [] ∧ (∀ p, p ∈ Hn → p ∈ Hl ∨ ∃ j, j < i ∧ p ∈ os j) ∧ ∀ p, p ∈ Hn → ∃ sz i' c, y = .ptr p.1 sz i' c
structure CalmOk (P : Program) (n : Nat) (ops : Array Oper) (xs : Nat → AV) (os : Nat → AHeap) (T0 : List (Nat × AV)) (Hl : AHeap) (k m k0 : Nat) (e' : ES) (D : List Nat) (R0 : List (Tr AObj)) (tl : List Oper) : Prop where
 good : ∀ i, k ≤ i → i < m → Good P ops n xs os T0 Hl i
 nms : ∀ i p, k ≤ i → i < m → p ∈ os i → k0 ≤ p.1 ∧ p.1 < e'.k ∧ p.1 < MM
 nd : ∀ i, k ≤ i → i < m → ((os i).map Prod.fst).Nodup
 lt : ∀ i j p q, k ≤ i → i < j → j < m → p ∈ os i → q ∈ os j → p.1 < q.1
 ag : Agree e'.T (TT ops xs T0 m)
 sub : SubH e'.H (HH os Hl m)
 le : k0 ≤ e'.k
 hD : e'.D = D
 hR : e'.H.R = R0
 tail : ops.toList.drop m = tl
 mv : ∀ i o, k ≤ i → i < m → ops[i]? = some o → looseOp o.op = true → o.guard = none → Eff P o (TT ops xs T0 i) [] (xs i) [] ∧ os i = []
 ml : ∀ i o t q, k ≤ i → i < m → ops[i]? = some o → o.op = .load t q → o.guard = none → LookP P ops xs os T0 Hl i o q
theorem Z6u : ∀ (l : AHeap) (H : Hp), (putObs H l).R = H.R
 | [], _ => rfl
 | (i, ob) :: r, H => Z6u r (H.put i (some ob))
theorem SubH.putObs : ∀ (l : AHeap) {H : Hp} {Hl : AHeap}, SubH H Hl → (∀ p, p ∈ l → getR H.R p.1 = none) → (∀ p, p ∈ l → p ∈ Hl) → SubH (Sx.putObs H l) Hl
 | [], _, _, h, _, _ => h
 | (i, ob) :: r, H, Hl, h, h1, h2 => SubH.putObs r (H := H.put i (some ob)) (h.put (h1 _ List.mem_cons_self) (h2 _ List.mem_cons_self) fun _ _ _ h => h) (fun p hp => h1 p (List.mem_cons_of_mem _ hp)) (fun p hp => h2 p (List.mem_cons_of_mem _ hp))
theorem Z7r {E : Ev} (hE : EvOk P E) {ops : Array Oper} {ms : List Nat} (hbit : ∀ i j, i < ops.size → j < i → bitOf ms i j = true → anc ops i i j = true) {H0 : Hp} {Hl : AHeap} (hs0 : SubH H0 Hl) {T0 : List (Nat × AV)} {xs : Nat → AV} {os : Nat → AHeap} {e' : ES} {tl : List Oper} : ∀ (l : List Oper) (e : ES) (k : Nat) (rs : List (AV × AHeap)) (M : List (Nat × AHeap)), evCalm E P n ops ms H0 k M l e = some (e', rs, tl) →
  ops.toList.drop k = l → (∀ j, j < rs.length → xs (k + j) = rsX rs j ∧ os (k + j) = rsO rs j) → Agree e.T (TT ops xs T0 k) → SubH e.H (HH os Hl k) → (∀ i, e.k ≤ i → i < MM → getR e.H.R i = none) → (∀ i ob, H0.get i = some ob → plainOb ob = true → nmOb (fun i => Nat.blt i MM) ob = true → i < MM → i < e.k ∧ nmOb (fun i => Nat.blt i e.k) ob = true) → (∀ j obs, (j, obs) ∈ M → j < k ∧ os j = obs ∧ ∀ p, p ∈ obs → p.1 < e.k ∧ plainOb p.2 = true ∧ nmOb (fun i => Nat.blt i e.k) p.2 = true) → CalmOk P n ops xs os T0 Hl k (k + rs.length) e.k e' e.D e.H.R tl
 | [], e, k, rs, M, h, hk, hrs, hag, hsub, hfree, hold, hM => by
  simp only [evCalm, Option.some.injEq, Prod.mk.injEq] at h
  obtain ⟨rfl, rfl, rfl⟩ := h
  exact ⟨fun i h1 h2 => absurd h2 (by simp; omega), fun i p h1 h2 => absurd h2 (by simp; omega), fun i h1 h2 => absurd h2 (by simp; omega), fun i j p q h1 h2 h3 => absurd h3 (by simp; omega), hag, hsub, Nat.le_refl _, rfl, rfl, hk, fun i o h1 h2 => absurd h2 (by simp; omega), fun i o t q h1 h2 => absurd h2 (by simp; omega)⟩
 | o :: r, e, k, rs, M, h, hk, hrs, hag, hsub, hfree, hold, hM => by
  obtain ⟨h1, h2⟩ := Z03 hk
  have ho : ops[k]? = some o := by rw [← Array.getElem?_toList]; exact h1
  simp only [evCalm] at h
  have hlt : k < ops.size := (Array.getElem?_eq_some_iff.1 ho).1
  have hHat : ∀ p : Nat × AObj, (HatM ms k H0 M).get p.1 = some p.2 → p ∈ Hl ∨ ∃ j, j < k ∧ p ∈ os j ∧ anc ops k k j = true := by
   intro p hp
   rcases Z4h M hp with h1 | ⟨j, obs, h1, h2, h3⟩
   ·exact .inl (hs0 p.1 p.2 h1)
   ·obtain ⟨g1, g2, _⟩ := hM j obs h1
    exact .inr ⟨j, g1, by rw [g2]; exact h3, hbit k j hlt g1 h2⟩
  have holdH : okTabs ((HatM ms k H0 M).R ++ [(HatM ms k H0 M).H]) = true → ∀ i ob, getR ((HatM ms k H0 M).R ++ [(HatM ms k H0 M).H]) i = some ob → i < e.k ∧ nmOb (fun i => Nat.blt i e.k) ob = true := by
   intro h1 i ob h2
   obtain ⟨g1, g2, g3⟩ := Z2x _ i ob h1 h2
   rcases Z4h M (Hp.get_tab h2) with h4 | ⟨j, obs, h4, _, h5⟩
   ·exact hold i ob h4 g1 g2 g3
   ·exact ⟨((hM j obs h4).2.2 (i, ob) h5).1, ((hM j obs h4).2.2 (i, ob) h5).2.2⟩
  -- one that is gone through
  have step : ∀ (x : AV) (obs : AHeap) (e1 : ES) (rs' : List (AV × AHeap)) (M' : List (Nat × AHeap)), (∀ p, p ∈ M' → p ∈ M ∨ (p = (k, obs) ∧ ∀ q, q ∈ obs → q.1 < e1.k ∧ plainOb q.2 = true ∧ nmOb (fun i => Nat.blt i e1.k) q.2 = true)) → rs = (x, obs) :: rs' → evCalm E P n ops ms H0 (k + 1) M' r e1 = some (e', rs', tl) → e1.T = putT e.T o.dst x → e1.D = e.D → e1.H.R = e.H.R → e.k ≤ e1.k →
    (∀ p, p ∈ obs → e.k ≤ p.1 ∧ p.1 < e1.k ∧ p.1 < MM) → (obs.map Prod.fst).Nodup → SubH e1.H (obs ++ HH os Hl k) → (xs k = x → os k = obs → Good P ops n xs os T0 Hl k) → (looseOp o.op = true → o.guard = none → Eff P o (TT ops xs T0 k) [] x [] ∧ obs = []) → (∀ t q, o.op = .load t q → o.guard = none → xs k = x → os k = obs → LookP P ops xs os T0 Hl k o q) → CalmOk P n ops xs os T0 Hl k (k + rs.length) e.k e' e.D e.H.R tl := by
   intro x obs e1 rs' M' hMM hr hcalm hT hD hR hle hob hnd hsb hgood hmv hml
   subst hr
   have h0 := hrs 0 (by simp)
   simp only [Nat.add_zero, rsX, rsO, List.getElem?_cons_zero, Option.map_some, Option.getD_some] at h0
   have hTT : TT ops xs T0 (k + 1) = put (TT ops xs T0 k) o.dst x := by
    show put (TT ops xs T0 k) ((ops[k]?).bind (·.dst)) (xs k) = _
    rw [ho, h0.1]; rfl
   have hHH : HH os Hl (k + 1) = obs ++ HH os Hl k := by
    show os k ++ HH os Hl k = _
    rw [h0.2]
   have ih := Z7r (tl := tl) hE hbit hs0 (T0 := T0) (xs := xs) (os := os) (e' := e') r e1 (k + 1) rs' M' hcalm h2 (fun j hj => by
    have := hrs (j + 1) (by simpa using hj)
    rw [show k + (j + 1) = k + 1 + j from by omega] at this
    simpa [rsX, rsO] using this) (by rw [hTT, hT]; exact hag.put) (by rw [hHH]; exact hsb) (fun i h1 h2 => by rw [hR]; exact hfree i (Nat.le_trans hle h1) h2)
    (fun i ob h2 p1 p2 p3 => by
     obtain ⟨g1, g2⟩ := hold i ob h2 p1 p2 p3
     exact ⟨Nat.lt_of_lt_of_le g1 hle, Z81 (fun j hj => by rw [Nat.blt_eq] at hj ⊢; omega) p1 g2⟩)
    (fun j obs' hj => by
     rcases hMM _ hj with h3 | ⟨h3, h4⟩
     ·obtain ⟨g1, g2, g3⟩ := hM j obs' h3
      refine ⟨by omega, g2, fun p hp => ?_⟩
      obtain ⟨g4, g5, g6⟩ := g3 p hp
      exact ⟨Nat.lt_of_lt_of_le g4 hle, g5, Z81 (fun j hj => by rw [Nat.blt_eq] at hj ⊢; omega) g5 g6⟩
     ·cases h3
      exact ⟨Nat.lt_succ_self _, h0.2, h4⟩)
   have hlen : k + ((x, obs) :: rs').length = k + 1 + rs'.length := by simp; omega
   rw [hlen]
   refine ⟨?_, ?_, ?_, ?_, ih.ag, ih.sub, Nat.le_trans hle ih.le, ih.hD.trans hD, ih.hR.trans hR, ih.tail, ?_, ?_⟩
   ·intro i hi hi2
    rcases Nat.eq_or_lt_of_le hi with rfl | hi
    ·exact hgood h0.1 h0.2
    ·exact ih.good i hi hi2
   ·intro i p hi hi2 hp
    rcases Nat.eq_or_lt_of_le hi with rfl | hi
    ·rw [h0.2] at hp
     have := hob p hp
     exact ⟨this.1, Nat.lt_of_lt_of_le this.2.1 ih.le, this.2.2⟩
    ·have := ih.nms i p hi hi2 hp
     exact ⟨Nat.le_trans hle this.1, this.2.1, this.2.2⟩
   ·intro i hi hi2
    rcases Nat.eq_or_lt_of_le hi with rfl | hi
    ·rw [h0.2]; exact hnd
    ·exact ih.nd i hi hi2
   ·intro i j p q hi hij hj hp hq
    rcases Nat.eq_or_lt_of_le hi with rfl | hi
    ·rw [h0.2] at hp
     have h3 := hob p hp
     have h4 := ih.nms j q hij hj hq
     omega
    ·exact ih.lt i j p q hi hij hj hp hq
   ·intro i o' hi hi2 ho' hop hgd
    rcases Nat.eq_or_lt_of_le hi with rfl | hi
    ·rw [ho] at ho'; cases ho'
     obtain ⟨m1, m2⟩ := hmv hop hgd
     exact ⟨by rw [h0.1]; exact m1, by rw [h0.2]; exact m2⟩
    ·exact ih.mv i o' hi hi2 ho' hop hgd
   ·intro i o' t q hi hi2 ho' hop hgd
    rcases Nat.eq_or_lt_of_le hi with rfl | hi
    ·rw [ho] at ho'; cases ho'
     exact hml t q hop hgd h0.1 h0.2
    ·exact ih.ml i o' t q hi hi2 ho' hop hgd
  cases hd : dok o.dst n with
  | false => rw [hd] at h; cases h
  | true =>
   rw [hd, cond_true] at h
   cases hcf : confl ops k o.dst with
   | true =>
    rw [hcf, cond_true] at h
    simp only [Option.some.injEq, Prod.mk.injEq] at h
    obtain ⟨rfl, h3, h4⟩ := h
    subst h3
    exact ⟨fun i h1 h2 => absurd h2 (by simp; omega), fun i p h1 h2 => absurd h2 (by simp; omega), fun i h1 h2 => absurd h2 (by simp; omega), fun i j p q h1 h2 h3 => absurd h3 (by simp; omega), hag, hsub, Nat.le_refl _, rfl, rfl, (by rw [List.length_nil, Nat.add_zero, hk, h4]), fun i o h1 h2 => absurd h2 (by simp; omega), fun i o t q h1 h2 => absurd h2 (by simp; omega)⟩
   | false =>
   rw [hcf, cond_false] at h
   split at h
   ·cases h
   ·rename_i hg
    split at h
    ·rename_i e1 rs' tl' hc
     simp only [Option.some.injEq, Prod.mk.injEq] at h
     obtain ⟨rfl, h3, rfl⟩ := h
     exact step _ [] _ rs' M (fun p hp => .inl hp) h3.symm hc rfl rfl rfl (Nat.le_refl _) nofun List.nodup_nil hsub (fun e1 e2 => ⟨o, ho, hd, .inl ⟨(Z31 hg).more hag.ls, e1, e2⟩⟩) (fun _ hgd => by rw [hgd] at hg; simp [wantG] at hg) (fun _ _ _ hgd => by rw [hgd] at hg; simp [wantG] at hg)
    ·cases h
   ·rename_i hg
    have hw := (Z31 hg).more hag.ls
    split at h
    ·rename_i x hx
     split at h
     ·rename_i e1 rs' tl' hc
      simp only [Option.some.injEq, Prod.mk.injEq] at h
      obtain ⟨rfl, h3, rfl⟩ := h
      obtain ⟨Hn, g1, g2⟩ := Z8q hx
      exact step x [] _ rs' M (fun p hp => .inl hp) h3.symm hc rfl rfl rfl (Nat.le_refl _) nofun List.nodup_nil hsub (fun e1 e2 => ⟨o, ho, hd, .inr ⟨hw, Hn, by rw [e1, e2]; exact g1.more hag.ls, fun p hp => hHat p (g2 p hp)⟩⟩) (fun hop _ => ⟨(Zbf hop hx).more hag.ls, rfl⟩) (fun t q hop _ e1 e2 => by
       obtain ⟨y, hy, Hn', k1, k2⟩ := Zbe hop hx
       exact ⟨e2, y, Z8s hag.ls (by rw [Z0d]; exact hy), Hn', by rw [e1]; exact k1.more hag.ls, fun p hp => (hHat p (k2 p hp).1).imp (fun z => z) (fun ⟨j, a, b, _⟩ => ⟨j, a, b⟩), fun p hp => (k2 p hp).2⟩)
     ·cases h
    ·split at h
     ·rename_i x ob hx
      cases hk1 : Nat.blt e.k MM with
      | false => rw [hk1] at h; cases h
      | true =>
       rw [hk1, cond_true] at h
       split at h
       ·rename_i e1 rs' tl' hc
        simp only [Option.some.injEq, Prod.mk.injEq] at h
        obtain ⟨rfl, h3, rfl⟩ := h
        refine step x [(e.k, ob)] ⟨putT e.T o.dst x, e.H.put e.k (some ob), e.D, e.k + 1⟩ rs' _ (fun p hp => Z9h (k1 := e.k + 1) hp) h3.symm hc rfl rfl rfl (Nat.le_succ _) (fun p hp => by rw [List.mem_singleton.1 hp]; exact ⟨Nat.le_refl _, Nat.lt_succ_self _, by rwa [Nat.blt_eq] at hk1⟩) (List.nodup_cons.2 ⟨List.not_mem_nil, List.nodup_nil⟩) (hsub.put (hfree _ (Nat.le_refl _) (by rwa [Nat.blt_eq] at hk1)) List.mem_cons_self fun i o' _ h => List.mem_cons_of_mem _ h)
         (fun e1 e2 => ⟨o, ho, hd, .inr ⟨hw, [], by rw [e1, e2]; exact (Z7t hx).more hag.ls, nofun⟩⟩) (fun hop _ => by revert hop hx; cases o.op <;> simp [looseOp, evNew]) (fun t q hop _ _ _ => by rw [hop] at hx; simp [evNew] at hx)
       ·cases h
     ·split at h
      ·rename_i x obs k1 hx
       obtain ⟨Hn, g1, g2, g3, g4, g5⟩ := Z9z hE hx holdH
       split at h
       ·rename_i e1 rs' tl' hc
        simp only [Option.some.injEq, Prod.mk.injEq] at h
        obtain ⟨rfl, h3, rfl⟩ := h
        refine step x obs ⟨putT e.T o.dst x, putObs e.H obs, e.D, k1⟩ rs' _ (fun p hp => Z9h (k1 := k1) hp) h3.symm hc rfl rfl (Z6u obs e.H) g5 g3 g4 ?_
         (fun e1 e2 => ⟨o, ho, hd, .inr ⟨hw, Hn, by rw [e1, e2]; exact g1.more hag.ls, fun p hp => hHat p (g2 p hp)⟩⟩) (fun hop _ => by revert hop hx; cases o.op <;> simp [looseOp, evCallC]) (fun t q hop _ _ _ => by rw [hop] at hx; simp [evCallC] at hx)
        exact SubH.putObs obs (fun i o' h => List.mem_append_right _ (hsub i o' h)) (fun p hp => hfree p.1 (g3 p hp).1 (g3 p hp).2.2) (fun p hp => List.mem_append_left _ hp)
       ·cases h
      ·simp only [Option.some.injEq, Prod.mk.injEq] at h
       obtain ⟨rfl, h3, h4⟩ := h
       subst h3
       exact ⟨fun i h1 h2 => absurd h2 (by simp; omega), fun i p h1 h2 => absurd h2 (by simp; omega), fun i h1 h2 => absurd h2 (by simp; omega), fun i j p q h1 h2 h3 => absurd h3 (by simp; omega), hag, hsub, Nat.le_refl _, rfl, rfl, (by rw [List.length_nil, Nat.add_zero, hk, h4]), fun i o h1 h2 => absurd h2 (by simp; omega), fun i o t q h1 h2 => absurd h2 (by simp; omega)⟩
theorem Z3l {E : Ev} {ops : Array Oper} {ms : List Nat} {H0 : Hp} {e' : ES} {tl : List Oper} : ∀ (l : List Oper) (e : ES) (rs : List (AV × AHeap)) (i : Nat) (M : List (Nat × AHeap)), evCalm E P n ops ms H0 i M l e = some (e', rs, tl) → e'.H.R = e.H.R
 | [], e, rs, i, M, h => by simp only [evCalm, Option.some.injEq, Prod.mk.injEq] at h; obtain ⟨rfl, rfl, rfl⟩ := h; rfl
 | o :: r, e, rs, i, M, h => by
  simp only [evCalm] at h
  cases hd : dok o.dst n with
  | false => rw [hd] at h; cases h
  | true =>
   rw [hd, cond_true] at h
   cases hcf : confl ops i o.dst with
   | true =>
    rw [hcf, cond_true] at h
    simp only [Option.some.injEq, Prod.mk.injEq] at h
    obtain ⟨rfl, _, _⟩ := h
    rfl
   | false =>
   rw [hcf, cond_false] at h
   split at h
   ·cases h
   ·split at h
    ·rename_i e1 rs' tl' hc
     simp only [Option.some.injEq, Prod.mk.injEq] at h
     obtain ⟨rfl, _, rfl⟩ := h
     exact Z3l r { e with T := putT e.T o.dst (.v undef) } rs' _ _ hc
    ·cases h
   ·split at h
    ·rename_i x hx
     split at h
     ·rename_i e1 rs' tl' hc
      simp only [Option.some.injEq, Prod.mk.injEq] at h
      obtain ⟨rfl, _, rfl⟩ := h
      exact Z3l r { e with T := putT e.T o.dst x } rs' _ _ hc
     ·cases h
    ·split at h
     ·rename_i x ob hx
      cases hk1 : Nat.blt e.k MM with
      | false => rw [hk1] at h; cases h
      | true =>
       rw [hk1, cond_true] at h
       split at h
       ·rename_i e1 rs' tl' hc
        simp only [Option.some.injEq, Prod.mk.injEq] at h
        obtain ⟨rfl, _, rfl⟩ := h
        exact Z3l r ⟨putT e.T o.dst x, e.H.put e.k (some ob), e.D, e.k + 1⟩ rs' _ _ hc
       ·cases h
     ·split at h
      ·rename_i x obs k1 hx
       split at h
       ·rename_i e1 rs' tl' hc
        simp only [Option.some.injEq, Prod.mk.injEq] at h
        obtain ⟨rfl, _, rfl⟩ := h
        exact (Z3l r ⟨putT e.T o.dst x, putObs e.H obs, e.D, k1⟩ rs' _ _ hc).trans (Z6u obs e.H)
       ·cases h
      ·simp only [Option.some.injEq, Prod.mk.injEq] at h
       obtain ⟨rfl, _, _⟩ := h
       rfl
def eraseT (T : Tr AV) (l : List Nat) : Tr AV := l.foldl (fun T d => T.put d none) T
theorem Z63 {t : Nat} {y : AV} : ∀ (l : List Nat) (T : Tr AV), (eraseT T l).get t = some y → T.get t = some y ∧ t ∉ l
 | [], T, h => ⟨h, nofun⟩
 | d :: l, T, h => by
  obtain ⟨h1, h2⟩ := Z63 l (T.put d none) h
  rcases Tr.put_get h1 with ⟨_, e⟩ | ⟨hne, e⟩
  ·cases e
  ·exact ⟨e, fun hm => by rcases List.mem_cons.1 hm with h3 | h3; exact hne h3; exact h2 h3⟩
def isLoad : Op → Bool
 | .load _ _ => true
 | _ => false
def sameAt (ops : Array Oper) (ms : List Nat) (np : Nat) (T : Tr AV) (H H2 : Hp) (j : Nat) : Bool := bif bitOf ms np j then true else match ops[j]? with
 | some o => match o.op with
  | .load _ q => match evT T q with
   | some (.ptr id _ _ _) => (match H.get id, H2.get id with
    | some a, some b => eqOb a b
    | _, _ => false)
   | some (.elt _ _ _) => true
   | _ => false
  | _ => true
 | none => false
def looseB (ops : Array Oper) (j : Nat) : Bool := match ops[j]? with
 | some o => (looseOp o.op || isLoad o.op) && o.guard.isNone
 | none => false
def frDsts (ops : Array Oper) (ms : List Nat) (np : Nat) : List Nat := (List.range np).filterMap fun j => bif bitOf ms np j then none else (ops[j]?).bind (·.dst)
def mB (ops : Array Oper) (ms : List Nat) (np n : Nat) (om : Oper) : Bool :=
 Nat.blt np ops.size && ((List.range np).all (fun j => bitOf ms np j || looseB ops j) && ((List.range (ops.size - (np + 1))).all (fun d => bitOf ms (np + 1 + d) np) && (om.guard.isNone && (dok om.dst n && okDst ops (np + 1)))))
def evSegs (E : Ev) (P : Program) (n : Nat) (inR : Bool) (ops : Array Oper) (ms : List Nat) : Nat → Nat → ES → List Oper → Option (Exit × ES)
 | 0, _, _, _ => none
 | f + 1, i, e, l => match evCalm E P n ops ms e.H i [] l e with
  | some (e1, rs, tl) => bif Nat.ble (i + rs.length) ops.size && (okDst ops (i + rs.length) && okLooksM ops ms (i + rs.length)) then
    bif okTailM ops ms (i + rs.length) then evOps E P n inR ops tl e1 else (match tl with
     | [] => none
     | om :: tl' => bif mB ops ms (i + rs.length) n om then (match evStep E P { e1 with T := eraseT e1.T (frDsts ops ms (i + rs.length)) } inR om.op with
      | some (.val x H k) => bif (List.range (i + rs.length)).all (sameAt ops ms (i + rs.length) e1.T e1.H H) then evSegs E P n inR ops ms f (i + rs.length + 1) ⟨putT e1.T om.dst x, H, e1.D, k⟩ tl' else none
      | _ => none) else none)
   else none
  | none => none
def evDraw (E : Ev) (P : Program) (n : Nat) (inR : Bool) (ops : Array Oper) (e : ES) : Option (Exit × ES) :=
 bif okEdges ops && okCert ops (msksOf ops.toList) then evSegs E P n inR ops (msksOf ops.toList) (ops.size + 1) 0 e ops.toList else none
theorem Z98 {E : Ev} (hE : EvOk P E) {inR : Bool} {ops : Array Oper} {ms : List Nat} {e' : ES} {x : Exit} : ∀ (f i : Nat) (e : ES) (l : List Oper), evSegs E P n inR ops ms f i e l = some (x, e') → e'.H.R = e.H.R
 | 0, _, _, _, h => by simp [evSegs] at h
 | f + 1, i, e, l, h => by
  simp only [evSegs] at h
  split at h
  ·rename_i e1 rs tl hc
   have hR := Z3l l e rs _ _ hc
   cases h1 : (Nat.ble (i + rs.length) ops.size && (okDst ops (i + rs.length) && okLooksM ops ms (i + rs.length))) with
   | false => rw [h1] at h; cases h
   | true =>
   rw [h1, cond_true] at h
   cases h2 : okTailM ops ms (i + rs.length) with
   | true => rw [h2, cond_true] at h; exact (Z57 hE tl e1 h).trans hR
   | false =>
   rw [h2, cond_false] at h
   split at h
   ·cases h
   ·rename_i om tl'
    cases h3 : mB ops ms (i + rs.length) n om with
    | false => rw [h3] at h; cases h
    | true =>
    rw [h3, cond_true] at h
    split at h
    ·rename_i y H k hst
     cases hsm : (List.range (i + rs.length)).all (sameAt ops ms (i + rs.length) e1.T e1.H H) with
     | false => rw [hsm] at h; cases h
     | true =>
     rw [hsm, cond_true] at h
     exact ((Z98 hE f _ _ _ h).trans (Z1p (o := om) hE hst (fun _ _ _ h => by cases h)).1).trans hR
    ·cases h
  ·cases h
theorem Zd9 {ps : Nat → AHeap} {H : AHeap} : ∀ (i : Nat), (∀ j, j < i → ps j = []) → HH ps H i = H
 | 0, _ => rfl
 | i + 1, h => by
  show ps i ++ HH ps H i = H
  rw [h i (Nat.lt_succ_self _), Zd9 i (fun j hj => h j (by omega)), List.nil_append]
def LooseA (P : Program) (ops : Array Oper) (n : Nat) (ys : Nat → AV) (T0 : List (Nat × AV)) (Hl : AHeap) (j : Nat) : Prop :=
 ∃ o, ops[j]? = some o ∧ o.guard = none ∧ dok o.dst n = true ∧ ∃ Hn : AHeap, Eff P o (TT ops ys T0 j) Hn (ys j) [] ∧ (∀ p, p ∈ Hn → p ∈ Hl) ∧ ∀ p, p ∈ Hn → ∃ t q sz i c, o.op = .load t q ∧ ev (TT ops ys T0 j) q = some (.ptr p.1 sz i c)
theorem LooseA.congr {ops : Array Oper} {ys zs : Nat → AV} {T0 : List (Nat × AV)} {Hl : AHeap} {j : Nat} (h : LooseA P ops n ys T0 Hl j) (hy : ∀ i, i ≤ j → ys i = zs i) : LooseA P ops n zs T0 Hl j := by
 obtain ⟨o, h1, h3, h4, Hn, h5, h6, h7⟩ := h
 have e1 := Z0m (ops := ops) (T0 := T0) j (fun i hi => hy i (by omega))
 rw [e1, hy j (Nat.le_refl _)] at h5
 rw [e1] at h7
 exact ⟨o, h1, h3, h4, Hn, h5, h6, h7⟩
theorem LooseA.heap {ops : Array Oper} {ys : Nat → AV} {T0 : List (Nat × AV)} {Hl H2 : AHeap} {j : Nat} (h : LooseA P ops n ys T0 Hl j) (hh : ∀ p, p ∈ Hl → p ∈ H2) : LooseA P ops n ys T0 H2 j := by
 obtain ⟨o, h1, h3, h4, Hn, h5, h6, h7⟩ := h
 exact ⟨o, h1, h3, h4, Hn, h5, fun p hp => hh p (h6 p hp), h7⟩
theorem LooseA.good {ops : Array Oper} {ys : Nat → AV} {T0 : List (Nat × AV)} {j : Nat} {ps : Nat → AHeap} {H : AHeap} (h : LooseA P ops n ys T0 H j) (hp : ps j = []) : Good P ops n ys ps T0 H j := by
 obtain ⟨o, h1, h3, h4, Hn, h5, h6, h7⟩ := h
 exact ⟨o, h1, h4, .inr ⟨.inl ⟨h3, rfl⟩, Hn, by rw [hp]; exact h5, fun p hp => .inl (h6 p hp)⟩⟩
theorem Z9g {os : Nat → AHeap} {H : AHeap} {p : Nat × AObj} : ∀ (i : Nat), (p ∈ H ∨ ∃ j, j < i ∧ p ∈ os j) → p ∈ HH os H i
 | 0, h => by
  rcases h with h | ⟨j, hj, _⟩
  ·exact h
  ·omega
 | i + 1, h => by
  show p ∈ os i ++ HH os H i
  rcases h with h | ⟨j, hj, h⟩
  ·exact List.mem_append_right _ (Z9g i (.inl h))
  ·rcases Nat.eq_or_lt_of_le (Nat.le_of_lt_succ hj) with rfl | h2
   ·exact List.mem_append_left _ h
   ·exact List.mem_append_right _ (Z9g i (.inr ⟨j, h2, h⟩))
theorem Z70 {ops : Array Oper} {xs : Nat → AV} {T0 : List (Nat × AV)} {t j : Nat} : ∀ (m : Nat), j ≤ m → (∀ j2, j ≤ j2 → j2 < m → (ops[j2]?).bind (·.dst) ≠ some t) → lk (TT ops xs T0 m) t = lk (TT ops xs T0 j) t
 | 0, h, _ => by
  have : j = 0 := by omega
  subst this; rfl
 | m + 1, h, hno => by
  rcases Nat.eq_or_lt_of_le h with rfl | h2
  ·rfl
  ·rw [← Z70 m (by omega) (fun j2 h3 h4 => hno j2 h3 (by omega))]
   show lk (put (TT ops xs T0 m) ((ops[m]?).bind (·.dst)) (xs m)) t = _
   have hd := hno m (by omega) (Nat.lt_succ_self _)
   cases hb : (ops[m]?).bind (·.dst) with
   | none => rfl
   | some d =>
    rw [hb] at hd
    have hne : Nat.beq d t = false := by
     cases hx : Nat.beq d t with
     | true => exact absurd (by rw [Nat.eq_of_beq_eq_true hx]) hd
     | false => rfl
    simp only [Sx.put, lk, hne, cond_false]
theorem Z66 {α : Type} : ∀ {l : List (Nat × α)}, (l.map Prod.fst).Nodup → ∀ {p q : Nat × α}, p ∈ l → q ∈ l → p.1 = q.1 → p = q
 | a :: r, h, p, q, hp, hq, he => by
  simp only [List.map_cons, List.nodup_cons] at h
  rcases List.mem_cons.1 hp with h1 | h1
  ·rcases List.mem_cons.1 hq with h2 | h2
   ·rw [h1, h2]
   ·exact absurd (List.mem_map.2 ⟨q, h2, by rw [← he, h1]⟩) h.1
  ·rcases List.mem_cons.1 hq with h2 | h2
   ·exact absurd (List.mem_map.2 ⟨p, h1, by rw [he, h2]⟩) h.1
   ·exact Z66 h.2 h1 h2 he
theorem Z7v {E : Ev} (hE : EvOk P E) {inR : Bool} {ro : Option Nat} (hro : ro ≠ none → inR = true) {ops : Array Oper} {ms : List Nat} (hed : okEdges ops = true) (hce : okCert ops ms = true) {k0 : Nat} {C0 : Ctx} {H0 : AHeap} {w0 : World} {x : Exit} {e' : ES} {T0 : List (Nat × AV)} {D : List Nat} :
  ∀ (f i : Nat) (e : ES) (l : List Oper), evSegs E P n inR ops ms f i e l = some (x, e') → ops.toList.drop i = l → ∀ (ys : Nat → AV) (C : Ctx) (Hl : AHeap) (w : World) (a : Act) (listed : Array Bool) (fuel : Nat),
   Agree e.T (TT ops ys T0 i) → e.D = D → SubH e.H Hl → Fr e.k C → EX k0 C0 H0 w0 e.k C Hl w → WR C Hl w → listed.size = ops.size → left ops listed = fuel → (∀ j, i ≤ j → j < ops.size → listed.getD j false = false) →
   (∀ j, j < i → listed.getD j false = false → LooseA P ops n ys T0 Hl j) →
   (∀ t y, lk T0 t = some y → (∀ j, j < i → (ops[j]?).bind (·.dst) ≠ some t) → ∃ v, a.tmps[t]? = some v ∧ VR C y v) →
   (∀ j t, j < i → listed.getD j false = true → (ops[j]?).bind (·.dst) = some t → ∃ v, a.tmps[t]? = some v ∧ VR C (ys j) v) →
   a.defers = D.map (mark C) → (∀ j, j ∈ D → j ∈ C.U) → a.tmps.size = n →
   (∀ j o, ops[j]? = some o → listed.getD j false = true → ∀ e, e ∈ o.after → Region.binds .any e = true → listed.getD e.on false = true) →
   wpAnyIn (Wd ro) 0 P .any ops (EPost k0 C0 H0 w0 x e' n) fuel listed a w
 | 0, _, _, _, h => by simp [evSegs] at h
 | f + 1, i, e, l, h => by
  intro hdrop ys C Hl w a listed fuel hag hD hsub hfr hex hwr hls hleft hun hlo hsl0 hsl1 hdf hdu hsz hdn
  subst hD
  simp only [evSegs] at h
  split at h
  case h_2 => cases h
  rename_i e1 rs tl hc
  cases h1 : (Nat.ble (i + rs.length) ops.size && (okDst ops (i + rs.length) && okLooksM ops ms (i + rs.length))) with
  | false => rw [h1] at h; cases h
  | true =>
  rw [h1, cond_true] at h
  rw [Bool.and_eq_true, Bool.and_eq_true] at h1
  obtain ⟨hnp, hDs, hLm⟩ := h1
  have hnp := Nat.le_of_ble_eq_true hnp
  generalize hnpe : i + rs.length = np at *
  have hbit : ∀ i j, i < ops.size → j < i → bitOf ms i j = true → anc ops i i j = true := fun i j hi hj hb => Z4j hed hce i hi j hj hb
  have hLk : okLooks ops np = true := by
   refine List.all_eq_true.2 fun i hi => ?_
   have h7 := List.all_eq_true.1 hLm i hi
   have hi' : i < ops.size := by have := List.mem_range.1 hi; omega
   rw [Array.getElem?_eq_getElem hi'] at h7 ⊢
   refine List.all_eq_true.2 fun t ht => List.all_eq_true.2 fun j hj => ?_
   have h8 := List.all_eq_true.1 (List.all_eq_true.1 h7 t ht) j hj
   simp only [Bool.or_eq_true, Bool.and_eq_true] at h8 ⊢
   exact h8.imp (fun z => z) fun h9 => ⟨h9.1, hbit i j hi' (Nat.blt_eq ▸ h9.1) h9.2⟩
  let ys' : Nat → AV := fun j => if j < i then ys j else rsX rs (j - i)
  let ps' : Nat → AHeap := fun j => if j < i then [] else rsO rs (j - i)
  have hys : ∀ j, j < i → ys j = ys' j := fun j hj => (if_pos hj).symm
  have hps : ∀ j, j < i → ps' j = [] := fun j hj => if_pos hj
  have hok : CalmOk P n ops ys' ps' T0 Hl i np e.k e1 e.D e.H.R tl := by
   have := Z7r (P := P) (n := n) hE (ms := ms) hbit hsub (T0 := T0) (xs := ys') (os := ps') l e i rs [] hc hdrop
    (fun j _ => by
     have h1 : ¬ (i + j < i) := by omega
     have h2 : i + j - i = j := by omega
     exact ⟨by show (if i + j < i then ys (i + j) else rsX rs (i + j - i)) = _; rw [if_neg h1, h2], by show (if i + j < i then [] else rsO rs (i + j - i)) = _; rw [if_neg h1, h2]⟩)
    (by rw [← Z0m (ops := ops) (T0 := T0) i (fun j hj => hys j hj)]; exact hag) (by rw [Zd9 i hps]; exact hsub) (fun j h1 h2 => hsub.free hwr hfr h1 h2) (fun j ob h2 g1 g2 g3 => by
     obtain ⟨g4, g5⟩ := hwr.ids j ob (hsub j ob h2)
     have below : ∀ j, j ∈ C.U → Nat.blt j MM = true → Nat.blt j e.k = true := fun j hj hm => by
      rw [Nat.blt_eq] at hm ⊢
      rcases Nat.lt_or_ge j e.k with h3 | h3
      ·exact h3
      ·exact absurd hj (hfr j h3 hm)
     refine ⟨?_, Zeg g5 g1 below g2⟩
     have := below j g4 (by rw [Nat.blt_eq]; exact g3)
     rwa [Nat.blt_eq] at this) nofun
   rwa [hnpe] at this
  have hle : i ≤ np := by omega
  -- what the first part needs
  have hg : ∀ j, j < np → (j < i → LooseA P ops n ys T0 Hl j) → Good P ops n ys' ps' T0 Hl j := by
   intro j hj hU
   rcases Nat.lt_or_ge j i with h2 | h2
   ·exact ((hU h2).congr fun i' hi' => hys i' (by omega)).good (hps j h2)
   ·exact hok.good j h2 hj
  have hZ : ∀ j p, j < np → p ∈ ps' j → p.1 ∉ Zx e.k e1.k := by
   intro j p hj hp hz
   rcases Nat.lt_or_ge j i with h2 | h2
   ·rw [hps j h2] at hp; cases hp
   ·have h3 := hok.nms j p h2 hj hp
    have h4 := (mem_Zx.1 hz).2
    omega
  have hij : ∀ j1 j2 p q, j1 < np → j2 < np → p ∈ ps' j1 → q ∈ ps' j2 → p.1 = q.1 → j1 = j2 := by
   intro j1 j2 p q hj1 hj2 hp hq hpq
   have g1 : i ≤ j1 := by
    rcases Nat.lt_or_ge j1 i with h2 | h2
    ·rw [hps j1 h2] at hp; cases hp
    ·exact h2
   have g2 : i ≤ j2 := by
    rcases Nat.lt_or_ge j2 i with h2 | h2
    ·rw [hps j2 h2] at hq; cases hq
    ·exact h2
   rcases Nat.lt_trichotomy j1 j2 with h1 | h1 | h1
   ·have := hok.lt j1 j2 p q g1 h1 hj2 hp hq; omega
   ·exact h1
   ·have := hok.lt j2 j1 q p g2 h1 hj1 hq hp; omega
  have hnd : ∀ j, j < np → ((ps' j).map Prod.fst).Nodup := by
   intro j hj
   rcases Nat.lt_or_ge j i with h2 | h2
   ·rw [hps j h2]; exact List.nodup_nil
   ·exact hok.nd j h2 hj
  have hflat : (List.range np).flatMap (fun j => if listed.getD j false = true then ps' j else []) = [] := by
   rw [List.flatMap_eq_nil_iff]
   intro j hj
   have hj := List.mem_range.1 hj
   split
   ·rename_i hl
    rcases Nat.lt_or_ge j i with h2 | h2
    ·exact hps j h2
    ·rw [hun j h2 (by omega)] at hl; cases hl
   ·rfl
  have hI : Inv P ops np ys' ps' ⟨T0, Hl, e.D, n⟩ (Zx e.k e1.k) C Hl w listed a w C := by
   refine ⟨by rw [hflat]; exact hwr, ?_, ?_, hdf, hdu, hsz, ?_, by rw [hflat]; exact .refl .., hdn⟩
   ·intro t y hy hno
    exact hsl0 t y hy fun j hj => hno j (by omega)
   ·intro j t hj hl ht
    have h2 : j < i := by
     rcases Nat.lt_or_ge j i with h2 | h2
     ·exact h2
     ·rw [hun j h2 (by omega)] at hl; cases hl
    rw [← hys j h2]
    exact hsl1 j t h2 hl ht
   ·intro j p hj _ hp hu
    rcases Nat.lt_or_ge j i with h2 | h2
    ·rw [hps j h2] at hp; cases hp
    ·have h1 := hok.nms j p h2 hj hp
     exact hfr p.1 h1.1 h1.2.2 hu
  have hUl : ∀ j, j < np → listed.getD j false = false → j < i → LooseA P ops n ys T0 Hl j := fun j _ hl h2 => hlo j h2 hl
  have hun' : ∀ j, np ≤ j → j < ops.size → listed.getD j false = false := fun j h1 h2 => hun j (by omega) h2
  cases h2 : okTailM ops ms np with
  | true =>
   rw [h2, cond_true] at h
   have hT : okTail ops np = true := by
    refine List.all_eq_true.2 fun d hd => List.all_eq_true.2 fun i hi => ?_
    have h7 := List.all_eq_true.1 (List.all_eq_true.1 h2 d hd) i hi
    have hd' := List.mem_range.1 hd
    exact hbit (np + d) i (by omega) (List.mem_range.1 hi) h7
   have htd : tidy ops np = true := by
    simp only [tidy, Bool.and_eq_true]
    exact ⟨⟨⟨⟨by rw [Nat.ble_eq]; exact hnp, hed⟩, hDs⟩, hLk⟩, hT⟩
   refine Zbr (s := ⟨T0, Hl, e.D, n⟩) htd hok.tail ?_ hg hZ hij hnd fuel listed a w C hls hleft hun' hUl hI
   intro C' a' w' hx hsr
   have hxx := hx.ex hok.le
   have hs1 : SE C' (HH ps' Hl np) e1 n a' w' := by
    refine ⟨?_, hok.sub, hxx.fr hfr⟩
    have := hsr.lks (T' := e1.T.ls) hok.ag.ls
    exact ⟨this.wr, this.sl, by rw [this.df]; show List.map (mark C') e.D = _; rw [← hok.hD], by show ∀ i, i ∈ e1.D → _; rw [hok.hD]; exact this.du, this.sz⟩
   exact Z3n hE hro (C0 := C0) (H0 := H0) (w0 := w0) tl e1 h np hok.tail C' _ a' w' hs1 (hex.trans hxx)
  | false =>
  rw [h2, cond_false] at h
  have htail := hok.tail
  cases tl with
  | nil => simp at h
  | cons om tl' =>
  simp only at h
  cases h3 : mB ops ms np n om with
  | false => rw [h3] at h; cases h
  | true =>
  rw [h3, cond_true] at h
  simp only [mB, Bool.and_eq_true, Nat.blt_eq] at h3
  obtain ⟨hlt0, hA, hB, hgm, hdm, hDm⟩ := h3
  obtain ⟨hd1, hd2⟩ := Z03 htail
  have hom : ops[np]? = some om := by rw [← Array.getElem?_toList]; exact hd1
  have hgm : om.guard = none := by simpa using hgm
  split at h
  case h_2 => cases h
  rename_i y H2 k2 hst
  cases hsm : (List.range np).all (sameAt ops ms np e1.T e1.H H2) with
  | false => rw [hsm] at h; cases h
  | true =>
  rw [hsm, cond_true] at h
  refine Zdm (U := fun j => j < i → LooseA P ops n ys T0 Hl j) (s := ⟨T0, Hl, e.D, n⟩) hnp hed hDs hLk hg hZ hij hnd (fun _ _ _ _ h => by omega) ?_ fuel listed a w C hls hleft hun' hUl hI
  intro fuel1 listed1 a1 w1 C1 i1 hls1 hleft1 hun1 hUl1 hI1 hin1 hi1
  obtain ⟨q3, o, ho, hdeps⟩ := mem_ready.1 hi1
  have hlt : i1 < ops.size := (Array.getElem?_eq_some_iff.1 ho).1
  have hi' : i1 = np := by
   rcases Nat.lt_or_ge np i1 with h4 | h4
   ·have h7 := List.all_eq_true.1 hB (i1 - (np + 1)) (List.mem_range.2 (by omega))
    rw [show np + 1 + (i1 - (np + 1)) = i1 from by omega] at h7
    have := Z12 hI1.dn i1 i1 np o ho hdeps (hbit i1 np hlt h4 h7)
    rw [hun1 np (Nat.le_refl _) hlt0] at this; cases this
   ·omega
  subst hi'
  rw [hom] at ho; cases ho
  have hlA : ∀ j, j < i1 → bitOf ms i1 j = true → listed1.getD j false = true := fun j hj hb => Z12 hI1.dn i1 i1 j om hom hdeps (hbit i1 j hlt hj hb)
  have hloose : ∀ j, j < i1 → listed1.getD j false = false → LooseA P ops n ys' T0 (HH ps' Hl i1) j ∧ ps' j = [] ∧ bitOf ms i1 j = false := by
   intro j hj hl
   have hnb : bitOf ms i1 j = false := by
    cases hb : bitOf ms i1 j with
    | false => rfl
    | true => rw [hlA j hj hb] at hl; cases hl
   rcases Nat.lt_or_ge j i with h4 | h4
   ·exact ⟨((hUl1 j hj hl h4).congr fun i' hi' => hys i' (by omega)).heap (fun p hp => Z9g i1 (.inl hp)), hps j h4, hnb⟩
   ·have := List.all_eq_true.1 hA j (List.mem_range.2 hj)
    rw [hnb, Bool.false_or] at this
    unfold looseB at this
    split at this
    ·rename_i oj hoj
     rw [Bool.and_eq_true] at this
     have g2 : oj.guard = none := by simpa using this.2
     obtain ⟨o', ho', hdk, _⟩ := hok.good j h4 hj
     rw [hoj] at ho'; cases ho'
     rcases Bool.or_eq_true _ _ ▸ this.1 with h5 | h5
     ·obtain ⟨m1, m2⟩ := hok.mv j oj h4 hj hoj h5 g2
      exact ⟨⟨oj, hoj, g2, hdk, [], m1, nofun, nofun⟩, m2, hnb⟩
     ·unfold isLoad at h5
      split at h5
      ·rename_i lt lq hop
       obtain ⟨m2, yy, m3, Hn, m4, m5, m6⟩ := hok.ml j oj lt lq h4 hj hoj hop g2
       refine ⟨⟨oj, hoj, g2, hdk, Hn, m4, fun p hp => Z9g i1 ((m5 p hp).imp (fun z => z) (fun ⟨j2, a, b⟩ => ⟨j2, by omega, b⟩)), fun p hp => ?_⟩, m2, hnb⟩
       obtain ⟨sz, i', c, hyy⟩ := m6 p hp
       exact ⟨lt, lq, sz, i', c, hop, by rw [m3, hyy]⟩
      ·cases h5
    ·cases this
  have hp' : ((List.range i1).flatMap (fun j => if listed1.getD j false = true then ps' j else []) ++ Hl).Perm (HH ps' Hl i1) := by
   refine List.Perm.trans ?_ (Z8i ps' Hl i1).symm
   refine List.Perm.append_right _ ?_
   have : ∀ l : List Nat, (∀ j, j ∈ l → j < i1) → l.flatMap (fun j => if listed1.getD j false = true then ps' j else []) = l.flatMap ps' := by
    intro l
    induction l with
    | nil => intro _; rfl
    | cons x l ih =>
     intro h
     simp only [List.flatMap_cons]
     rw [ih (fun j hj => h j (List.mem_cons_of_mem _ hj))]
     congr 1
     cases hl : listed1.getD x false with
     | true => rw [if_pos rfl]
     | false => rw [(hloose x (h x List.mem_cons_self) hl).2.1]; simp
   rw [this _ (fun j hj => List.mem_range.1 hj)]
  have hset : ∀ j, (listed1.setIfInBounds i1 true).getD j false = if j = i1 then true else listed1.getD j false := by
   intro j
   by_cases e : j = i1
   ·subst e; have : j < listed1.size := by omega
    simp [this]
   ·rw [if_neg e, getD_set_ne _ (Ne.symm e)]
  unfold wpOpIn
  simp only [hom]
  rw [show Region.wanted om (yielded ops a1.tmps) = true by simp [Region.wanted, hgm]]
  simp only [if_true]
  refine ⟨fun _ _ => trivial, ?_⟩
  have hxx := (hI1.ext.permR hp').ex hok.le
  have hs1 : SE C1 (HH ps' Hl i1) { e1 with T := eraseT e1.T (frDsts ops ms i1) } n a1 w1 := by
   refine ⟨⟨hI1.wr.perm hp', ?_, by rw [hI1.df]; show List.map (mark C1) e.D = _; rw [← hok.hD], by show ∀ i, i ∈ e1.D → _; rw [hok.hD]; exact hI1.du, hI1.sz⟩, hok.sub, hxx.fr hfr⟩
   intro t y hy
   rw [Tr.lk_ls] at hy
   obtain ⟨g1, g2⟩ := Z63 _ _ hy
   rcases Z32 i1 (hok.ag t y g1) with ⟨j, q1, q2, rfl⟩ | ⟨q1, q2⟩
   ·refine hI1.sl1 j t q1 (hlA j q1 ?_) q2
    cases hb : bitOf ms i1 j with
    | true => rfl
    | false => exact absurd (List.mem_filterMap.2 ⟨j, List.mem_range.2 q1, by rw [hb, cond_false]; exact q2⟩) g2
   ·exact hI1.sl0 t y q1 q2
  refine (Z1p (o := om) hE hst (fun _ _ _ h => by cases h)).2 C1 _ n a1 w1 hs1 ro inR _ _ hro ?_
  intro v w2 C2 Hl2 hv hw2 hh hfr2 hx2
  have hput : ∀ t', om.dst ≠ some t' → (a1.put om.dst v).tmps[t']? = a1.tmps[t']? := by
   intro t' hne
   cases hd : om.dst with
   | none => rfl
   | some d =>
    have hne' : d ≠ t' := by rintro rfl; exact hne hd
    simp [Act.put, Array.getElem?_setIfInBounds_ne hne']
  have hdd : ∀ j t, j < i1 → (ops[j]?).bind (·.dst) = some t → om.dst ≠ some t := by
   intro j t hj hjt hmt
   have h5 := List.all_eq_true.1 (List.all_eq_true.1 hDm i1 (List.mem_range.2 (Nat.lt_succ_self _))) j (List.mem_range.2 hj)
   have hb : (ops[i1]?).bind (·.dst) = some t := by rw [hom]; exact hmt
   rw [hb, hjt] at h5; simp at h5
  let ys2 : Nat → AV := fun j => if j = i1 then y else ys' j
  have hys2 : ∀ j, j < i1 → ys' j = ys2 j := fun j hj => (if_neg (by omega)).symm
  have hys3 : ys2 i1 = y := if_pos rfl
  refine Z7v hE hro hed hce (T0 := T0) (D := e.D) f (i1 + 1) _ _ h hd2 ys2 C2 Hl2 w2 (a1.put om.dst v) (listed1.setIfInBounds i1 true) fuel1 ?_ hok.hD hh hfr2 ((hex.trans hxx).trans hx2) hw2 (by simpa using hls1) (by have := Z3q hlt hls1 (hun1 i1 (Nat.le_refl _) hlt); omega) ?_ ?_ ?_ ?_ ?_ (fun j hj => hx2.le.U j (hI1.du j hj)) ?_ ?_
  ·have e1 : TT ops ys2 T0 (i1 + 1) = put (TT ops ys' T0 i1) om.dst y := by
    show put (TT ops ys2 T0 i1) ((ops[i1]?).bind (·.dst)) (ys2 i1) = _
    rw [hom, hys3, Z0m (ops := ops) (T0 := T0) i1 (fun j hj => (hys2 j hj).symm)]; rfl
   rw [e1]; exact hok.ag.put
  ·intro j hj hj2
   rw [hset, if_neg (by omega)]; exact hun1 j (by omega) hj2
  ·intro j hj hl
   rw [hset] at hl
   split at hl
   ·cases hl
   ·rename_i hne
    have hji : j < i1 := by omega
    obtain ⟨⟨oj, q1, q2, q3, Hn, q4, q5, q6⟩, _, hnb⟩ := hloose j hji hl
    refine LooseA.congr (ys := ys') ⟨oj, q1, q2, q3, Hn, q4, fun p hp => ?_, q6⟩ fun i' hi' => hys2 i' (by omega)
    obtain ⟨lt, lq, sz, i', c, hop, hev⟩ := q6 p hp
    have hsj := List.all_eq_true.1 hsm j (List.mem_range.2 hji)
    unfold sameAt at hsj
    rw [hnb, cond_false, q1] at hsj
    simp only [hop] at hsj
    have hst2 : ev (TT ops ys' T0 i1) lq = some (.ptr p.1 sz i' c) := by
     cases lq with
     | tmp t =>
      show lk (TT ops ys' T0 i1) t = _
      rw [Z70 (j := j) i1 (by omega) ?_]; exact hev
      intro j2 h8 h9 hjd
      have h7 := List.all_eq_true.1 hLk j (List.mem_range.2 hji)
      rw [q1] at h7
      have h10 := List.all_eq_true.1 (List.all_eq_true.1 h7 t (Z5d (by rw [hop]; simp [Op.operands]))) j2 (List.mem_range.2 h9)
      rw [hjd] at h10
      simp only [beq_self_eq_true, Bool.not_true, Bool.false_or, Bool.and_eq_true, Nat.blt_eq] at h10
      omega
     | const v => exact hev
     | func v => exact hev
     | global v => exact hev
    split at hsj
    ·rename_i id sz2 i2 c2 hy2
     have h11 := Z8s hok.ag.ls (show ev e1.T.ls lq = _ by rw [Z0d]; exact hy2)
     rw [hst2] at h11
     cases h11
     split at hsj
     ·rename_i a b ha hb
      have hab := Zb0 hsj
      subst hab
      have h12 := Z66 (hI1.wr.perm hp').nd (hok.sub _ _ ha) (q5 p hp) rfl
      have h13 := hh _ _ hb
      rw [h12] at h13
      exact h13
     ·cases hsj
    ·rename_i hy2
     have h11 := Z8s hok.ag.ls (show ev e1.T.ls lq = _ by rw [Z0d]; exact hy2)
     rw [hst2] at h11
     cases h11
    ·cases hsj
  ·intro t z hz hno
   have hmt : om.dst ≠ some t := fun hmt => hno i1 (Nat.lt_succ_self _) (by rw [hom]; exact hmt)
   obtain ⟨u, q1, q2⟩ := hI1.sl0 t z hz fun j hj => hno j (by omega)
   exact ⟨u, by rw [hput t hmt]; exact q1, q2.mono hx2.le⟩
  ·intro j t hj hl hjt
   by_cases hji : j = i1
   ·subst hji
    have hmt : om.dst = some t := by rw [hom] at hjt; exact hjt
    refine ⟨v, ?_, by rw [hys3]; exact hv⟩
    have hlt1 : t < a1.tmps.size := by rw [hI1.sz]; exact Z0k hdm t hmt
    simp [Act.put, hmt, hlt1]
   ·rw [hset, if_neg hji] at hl
    obtain ⟨u, q1, q2⟩ := hI1.sl1 j t (by omega) hl hjt
    exact ⟨u, by rw [hput t (hdd j t (by omega) hjt)]; exact q1, by rw [← hys2 j (by omega)]; exact q2.mono hx2.le⟩
  ·have e1 : (a1.put om.dst v).defers = a1.defers := by cases om.dst <;> rfl
   rw [e1, hI1.df]
   exact List.map_congr_left fun j hj => by simp [mark, hx2.le.m j (hI1.du j hj), hx2.le.df j (hI1.du j hj)]
  ·have e1 : (a1.put om.dst v).tmps.size = a1.tmps.size := by cases om.dst <;> simp [Act.put]
   rw [e1]; exact hI1.sz
  ·intro j o2 ho2 hlj e he hb
   rw [hset]
   split
   ·rfl
   ·by_cases e2 : j = i1
    ·subst e2; rw [hom] at ho2; cases ho2; exact hdeps e he hb
    ·rw [hset, if_neg e2] at hlj; exact hI1.dn j o2 ho2 hlj e he hb
theorem Z97 {E : Ev} (hE : EvOk P E) {inR : Bool} {ops : Array Oper} {e e' : ES} {x : Exit} (h : evDraw E P n inR ops e = some (x, e')) : e'.H.R = e.H.R := by
 unfold evDraw at h
 cases hec : (okEdges ops && okCert ops (msksOf ops.toList)) with
 | false => rw [hec] at h; cases h
 | true => rw [hec, cond_true] at h; exact Z98 hE _ _ _ _ h
theorem Zb6 {E : Ev} (hE : EvOk P E) {inR : Bool} {ro : Option Nat} (hro : ro ≠ none → inR = true) {id : Nat} {ops : Array Oper} {e e' : ES} {x : Exit} (hm : P.follows .mixedOrders = true) (h : evDraw E P n inR ops e = some (x, e')) : EOk P ro n (.region id ops true) e x e' := by
 refine ⟨Z97 hE h, ?_⟩
 intro C Hl a w hs
 unfold evDraw at h
 cases hec : (okEdges ops && okCert ops (msksOf ops.toList)) with
 | false => rw [hec] at h; cases h
 | true =>
 rw [hec, cond_true] at h
 rw [Bool.and_eq_true] at hec
 refine wpIn_region_any hm ?_
 have hw1 : WR C Hl { w with drawn := w.drawn + 1 } := ⟨hs.sr.wr.hp, hs.sr.wr.nd, fun i o hi => ⟨(hs.sr.wr.ids i o hi).1, (hs.sr.wr.ids i o hi).2.keep (.refl C) (hs.sr.wr.ids i o hi).1 (fun _ _ _ => rfl)⟩, hs.sr.wr.inj, hs.sr.wr.dis⟩
 have he1 : Ext [] C Hl w C Hl { w with drawn := w.drawn + 1 } := ⟨.refl C, fun _ _ h => h, rfl, rfl, rfl, Nat.le_refl _, fun _ _ _ => rfl, fun _ o h => .inl ⟨o, h⟩, fun b h => .inl h, fun i o h => .inl ⟨o, h⟩⟩
 have hf : ∀ i, (Array.replicate ops.size false).getD i false = false := by
  intro i
  rw [Array.getD_eq_getD_getElem?, Array.getElem?_replicate]
  split <;> rfl
 refine Z7v hE hro hec.1 hec.2 (T0 := e.T.ls) (D := e.D) (ops.size + 1) 0 e ops.toList h (by simp) (fun _ => .v undef) C Hl _ a _ ops.size (fun t y hy => by show lk e.T.ls t = some y; rw [Tr.lk_ls]; exact hy) rfl hs.hs hs.fr he1.same hw1 (by simp) ?_ (fun i _ _ => hf i) (fun j hj => absurd hj (Nat.not_lt_zero _)) (fun t y hy _ => hs.sr.sl t y hy) (fun j t hj => absurd hj (Nat.not_lt_zero _)) hs.sr.df hs.sr.du hs.sr.sz (fun i o _ hi => (by rw [hf] at hi; cases hi))
 unfold left
 rw [List.filter_eq_self.2 (fun i _ => by rw [hf]; rfl), List.length_range]
end
end Go.Sx
namespace Go.Sx
open Go
def Tr.toLF {α : Type} : Nat → Tr α → List (Nat × α)
 | 0, _ => []
 | _ + 1, .lf => []
 | f + 1, .nd l x r => (match x with | some v => [(0, v)] | none => []) ++ ((toLF f l).map fun p => (2 * p.1 + 1, p.2)) ++ ((toLF f r).map fun p => (2 * p.1 + 2, p.2))
theorem Tr.mem_toLF {α : Type} : ∀ (f : Nat) (t : Tr α) (k : Nat) (x : α), (k, x) ∈ Tr.toLF f t → Tr.getF f t k = some x
 | 0, t, k, x, h => by simp [Tr.toLF] at h
 | f + 1, .lf, k, x, h => by simp [Tr.toLF] at h
 | f + 1, .nd l y r, k, x, h => by
  simp only [Tr.toLF, List.mem_append, List.mem_map] at h
  rcases h with (h | ⟨p, h1, h2⟩) | ⟨p, h1, h2⟩
  ·cases y with
   | none => simp at h
   | some v => simp at h; obtain ⟨rfl, rfl⟩ := h; rfl
  ·cases h2
   have ih := Tr.mem_toLF f l p.1 p.2 h1
   have h3 : Nat.beq ((2 * p.1) % 2) 0 = true := by rw [show 2 * p.1 % 2 = 0 from by omega]; rfl
   have h4 : 2 * p.1 / 2 = p.1 := by omega
   simp only [Tr.getF, h3, h4, cond_true, ih]
  ·cases h2
   have ih := Tr.mem_toLF f r p.1 p.2 h1
   have h3 : Nat.beq ((2 * p.1 + 1) % 2) 0 = false := by rw [show (2 * p.1 + 1) % 2 = 1 from by omega]; rfl
   have h4 : (2 * p.1 + 1) / 2 = p.1 := by omega
   simp only [Tr.getF, h3, h4, cond_false, ih]
def Tr.toL (t : Tr AV) : List (Nat × AV) := Tr.toLF 40 t
theorem Zdg : ∀ (l : List (Nat × AV)) (k : Nat) (x : AV), lk l k = some x → (k, x) ∈ l
 | [], k, x, h => by simp [lk] at h
 | (a, y) :: r, k, x, h => by
  simp only [lk] at h
  cases hb : Nat.beq a k with
  | true => rw [hb] at h; simp at h; subst h; have := Nat.eq_of_beq_eq_true hb; subst this; exact List.mem_cons_self
  | false => rw [hb] at h; exact List.mem_cons_of_mem _ (Zdg r k x h)
theorem Tr.lk_toL {t : Tr AV} {k : Nat} {x : AV} (h : lk t.toL k = some x) : t.get k = some x := Tr.mem_toLF 40 t k x (Zdg _ _ _ h)
def Tr.ofL : List (Nat × AV) → Tr AV
 | [] => .lf
 | (k, x) :: r => (Tr.ofL r).put k (some x)
theorem Tr.ofL_get : ∀ (l : List (Nat × AV)) (k : Nat) (x : AV), (Tr.ofL l).get k = some x → lk l k = some x
 | [], k, x, h => by simp [Tr.ofL, Tr.get, Tr.getF_lf] at h
 | (a, y) :: r, k, x, h => by
  simp only [Tr.ofL] at h
  simp only [lk]
  rcases Tr.put_get h with ⟨rfl, e⟩ | ⟨hne, e⟩
  ·cases e; simp
  ·have hb : Nat.beq a k = false := by
    cases hb : Nat.beq a k with
    | true => exact absurd (Nat.eq_of_beq_eq_true hb).symm hne
    | false => rfl
   rw [hb, cond_false]; exact Tr.ofL_get r k x e
def Tr.prm (T : Tr AV) : List Tmp → List AV → Tr AV
 | p :: ps, x :: xs => Tr.prm (T.put p (some x)) ps xs
 | _, _ => T
theorem Tr.prm_agree : ∀ (ps : List Tmp) (xs : List AV) (T : Tr AV) (l : List (Nat × AV)), Agree T l → Agree (T.prm ps xs) (Sx.prm l ps xs)
 | [], xs, T, l, h => by cases xs <;> exact h
 | p :: ps, [], T, l, h => h
 | p :: ps, x :: xs, T, l, h => by
  simp only [Tr.prm, Sx.prm]
  exact Tr.prm_agree ps xs _ _ (h.put (d := some p) (x := x))
section
variable {P : Program} {n : Nat}
def codeExit : Code → Option Exit
 | .exit i => some (.exit i)
 | .goto i => some (.goto i)
 | .ret => some .ret
 | _ => none
def evC (E : Ev) (P : Program) (n : Nat) (inR : Bool) (L : Nat) : Code → ES → Option (Exit × ES)
 | .skip, e => some (.normal, e)
 | .label _, e => some (.normal, e)
 | .exit i, e => some (.exit i, e)
 | .goto i, e => some (.goto i, e)
 | .ret, e => some (.ret, e)
 | .refuse _, _ => none
 | .seq a b, e => match evC E P n inR L a e with
  | some (.normal, e') => evC E P n inR L b e'
  | r => r
 | .cond c a b, e => match evT e.T c with
  | some (.v (.bool true)) => evC E P n inR L a e
  | some (.v (.bool false)) => evC E P n inR L b e
  | _ => none
 | .block id c, e => match evC E P n inR L c e with
  | some (.exit i, e') => some (if i = id then .normal else .exit i, e')
  | r => r
 | .scope c, e => match evC E P n inR L c e with
  | some (.goto _, _) => none
  | r => r
 | .loop c, e => evRounds (fun e => evC E P n inR L c e) L e
 | .region _ ops false, e => evOps E P n inR ops ops.toList e
 | .region _ ops true, e => evDraw E P n inR ops e
 | .rangeFunc g ps assign body, e => bif inR then none else match evT e.T g with
  | some (.fn (.func gf) caps) => bif Nat.blt (e.k + 1) MM && ps.all (fun t => Nat.blt t n) then (match E.call gf (.yld (e.k + 1) :: caps) ((e.H.put e.k (some (.raw (.deferred (some []))))).put (e.k + 1) (some (.loop e.T.toL n ps assign body .ready none))) (e.k + 2) with
   | some (.ret _, H', k') => match H'.get (e.k + 1) with
    | some (.loop _ _ _ _ _ .ready none) => some (.normal, ⟨e.T, H'.put (e.k + 1) none, e.k :: e.D, k'⟩)
    | some (.loop _ _ _ _ _ .done (some c)) => match codeExit c with
     | some x => some (x, ⟨e.T, H'.put (e.k + 1) none, e.k :: e.D, k'⟩)
     | none => none
    | _ => none
   | _ => none) else none
  | _ => none
theorem Z8l {ro : Option Nat} {c : Code} {x : Exit} {e : ES} (h : codeExit c = some x) : EOkW P ro n c e x e := by
 intro C Hl a w hs
 unfold codeExit at h
 split at h
 ·cases h; exact wpIn_exit ⟨rfl, C, Hl, hs, .refl ..⟩
 ·cases h; exact wpIn_goto ⟨rfl, C, Hl, hs, .refl ..⟩
 ·cases h; exact wpIn_ret ⟨rfl, C, Hl, hs, .refl ..⟩
 ·cases h
theorem Z6r {Z : List Nat} {C : Ctx} {Hl : AHeap} {w : World} {j id l N : Nat} {r : Loop} {T : List (Nat × AV)} {n : Nat} {ps : Array Tmp} {assign body : Code} {st st' : LoopState} {pend pend' : Option Code}
  (hw : WR C Hl w) (hj : Hl[j]? = some (id, .loop T n ps assign body st pend)) (hm : C.m id = some (l, N)) (hr : w.heap[l]? = some (.loop r)) :
  WR C (Hl.set j (id, .loop T n ps assign body st' pend')) (w.putObj l (.loop { r with state := st', pending := pend' })) ∧
   Ext Z C Hl w C (Hl.set j (id, .loop T n ps assign body st' pend')) (w.putObj l (.loop { r with state := st', pending := pend' })) := by
 obtain ⟨hu, hor⟩ := hw.ids _ _ (List.mem_of_getElem? hj)
 obtain ⟨r', h1, h2, h3, h4, h5, h6, h7, h8⟩ := Z19 hor hm
 rw [hr] at h1; cases h1
 refine Z0t hw hj (.refl C) rfl (.inl rfl) hu (fun _ _ h => h) rfl rfl rfl (by simp) (fun b N' h => .inl ⟨N', h⟩) (fun b hb hne => World.putObj_heap_other (by rintro rfl; exact hne N hm)) ?_
 exact ⟨l, N, _, hm, World.putObj_heap_same (Array.getElem?_eq_some_iff.1 hr).1, rfl, rfl, h4, h5, h6, h7, h8⟩
theorem SubH.set {C : Ctx} {Hl : AHeap} {w : World} {H : Hp} {j id : Nat} {ob ob' : AObj} (hw : WR C Hl w) (hs : SubH H Hl) (hf : getR H.R id = none) (hj : Hl[j]? = some (id, ob)) : SubH (H.put id (some ob')) (Hl.set j (id, ob')) := by
 refine hs.put hf (Z22 hj) ?_
 intro i o' hne hm
 obtain ⟨m, hm⟩ := Z1t hm
 exact Z1l hm (Z48 hw hj hm hne)
theorem SubH.setE {C : Ctx} {Hl : AHeap} {w : World} {H : Hp} {j id : Nat} {ob ob' : AObj} (hw : WR C Hl w) (hs : SubH H Hl) (hf : getR H.R id = none) (hj : Hl[j]? = some (id, ob)) : SubH (H.put id none) (Hl.set j (id, ob')) := by
 intro i o hg
 obtain ⟨hne, e2⟩ := Z7y hf hg
 obtain ⟨m, hm⟩ := Z1t (hs i o e2)
 exact Z1l hm (Z48 hw hj hm hne)
theorem Za2 {E : Ev} (hE : EvOk P E) {L : Nat} {g : Operand} {ps : Array Tmp} {assign body : Code} {e : ES} {x : Exit} {e' : ES} (h : evC E P n false L (.rangeFunc g ps assign body) e = some (x, e')) : EOkW P none n (.rangeFunc g ps assign body) e x e' := by
 simp only [evC, cond_false] at h
 split at h
 ·rename_i gf caps hg
  cases hc : (Nat.blt (e.k + 1) MM && ps.all (fun t => Nat.blt t n)) with
  | false => rw [hc] at h; cases h
  | true =>
   rw [hc, cond_true] at h
   rw [Bool.and_eq_true, Nat.blt_eq] at hc
   split at h
   ·rename_i rx H' k' hcall
    have hcl := hE.call _ _ _ _ _ _ _ hcall
    intro C Hl a w hs
    refine wpIn_rangeFunc (F := Wd none) (n := 0) (fun fn _ => ?_)
    have f1 := hs.fr e.k (Nat.le_refl _) (by omega)
    have hZ : ∀ j, e.k ≤ j → j < e.k + 2 → j ∉ Zx e.k (e.k + 2) := fun j hj0 hj h => by have := (mem_Zx.1 h).2; omega
    have hd1 : OR (C.bind e.k w.heap.size 0) e.k (w.alloc (.deferred (some []))) (.raw (.deferred (some []))) := ⟨_, 0, Ctx.bind_m .., heap_alloc_new w _⟩
    obtain ⟨hw1, he1⟩ := Z1i (Z := Zx e.k (e.k + 2)) hs.sr.wr f1 (hZ _ (by omega) (by omega)) hd1
    have f2 : e.k + 1 ∉ (C.bind e.k w.heap.size 0).U := by
     intro h
     rcases List.mem_cons.1 h with h | h
     ·omega
     ·exact hs.fr (e.k + 1) (by omega) hc.1 h
    let rec0 : Loop := { state := .ready, pending := none, fn := fn, tmps := a.tmps, params := ps, assign := assign, body := body, defers := w.heap.size }
    let C2 := (C.bind e.k w.heap.size 0).bind (e.k + 1) (w.alloc (.deferred (some []))).heap.size 0
    let w2 := (w.alloc (.deferred (some []))).alloc (.loop rec0)
    have hsz1 : (w.alloc (.deferred (some []))).heap.size = w.heap.size + 1 := by simp
    have hl2 : OR C2 (e.k + 1) w2 (.loop e.T.toL n ps assign body .ready none) := by
     refine ⟨_, 0, rec0, Ctx.bind_m .., heap_alloc_new _ _, rfl, rfl, rfl, rfl, rfl, hs.sr.sz, fun t x ht => ?_⟩
     obtain ⟨v, h1, h2⟩ := hs.sr.sl t x (by rw [Tr.lk_ls]; exact Tr.lk_toL ht)
     exact ⟨v, h1, (h2.mono he1.le).mono (Ctx.le_bind f2)⟩
    obtain ⟨hw2, he2⟩ := Z1i (Z := Zx e.k (e.k + 2)) hw1 f2 (hZ _ (by omega) (by omega)) hl2
    have he12 := he1.trans he2
    have hm2 : C2.m (e.k + 1) = some (w.heap.size + 1, 0) := by rw [← hsz1]; exact Ctx.bind_m ..
    have hm1 : C2.m e.k = some (w.heap.size, 0) := by rw [he2.le.m e.k List.mem_cons_self]; exact Ctx.bind_m ..
    have hgv := hs.sr.ev (show ev e.T.ls g = some (.fn (.func gf) caps) by rw [Z0d]; exact hg)
    generalize hge : a.eval g = gv at hgv
    cases hgv with
    | fn _ _ vcaps hcl1 hcv =>
     refine ⟨w.heap.size + 1, [{ target := .collected w.heap.size, args := #[] }], w2, { target := .fn (.func gf) vcaps, args := #[.func (.yield (w.heap.size + 1)) #[] #[]] }, w2, gf, #[.func (.yield (w.heap.size + 1)) #[] #[]] ++ vcaps, w2, run_enterLoop_outer fn a.tmps ps assign body, ?_, fun _ _ => trivial, ?_, nofun, ?_⟩
     ·simp only [resolve, rangeCall, Deferred.ofValue, hge, Sem.run_pure]
      simp [Act.eval]
     ·simp only [invoke]; exact Z3v hcl.1 _ w2
     have hvs : VRs C2 (.yld (e.k + 1) :: caps) (#[.func (.yield (w.heap.size + 1)) #[] #[]] ++ vcaps) := by
      have h1 : VRs C2 [.yld (e.k + 1)] #[.func (.yield (w.heap.size + 1)) #[] #[]] := ⟨rfl, by
       intro i x v hx hv
       cases i with
       | zero => simp at hx hv; subst hx; subst hv; exact .yld (e.k + 1) _ 0 hm2 List.mem_cons_self
       | succ i => simp at hx⟩
      exact h1.append ⟨hcl1, fun i x v hx hv => ((hcv i x v hx hv).mono he1.le).mono he2.le⟩
     have hsub : SubH ((e.H.put e.k (some (.raw (.deferred (some []))))).put (e.k + 1) (some (.loop e.T.toL n ps assign body .ready none))) ((e.k + 1, .loop e.T.toL n ps assign body .ready none) :: (e.k, .raw (.deferred (some []))) :: Hl) :=
      (hs.hs.put (hs.hs.free hs.sr.wr hs.fr (Nat.le_refl _) (by omega)) List.mem_cons_self (fun i o _ h => List.mem_cons_of_mem _ h)).put (hs.hs.free hs.sr.wr hs.fr (Nat.le_succ _) (by omega)) List.mem_cons_self (fun i o _ h => List.mem_cons_of_mem _ h)
     have hx12 := he12.ex (by omega : e.k ≤ e.k + 2)
     have hfr2 : Fr (e.k + 2) C2 := hx12.fr hs.fr
     refine (hcl.2.2 C2 _ w2 _ hw2 hsub hfr2 hvs).mono ?_
     rintro en w3 ⟨C3, Hl3, x1, hw3, hh3, hf3, he3⟩
     have hm3 : C3.m (e.k + 1) = some (w.heap.size + 1, 0) := by rw [he3.le.m (e.k + 1) List.mem_cons_self]; exact hm2
     have fin : ∀ (T0 : List (Nat × AV)) (n0 : Nat) (ps0 : Array Tmp) (a0 b0 : Code) (st : LoopState) (pend : Option Code), H'.get (e.k + 1) = some (.loop T0 n0 ps0 a0 b0 st pend) → st ≠ .busy →
       ∃ w4 Hl4, (Instr.endLoop (w.heap.size + 1)).run P w3 = .ok pend w4 ∧ SE C3 Hl4 ⟨e.T, H'.put (e.k + 1) none, e.k :: e.D, k'⟩ n { a with defers := [{ target := .collected w.heap.size, args := #[] }] ++ a.defers } w4 ∧
        EX e.k C Hl w k' C3 Hl4 w4 := by
      intro T0 n0 ps0 a0 b0 st pend hget hst
      obtain ⟨j, hj⟩ := Z1t (hh3 _ _ hget)
      obtain ⟨_, hor⟩ := hw3.ids _ _ (List.mem_of_getElem? hj)
      obtain ⟨r, g1, g2, g3, _⟩ := Z19 hor hm3
      obtain ⟨ht1, ht2⟩ := Z6r (Z := []) (st' := .exhausted) (pend' := r.pending) hw3 hj hm3 g1
      refine ⟨_, _, by rw [← g3]; exact run_endLoop g1 (by rw [g2]; exact hst), ⟨⟨ht1, fun t x ht => ?_, ?_, ?_, hs.sr.sz⟩, hh3.setE hw3 (by rw [hcl.2.1]; exact hs.hs.free hs.sr.wr hs.fr (Nat.le_succ _) hc.1) hj, hf3⟩, ?_⟩
      ·obtain ⟨v, h1, h2⟩ := hs.sr.sl t x ht
       exact ⟨v, h1, (h2.mono he12.le).mono he3.le⟩
      ·simp only [List.map_cons, List.cons_append, List.nil_append]
       have e1 : mark C3 e.k = { target := .collected w.heap.size, args := #[] } := by
        simp [mark, he3.le.m e.k (List.mem_cons_of_mem _ List.mem_cons_self), hm1]
       rw [e1, hs.sr.df]
       congr 1
       exact List.map_congr_left fun i hi => by
        have e2 : C3.m i = C.m i := (he3.le.m i (he12.le.U i (hs.sr.du i hi))).trans (he12.le.m i (hs.sr.du i hi))
        have e3 : C3.df i = C.df i := (he3.le.df i (he12.le.U i (hs.sr.du i hi))).trans (he12.le.df i (hs.sr.du i hi))
        simp only [mark, e2, e3]
      ·intro i hi
       rcases List.mem_cons.1 hi with rfl | hi
       ·exact he3.le.U _ (List.mem_cons_of_mem _ List.mem_cons_self)
       ·exact he3.le.U i (he12.le.U i (hs.sr.du i hi))
      ·exact (hx12.trans he3).trans ht2.same
     cases en with
     | returned v' =>
      split at h
      ·rename_i T0 n0 ps0 a0 b0 hget
       cases h
       obtain ⟨w4, Hl4, h1, h2, h3⟩ := fin _ _ _ _ _ .ready none hget nofun
       exact ⟨none, w4, h1, rfl, C3, Hl4, h2, h3⟩
      ·rename_i T0 n0 ps0 a0 b0 c hget
       split at h
       ·rename_i y hy
        cases h
        obtain ⟨w4, Hl4, h1, h2, h3⟩ := fin _ _ _ _ _ .done (some c) hget nofun
        exact ⟨some c, w4, h1, wpIn_mono (Z8l hy C3 Hl4 _ w4 h2) fun x' a' w' hq => hq.from h3⟩
       ·cases h
      ·cases h
     | panicked ch => exact x1.elim
     | outgrown => exact x1.elim
   ·cases h
 ·cases h
theorem Z58 {ro : Option Nat} {f : ES → Option (Exit × ES)} {c : Code} {k0 : Nat} {C0 : Ctx} {H0 : AHeap} {w0 : World} (hf : ∀ e x e', f e = some (x, e') → EOkW P ro n c e x e') : ∀ (m : Nat) (e : ES) (x : Exit) (e' : ES), evRounds f m e = some (x, e') →
  ∀ C Hl a w, SE C Hl e n a w → EX k0 C0 H0 w0 e.k C Hl w → Code.roundsIn (Wd ro) 0 P c (EPost k0 C0 H0 w0 x e' n) m a w
 | 0, e, x, e', h, C, Hl, a, w, hs, hx => by simp [evRounds] at h
 | m + 1, e, x, e', h, C, Hl, a, w, hs, hx => by
  simp only [evRounds] at h
  rw [roundsIn_succ]
  split at h
  ·rename_i e1 h1
   refine wpIn_mono (hf _ _ _ h1 C Hl a w hs) ?_
   rintro x' a' w' ⟨rfl, C', Hl', hs', hx'⟩
   exact Z58 hf m e1 x e' h C' Hl' a' w' hs' (hx.trans hx')
  ·rename_i r hr
   refine wpIn_mono (hf _ _ _ h C Hl a w hs) ?_
   rintro x' a' w' ⟨rfl, q⟩
   have hq : EPost k0 C0 H0 w0 x' e' n x' a' w' := EPost.from hx ⟨rfl, q⟩
   cases x' with
   | normal => exact (hr e' h).elim
   | _ => exact hq
theorem Ze3 {E : Ev} (hE : EvOk P E) {inR : Bool} {ro : Option Nat} (hro : ro ≠ none → inR = true) (hro2 : inR = false → ro = none) (hm : P.follows .mixedOrders = true) {L : Nat} : ∀ (c : Code) (e : ES) (x : Exit) (e' : ES), evC E P n inR L c e = some (x, e') → EOkW P ro n c e x e' := by
 intro c
 induction c with
 | skip => intro e x e' h C Hl a w hs; simp only [evC, Option.some.injEq, Prod.mk.injEq] at h; obtain ⟨rfl, rfl⟩ := h; exact wpIn_skip ⟨rfl, C, Hl, hs, .refl ..⟩
 | label l => intro e x e' h C Hl a w hs; simp only [evC, Option.some.injEq, Prod.mk.injEq] at h; obtain ⟨rfl, rfl⟩ := h; exact wpIn_label ⟨rfl, C, Hl, hs, .refl ..⟩
 | exit i => intro e x e' h C Hl a w hs; simp only [evC, Option.some.injEq, Prod.mk.injEq] at h; obtain ⟨rfl, rfl⟩ := h; exact wpIn_exit ⟨rfl, C, Hl, hs, .refl ..⟩
 | goto i => intro e x e' h C Hl a w hs; simp only [evC, Option.some.injEq, Prod.mk.injEq] at h; obtain ⟨rfl, rfl⟩ := h; exact wpIn_goto ⟨rfl, C, Hl, hs, .refl ..⟩
 | ret => intro e x e' h C Hl a w hs; simp only [evC, Option.some.injEq, Prod.mk.injEq] at h; obtain ⟨rfl, rfl⟩ := h; exact wpIn_ret ⟨rfl, C, Hl, hs, .refl ..⟩
 | refuse s => intro e x e' h; simp [evC] at h
 | seq a b iha ihb =>
  intro e x e' h C Hl ac w hs
  simp only [evC] at h
  refine wpIn_seq ?_
  split at h
  ·rename_i e1 h1
   refine wpIn_mono (iha _ _ _ h1 C Hl ac w hs) ?_
   rintro x' a' w' ⟨rfl, C', Hl', hs', hx'⟩
   exact wpIn_mono (ihb _ _ _ h C' Hl' a' w' hs') fun x2 a2 w2 hq => hq.from hx'
  ·rename_i r hr
   refine wpIn_mono (iha _ _ _ h C Hl ac w hs) ?_
   rintro x' a' w' ⟨rfl, q⟩
   cases x' with
   | normal => exact (hr e' h).elim
   | _ => exact ⟨rfl, q⟩
 | cond c a b iha ihb =>
  intro e x e' h C Hl ac w hs
  simp only [evC] at h
  split at h
  ·rename_i hc
   have := VR.val (hs.sr.ev (show ev e.T.ls c = some (.v (.bool true)) by rw [Z0d]; exact hc))
   exact wpIn_cond_split (t := true) this (fun _ => iha _ _ _ h C Hl ac w hs) nofun
  ·rename_i hc
   have := VR.val (hs.sr.ev (show ev e.T.ls c = some (.v (.bool false)) by rw [Z0d]; exact hc))
   exact wpIn_cond_split (t := false) this nofun (fun _ => ihb _ _ _ h C Hl ac w hs)
  ·cases h
 | block id c ih =>
  intro e x e' h C Hl ac w hs
  simp only [evC] at h
  refine wpIn_block ?_
  split at h
  ·rename_i i e1 h1
   simp only [Option.some.injEq, Prod.mk.injEq] at h
   obtain ⟨h2, rfl⟩ := h
   refine wpIn_mono (ih _ _ _ h1 C Hl ac w hs) ?_
   rintro x' a' w' ⟨rfl, q⟩
   subst h2
   by_cases hi : i = id
   ·simp only [Exit.inBlock, hi, if_true]; exact ⟨rfl, q⟩
   ·simp only [Exit.inBlock, hi, if_false]; exact ⟨rfl, q⟩
  ·rename_i r hr
   refine wpIn_mono (ih _ _ _ h C Hl ac w hs) ?_
   rintro x' a' w' ⟨rfl, q⟩
   cases x' with
   | exit i => exact (hr i e' h).elim
   | _ => exact ⟨rfl, q⟩
 | scope c ih =>
  intro e x e' h C Hl ac w hs
  simp only [evC] at h
  refine Zad ?_
  split at h
  ·cases h
  ·rename_i r hr
   refine wpIn_mono (ih _ _ _ h C Hl ac w hs) ?_
   rintro x' a' w' ⟨rfl, q⟩
   cases x' with
   | goto i => exact (hr i e' h).elim
   | _ => exact ⟨rfl, q⟩
 | loop c ih =>
  intro e x e' h C Hl ac w hs
  simp only [evC] at h
  exact wpIn_loop_rounds L (Z58 ih L e x e' h C Hl ac w hs (.refl ..))
 | region id ops d =>
  intro e x e' h
  cases d with
  | false =>
   intro C Hl a w hs
   simp only [evC] at h
   refine wpIn_region ?_
   have := Z3n hE hro (C0 := C) (H0 := Hl) (w0 := w) ops.toList e h 0 (by simp) C Hl a w hs (.refl ..)
   rw [List.range_eq_range']
   simpa using this
  | true =>
   simp only [evC] at h
   exact (Zb6 hE hro hm h).2
 | rangeFunc g ps assign body _ _ =>
  intro e x e' h
  cases inR with
  | true => simp [evC] at h
  | false =>
   have := hro2 rfl
   subst this
   exact Za2 hE h
theorem Z65 {f : ES → Option (Exit × ES)} (hf : ∀ e x e', f e = some (x, e') → e'.H.R = e.H.R) : ∀ (m : Nat) (e : ES) (x : Exit) (e' : ES), evRounds f m e = some (x, e') → e'.H.R = e.H.R
 | 0, e, x, e', h => by simp [evRounds] at h
 | m + 1, e, x, e', h => by
  simp only [evRounds] at h
  split at h
  ·rename_i e1 h1; exact (Z65 hf m e1 x e' h).trans (hf _ _ _ h1)
  ·exact hf _ _ _ h
theorem Zb3 {E : Ev} (hE : EvOk P E) {inR : Bool} (hm : P.follows .mixedOrders = true) {L : Nat} : ∀ (c : Code) (e : ES) (x : Exit) (e' : ES), evC E P n inR L c e = some (x, e') → e'.H.R = e.H.R := by
 intro c
 induction c with
 | skip => intro e x e' h; simp only [evC, Option.some.injEq, Prod.mk.injEq] at h; obtain ⟨rfl, rfl⟩ := h; rfl
 | label l => intro e x e' h; simp only [evC, Option.some.injEq, Prod.mk.injEq] at h; obtain ⟨rfl, rfl⟩ := h; rfl
 | exit i => intro e x e' h; simp only [evC, Option.some.injEq, Prod.mk.injEq] at h; obtain ⟨rfl, rfl⟩ := h; rfl
 | goto i => intro e x e' h; simp only [evC, Option.some.injEq, Prod.mk.injEq] at h; obtain ⟨rfl, rfl⟩ := h; rfl
 | ret => intro e x e' h; simp only [evC, Option.some.injEq, Prod.mk.injEq] at h; obtain ⟨rfl, rfl⟩ := h; rfl
 | refuse s => intro e x e' h; simp [evC] at h
 | seq a b iha ihb =>
  intro e x e' h
  simp only [evC] at h
  split at h
  ·rename_i e1 h1; exact (ihb _ _ _ h).trans (iha _ _ _ h1)
  ·exact iha _ _ _ h
 | cond c a b iha ihb =>
  intro e x e' h
  simp only [evC] at h
  split at h
  ·exact iha _ _ _ h
  ·exact ihb _ _ _ h
  ·cases h
 | block id c ih =>
  intro e x e' h
  simp only [evC] at h
  split at h
  ·rename_i i e1 h1
   simp only [Option.some.injEq, Prod.mk.injEq] at h
   obtain ⟨h2, rfl⟩ := h
   exact ih _ _ _ h1
  ·exact ih _ _ _ h
 | scope c ih =>
  intro e x e' h
  simp only [evC] at h
  split at h
  ·cases h
  ·exact ih _ _ _ h
 | loop c ih =>
  intro e x e' h
  simp only [evC] at h
  exact Z65 ih L e x e' h
 | region id ops d =>
  intro e x e' h
  cases d with
  | false => simp only [evC] at h; exact Z57 hE ops.toList e h
  | true => simp only [evC] at h; exact Z97 hE h
 | rangeFunc g ps assign body _ _ =>
  intro e x e' h
  simp only [evC] at h
  cases inR with
  | true => cases h
  | false =>
   rw [cond_false] at h
   split at h
   ·rename_i gf caps hg
    cases hc : (Nat.blt (e.k + 1) MM && ps.all (fun t => Nat.blt t n)) with
    | false => rw [hc] at h; cases h
    | true =>
     rw [hc, cond_true] at h
     split at h
     ·rename_i rx H' k' hcall
      have hR := (hE.call _ _ _ _ _ _ _ hcall).2.1
      split at h
      ·cases h; exact hR
      ·split at h
       ·cases h; exact hR
       ·cases h
      ·cases h
     ·cases h
   ·cases h
theorem Z96 {E : Ev} (hE : EvOk P E) {inR : Bool} {ro : Option Nat} (hro : ro ≠ none → inR = true) (hro2 : inR = false → ro = none) (hm : P.follows .mixedOrders = true) {L : Nat} (c : Code) (e : ES) (x : Exit) (e' : ES) (h : evC E P n inR L c e = some (x, e')) : EOk P ro n c e x e' :=
 ⟨Zb3 hE hm c e x e' h, Ze3 hE hro hro2 hm c e x e' h⟩
end
end Go.Sx
namespace Go.Sx
open Go
section
variable {P : Program} {n : Nat}
def evRes (P : Program) (T : Tr AV) (H : Hp) : List ResultVar → Option (List AV)
 | [] => some []
 | .tmp t :: r => match T.get t, evRes P T H r with
  | some x, some xs => some (x :: xs)
  | _, _ => none
 | .cell a t :: r => match T.get a, evRes P T H r with
  | some p, some xs => match evLoad P H t p with
   | some x => some (x :: xs)
   | none => none
  | _, _ => none
theorem Z4k {T : Tr AV} {H : Hp} {Hl : AHeap} (hs : SubH H Hl) : ∀ (rs : List ResultVar) (xs : List AV), evRes P T H rs = some xs → Res P T.ls Hl rs xs
 | [], xs, h => by simp only [evRes, Option.some.injEq] at h; subst h; trivial
 | .tmp t :: r, xs, h => by
  simp only [evRes] at h
  split at h
  ·rename_i x ys h1 h2
   cases h
   exact ⟨by rw [Tr.lk_ls]; exact h1, Z4k hs r ys h2⟩
  ·cases h
 | .cell a t :: r, xs, h => by
  simp only [evRes] at h
  split at h
  ·rename_i p ys h1 h2
   split at h
   ·rename_i x hx
    cases h
    refine ⟨⟨p, ?_⟩, Z4k hs r ys h2⟩
    unfold evLoad at hx
    split at hx
    ·rename_i id sz i c
     split at hx
     ·rename_i el sz' es hg
      split at hx
      ·rename_i e; subst e
       split at hx
       ·rename_i e he
        exact ⟨e.drop c, by rw [Tr.lk_ls]; exact h1, ⟨el, es, e, hs _ _ hg, he, rfl⟩, Z2w hx⟩
       ·cases hx
      ·cases hx
     ·cases hx
    ·rename_i es i c
     split at hx
     ·rename_i e he
      exact ⟨e.drop c, by rw [Tr.lk_ls]; exact h1, ⟨e, he, rfl⟩, Z2w hx⟩
     ·cases hx
    ·cases hx
   ·cases h
  ·cases h
def isRec : Op → Bool
 | .call ⟨.builtin .recover, _, _⟩ => true
 | _ => false
def recV : FrameMode → Value × FrameMode
 | .panicking ({ v, recovered := false, goexit := false } :: older) => (v, .panicking ({ v, recovered := true } :: older))
 | u => (.nilIface, u)
def evAsgs (n : Nat) : List Oper → Tr AV → Option (Tr AV)
 | [], T => some T
 | o :: r, T => match o.guard, o.dst, o.op with
  | none, some t, .assign p => bif Nat.blt t n then (match evT T p with
   | some x => evAsgs n r (T.put t (some x))
   | none => none) else none
  | _, _, _ => none
theorem Z56 {ops : Array Oper} {D : List Nat} {H : Hp} {k0 : Nat} {C : Ctx} {Hl : AHeap} {w : World} {cs : List Frame} {T' : Tr AV} {Q : Exit → Act → List Frame → World → Prop} : ∀ (l : List Oper) (T : Tr AV) (k : Nat), evAsgs n l T = some T' → ops.toList.drop k = l →
  ∀ a, SE C Hl ⟨T, H, D, k0⟩ n a w → (∀ a', SE C Hl ⟨T', H, D, k0⟩ n a' w → Q .normal a' cs w) → wpOpsSIn (Wd none) 0 P ops Q (List.range' k l.length) a cs w
 | [], T, k, h, hk, a, hs, hq => by
  simp only [evAsgs, Option.some.injEq] at h
  subst h
  simp only [List.length_nil, List.range'_zero, wpOpsSIn]
  exact hq a hs
 | o :: r, T, k, h, hk, a, hs, hq => by
  obtain ⟨h1, h2⟩ := Z03 hk
  have ho : ops[k]? = some o := by rw [← Array.getElem?_toList]; exact h1
  simp only [evAsgs] at h
  split at h
  ·rename_i t p hg hd hop
   cases hb : Nat.blt t n with
   | false => rw [hb] at h; cases h
   | true =>
    rw [hb, cond_true] at h
    split at h
    ·rename_i x hx
     rw [List.length_cons, List.range'_succ]
     simp only [wpOpsSIn, ho]
     have hw : Region.wanted o (yielded ops a.tmps) = true := by simp [Region.wanted, hg]
     have hrun : (execOp a.eval o).run P w = .ok (.value (a.eval p)) w := by simp [execOp, hop]
     refine ⟨fun _ _ => trivial, ?_⟩
     rw [if_pos hw, hrun]
     simp only
     refine Z56 r _ (k + 1) h h2 _ ?_ hq
     have hv := hs.sr.ev (show ev T.ls p = some x by rw [Z0d]; exact hx)
     have := hs.next (d := o.dst) (x := x) (v := a.eval p) (H' := H) (k' := k0) (by rw [hd]; exact hb) (.refl C) hv hs.sr.wr hs.hs hs.fr
     rw [hd] at this ⊢
     exact this
    ·cases h
  ·cases h
def evS (E : Ev) (P : Program) (n L : Nat) : Code → FrameMode → ES → Option (Exit × FrameMode × ES)
 | .seq a b, u, e => match evS E P n L a u e with
  | some (.normal, u', e') => evS E P n L b u' e'
  | r => r
 | .cond c a b, u, e => match evT e.T c with
  | some (.v (.bool true)) => evS E P n L a u e
  | some (.v (.bool false)) => evS E P n L b u e
  | _ => none
 | .region id ops d, u, e => match d, ops.toList with
  | false, o :: r => bif isRec o.op then (match o.guard, o.dst with
    | none, some t => bif Nat.blt t n then (match evAsgs n r (e.T.put t (some (.v (recV u).1))) with
     | some T' => some (.normal, (recV u).2, { e with T := T' })
     | none => none) else none
    | _, _ => none)
   else (match evC E P n false L (.region id ops d) e with
    | some (x, e') => some (x, u, e')
    | none => none)
  | _, _ => match evC E P n false L (.region id ops d) e with
    | some (x, e') => some (x, u, e')
    | none => none
 | c, u, e => match evC E P n false L c e with
  | some (x, e') => some (x, u, e')
  | none => none
def SPost (k0 : Nat) (C0 : Ctx) (H0 : AHeap) (w0 : World) (x : Exit) (u' : FrameMode) (e' : ES) (n : Nat) (c0 : Frame) (cs : List Frame) : Exit → Act → List Frame → World → Prop :=
 fun x' a' cs' w' => cs' = { c0 with mode := u' } :: cs ∧ EPost k0 C0 H0 w0 x e' n x' a' w'
theorem Zbt {c0 : Frame} {cs : List Frame} {u : FrameMode} (hu : c0.mode = u) : (recoverD (c0 :: cs) = some ((recV u).1, { c0 with mode := (recV u).2 } :: cs)) ∨ (recoverD (c0 :: cs) = none ∧ recV u = (.nilIface, u)) := by
 subst hu
 simp only [recoverD, recV]
 split
 ·rename_i v older h
  left
  simp only [h]
 ·rename_i h
  refine .inr ⟨rfl, ?_⟩
  split
  ·rename_i v older h2; exact (h v older h2).elim
  ·rfl
theorem Zes {E : Ev} (hE : EvOk P E) (hm : P.follows .mixedOrders = true) {L : Nat} {k0 : Nat} {C0 : Ctx} {H0 : AHeap} {w0 : World} : ∀ (c : Code) (u : FrameMode) (e : ES) (x : Exit) (u' : FrameMode) (e' : ES), evS E P n L c u e = some (x, u', e') →
  ∀ C Hl a w, SE C Hl e n a w → EX k0 C0 H0 w0 e.k C Hl w → ∀ c0 cs, c0.mode = u → c.wpSIn (Wd none) 0 P (SPost k0 C0 H0 w0 x u' e' n c0 cs) a (c0 :: cs) w := by
 have plain : ∀ (c : Code) (u : FrameMode) (e : ES) (x : Exit) (u' : FrameMode) (e' : ES), (match evC E P n false L c e with | some (x, e') => some (x, u, e') | none => none) = some (x, u', e') →
  ∀ C Hl a w, SE C Hl e n a w → EX k0 C0 H0 w0 e.k C Hl w → ∀ c0 cs, c0.mode = u → c.wpSIn (Wd none) 0 P (SPost k0 C0 H0 w0 x u' e' n c0 cs) a (c0 :: cs) w := by
  intro c u e x u' e' h C Hl a w hs hx c0 cs hu
  split at h
  ·rename_i y e1 h1
   cases h
   subst hu
   refine wpSIn_of_wpIn rfl (wpIn_mono ((Z96 hE nofun (fun _ => rfl) hm c e x e' h1).2 C Hl a w hs) ?_)
   intro x2 a2 w2 hq
   exact ⟨rfl, hq.from hx⟩
  ·cases h
 intro c
 induction c with
 | seq a b iha ihb =>
  intro u e x u' e' h C Hl ac w hs hx c0 cs hu
  simp only [evS] at h
  refine wpSIn_seq ?_
  split at h
  ·rename_i u1 e1 h1
   have := iha _ _ _ _ _ h1 C Hl ac w hs hx c0 cs hu
   intro b0 k hb hr hF hroom
   obtain ⟨x2, a2, cs2, w2, hl, ⟨rfl, rfl, C2, Hl2, hs2, hx2⟩, harr⟩ := this b0 k hb hr hF hroom
   exact ⟨.normal, a2, _, w2, hl, ihb _ _ _ _ _ h C2 Hl2 a2 w2 hs2 hx2 { c0 with mode := u1 } cs rfl, harr⟩
  ·rename_i r hr
   have := iha _ _ _ _ _ h C Hl ac w hs hx c0 cs hu
   intro b0 k hb hr' hF hroom
   obtain ⟨x2, a2, cs2, w2, hl, ⟨hc, rfl, q⟩, harr⟩ := this b0 k hb hr' hF hroom
   refine ⟨x2, a2, cs2, w2, hl, ?_, harr⟩
   cases x2 with
   | normal => exact (hr u' e' h).elim
   | _ => exact ⟨hc, rfl, q⟩
 | cond c a b iha ihb =>
  intro u e x u' e' h C Hl ac w hs hx c0 cs hu
  simp only [evS] at h
  split at h
  ·rename_i hc
   have := VR.val (hs.sr.ev (show ev e.T.ls c = some (.v (.bool true)) by rw [Z0d]; exact hc))
   exact wpSIn_cond (t := true) this (iha _ _ _ _ _ h C Hl ac w hs hx c0 cs hu)
  ·rename_i hc
   have := VR.val (hs.sr.ev (show ev e.T.ls c = some (.v (.bool false)) by rw [Z0d]; exact hc))
   exact wpSIn_cond (t := false) this (ihb _ _ _ _ _ h C Hl ac w hs hx c0 cs hu)
  ·cases h
 | region id ops d =>
  intro u e x u' e' h C Hl ac w hs hx c0 cs hu
  simp only [evS] at h
  split at h
  ·rename_i o r ho
   cases hr : isRec o.op with
   | false => rw [hr] at h; exact plain _ _ _ _ _ _ h C Hl ac w hs hx c0 cs hu
   | true =>
    rw [hr, cond_true] at h
    split at h
    ·rename_i t hg hd
     cases hb : Nat.blt t n with
     | false => rw [hb] at h; cases h
     | true =>
      rw [hb, cond_true] at h
      split at h
      ·rename_i T' hT
       simp only [Option.some.injEq, Prod.mk.injEq] at h
       obtain ⟨rfl, rfl, rfl⟩ := h
       refine wpSIn_region ?_
       have hsz : ops.size = r.length + 1 := by rw [← Array.length_toList, ho]; rfl
       have h0 : ops[0]? = some o := by rw [← Array.getElem?_toList, ho]; rfl
       have hdr : ops.toList.drop 1 = r := by rw [ho]; rfl
       rw [hsz, List.range_eq_range', List.range'_succ]
       simp only [wpOpsSIn, h0]
       have hrec : (execOp ac.eval o).run P w = .ok .recover w := by
        unfold isRec at hr
        split at hr
        ·rename_i args ats hop
         simp [execOp, hop, resolve, invoke, builtin, Sem.run_bind, Sem.run_pure, Result.andThen]
        ·cases hr
       have hw : Region.wanted o (yielded ops ac.tmps) = true := by simp [Region.wanted, hg]
       refine ⟨fun _ _ => trivial, ?_⟩
       rw [if_pos hw, hrec]
       simp only
       have hnext : ∀ v, SE C Hl { e with T := e.T.put t (some (.v v)) } n (ac.put o.dst v) w := by
        intro v
        have := hs.next (d := o.dst) (x := .v v) (v := v) (H' := e.H) (k' := e.k) (by rw [hd]; exact hb) (.refl C) (.v v) hs.sr.wr hs.hs hs.fr
        rw [hd] at this ⊢
        exact this
       rcases Zbt (cs := cs) hu with h1 | ⟨h1, h2⟩
       ·rw [h1]; exact Z56 r _ (0 + 1) hT hdr _ (hnext _) fun a' hs' => ⟨rfl, rfl, C, Hl, hs', hx⟩
       ·rw [h1]
        rw [h2] at hT ⊢
        refine Z56 r _ (0 + 1) hT hdr _ (hnext _) fun a' hs' => ⟨?_, rfl, C, Hl, hs', hx⟩
        subst hu; rfl
      ·cases h
    ·cases h
  ·exact plain _ _ _ _ _ _ h C Hl ac w hs hx c0 cs hu
 | _ => intro u e x u' e' h C Hl ac w hs hx c0 cs hu; simp only [evS] at h; exact plain _ _ _ _ _ _ h C Hl ac w hs hx c0 cs hu
theorem Ze6 {E : Ev} (hE : EvOk P E) (hm : P.follows .mixedOrders = true) {L : Nat} : ∀ (c : Code) (u : FrameMode) (e : ES) (x : Exit) (u' : FrameMode) (e' : ES), evS E P n L c u e = some (x, u', e') → e'.H.R = e.H.R := by
 have plain : ∀ (c : Code) (u : FrameMode) (e : ES) (x : Exit) (u' : FrameMode) (e' : ES), (match evC E P n false L c e with | some (x, e') => some (x, u, e') | none => none) = some (x, u', e') → e'.H.R = e.H.R := by
  intro c u e x u' e' h
  split at h
  ·rename_i y e1 h1; cases h; exact Zb3 hE hm c e x e' h1
  ·cases h
 intro c
 induction c with
 | seq a b iha ihb =>
  intro u e x u' e' h
  simp only [evS] at h
  split at h
  ·rename_i u1 e1 h1; exact (ihb _ _ _ _ _ h).trans (iha _ _ _ _ _ h1)
  ·exact iha _ _ _ _ _ h
 | cond c a b iha ihb =>
  intro u e x u' e' h
  simp only [evS] at h
  split at h
  ·exact iha _ _ _ _ _ h
  ·exact ihb _ _ _ _ _ h
  ·cases h
 | region id ops d =>
  intro u e x u' e' h
  simp only [evS] at h
  split at h
  ·rename_i o r ho
   cases hr : isRec o.op with
   | false => rw [hr] at h; exact plain _ _ _ _ _ _ h
   | true =>
    rw [hr, cond_true] at h
    split at h
    ·rename_i t hg hd
     cases hb : Nat.blt t n with
     | false => rw [hb] at h; cases h
     | true =>
      rw [hb, cond_true] at h
      split at h
      ·simp only [Option.some.injEq, Prod.mk.injEq] at h
       obtain ⟨rfl, rfl, rfl⟩ := h
       rfl
      ·cases h
    ·cases h
  ·exact plain _ _ _ _ _ _ h
 | _ =>
  intro u e x u' e' h
  simp only [evS] at h
  first | exact plain .skip u e x u' e' h | exact plain .ret u e x u' e' h | exact plain (.label _) u e x u' e' h | exact plain (.exit _) u e x u' e' h | exact plain (.goto _) u e x u' e' h | (simp [evC] at h; done) | exact plain (.block _ _) u e x u' e' h | exact plain (.scope _) u e x u' e' h | exact plain (.loop _) u e x u' e' h | exact plain (.rangeFunc _ _ _ _) u e x u' e' h
abbrev DcF := Nat → List AV → FrameMode → Hp → Nat → Option (FrameMode × Hp × Nat)
def EDCall (P : Program) (f : Nat) (xs : List AV) (u : FrameMode) (H : Hp) (k : Nat) (u2 : FrameMode) (H' : Hp) (k' : Nat) : Prop :=
 Callable P f ∧ H'.R = H.R ∧ ∀ C Hl w vs, WR C Hl w → SubH H Hl → Fr k C → VRs C xs vs →
  CallsDIn (Wd none) 0 P f vs u w (fun en u' w' => ∃ C' Hl', (match en with | .returned _ => settle u' = u2 | .panicked ch => raised u' ch = u2 | .outgrown => False) ∧ WR C' Hl' w' ∧ SubH H' Hl' ∧ Fr k' C' ∧ EX k C Hl w k' C' Hl' w')
def evLeave (dc : DcF) : List Nat → FrameMode → Hp → Nat → Option (FrameMode × Hp × Nat)
 | [], u, H, k => some (u, H, k)
 | i :: D, u, H, k => match H.own i with
  | some (.raw (.deferred (some []))) => evLeave dc D u (H.put i none) k
  | some (.dfr (.func f) cs xs) => match dc f (xs ++ cs) u (H.put i none) k with
   | some (.run, _, _) => none
   | some (u', H', k') => evLeave dc D u' H' k'
   | none => none
  | _ => none
theorem Z3m {dc : DcF} (hdc : ∀ f xs u H k u' H' k', dc f xs u H k = some (u', H', k') → H'.R = H.R) {u2 : FrameMode} {H2 : Hp} {k2 : Nat} : ∀ (D : List Nat) (u : FrameMode) (H : Hp) (k : Nat), evLeave dc D u H k = some (u2, H2, k2) → H2.R = H.R
 | [], u, H, k, h => by simp only [evLeave, Option.some.injEq, Prod.mk.injEq] at h; obtain ⟨rfl, rfl, rfl⟩ := h; rfl
 | i :: D, u, H, k, h => by
  simp only [evLeave] at h
  split at h
  ·exact Z3m hdc D u (H.put i none) k h
  ·split at h
   ·cases h
   ·rename_i u' H' k' _ hd; exact (Z3m hdc D u' H' k' h).trans (hdc _ _ _ (H.put i none) _ _ _ _ hd)
   ·cases h
  ·cases h
theorem Z47 {dc : DcF} (hdc : ∀ f xs u H k u' H' k', dc f xs u H k = some (u', H', k') → EDCall P f xs u H k u' H' k') {fn : Func} {tmps : Array Value} {T : Tr AV} {R : Ending → World → Prop} {k0 : Nat} {C0 : Ctx} {H0 : AHeap} {w0 : World}
  {u2 : FrameMode} {H2 : Hp} {k2 : Nat} (hfin : ∀ C Hl w, (∀ t x, T.get t = some x → ∃ v, tmps[t]? = some v ∧ VR C x v) → WR C Hl w → SubH H2 Hl → Fr k2 C → EX k0 C0 H0 w0 k2 C Hl w → LeavesInM (Wd none) 0 P fn tmps R [] u2 w) :
  ∀ (D : List Nat) (u : FrameMode) (H : Hp) (k : Nat), u ≠ .run → evLeave dc D u H k = some (u2, H2, k2) → ∀ C Hl w, (∀ t x, T.get t = some x → ∃ v, tmps[t]? = some v ∧ VR C x v) → (∀ i, i ∈ D → i ∈ C.U) → WR C Hl w → SubH H Hl → Fr k C → EX k0 C0 H0 w0 k C Hl w →
   LeavesInM (Wd none) 0 P fn tmps R (D.map (mark C)) u w
 | [], u, H, k, hu, h, C, Hl, w, hT, hD, hw, hs, hf, hx => by
  simp only [evLeave, Option.some.injEq, Prod.mk.injEq] at h
  obtain ⟨rfl, rfl, rfl⟩ := h
  exact hfin C Hl w hT hw hs hf hx
 | i :: D, u, H, k, hu, h, C, Hl, w, hT, hD, hw, hs, hf, hx => by
  simp only [evLeave] at h
  simp only [List.map_cons, LeavesInM]
  refine ⟨hu, ?_⟩
  split at h
  ·rename_i hg0
   obtain ⟨hfree, hg⟩ := Hp.own_spec hg0
   left
   obtain ⟨hiu, b, N, hm, hh⟩ := hw.ids i _ (hs i _ hg)
   obtain ⟨j, hj⟩ := Z1t (hs i _ hg)
   obtain ⟨hw1, he1⟩ := Z0t (Z := []) (C' := C) (id' := i) (o' := .raw (.deferred none)) (w' := w.putObj b (.deferred none)) hw hj (.refl C) rfl (.inl rfl) hiu (fun _ _ h => h) rfl rfl rfl (by simp)
    (fun b' N' h => .inl ⟨N', h⟩) (fun b' hb hne => World.putObj_heap_other (by rintro rfl; exact hne N hm)) ⟨b, N, hm, World.putObj_heap_same (Array.getElem?_eq_some_iff.1 hh).1⟩
   refine ⟨b, w.putObj b (.deferred none), by simp [mark, hm], run_takeDeferred hh, ?_⟩
   exact Z47 hdc hfin D u _ k hu h C _ _ hT (fun i hi => hD i (List.mem_cons_of_mem _ hi)) hw1 (hs.setE hw hfree hj) hf (hx.trans he1.same)
  ·rename_i f cs xs hg0
   obtain ⟨hfree, hg⟩ := Hp.own_spec hg0
   right
   refine ⟨nofun, ?_⟩
   split at h
   ·cases h
   ·rename_i u' H' k' hne hd
    obtain ⟨hiu, hm, d, cv, hdf, ht, hcs, hxs⟩ := hw.ids i _ (hs i _ hg)
    have hmk : mark C i = d := by simp [mark, hm, hdf]
    have hcall := hdc _ _ _ _ _ _ _ _ hd
    have hvs : VRs C (xs ++ cs) (d.args ++ cv) := VRs.append hxs hcs
    refine ⟨.func f, cv, f, d.args ++ cv, by rw [hmk]; exact ht, ?_, fun _ _ => trivial, ?_⟩
    ·rw [hmk, ht]
     simp only [invoke]
     exact Z3v hcall.1 _ w
    ·refine CallsDIn.mono (hcall.2.2 C Hl w _ hw hs.erase hf hvs) ?_
     rintro en u1 w1 ⟨C1, Hl1, hen, hw1, hs1, hf1, hx1⟩
     have hT1 : ∀ t x, T.get t = some x → ∃ v, tmps[t]? = some v ∧ VR C1 x v := fun t x ht => let ⟨v, a, b⟩ := hT t x ht; ⟨v, a, b.mono hx1.le⟩
     have hmap : D.map (mark C) = D.map (mark C1) := List.map_congr_left fun j hj => by
      have := hD j (List.mem_cons_of_mem _ hj)
      simp [mark, hx1.le.m j this, hx1.le.df j this]
     have go : ∀ u3, u3 = u' → LeavesInM (Wd none) 0 P fn tmps R (D.map (mark C)) u3 w1 := by
      rintro u3 rfl
      rw [hmap]
      exact Z47 hdc hfin D u3 H' k' hne h C1 Hl1 w1 hT1 (fun j hj => hx1.le.U j (hD j (List.mem_cons_of_mem _ hj))) hw1 hs1 hf1 (hx.trans hx1)
     cases en with
     | returned v => exact go _ hen
     | panicked ch => exact go _ hen
     | outgrown => exact hen.elim
   ·cases h
  ·cases h
def argT (xs : List AV) : Tr AV := Tr.ofL (enum xs 0)
def evDc (E : Ev) (P : Program) (L : Nat) : DcF := fun f xs u H k => match P.funcs[f]? with
 | some fn => match fn.body with
  | some c => bif Nat.ble xs.length fn.ntmps then (match evS E P fn.ntmps L c u ⟨argT xs, H, [], k⟩ with
   | some (.normal, u', e') => match e'.D, evRes P e'.T e'.H fn.results.toList with
    | [], some _ => some (settle u', e'.H, e'.k)
    | _, _ => none
   | some (.ret, u', e') => match e'.D, evRes P e'.T e'.H fn.results.toList with
    | [], some _ => some (settle u', e'.H, e'.k)
    | _, _ => none
   | some (.panic ch, u', e') => match e'.D with
    | [] => some (raised u' ch, e'.H, e'.k)
    | _ => none
   | _ => none) else none
  | none => none
 | none => none
def NamesOk (P : Program) : Prop := ∀ (f : Nat) (fn : Func), P.funcs[f]? = some fn → (fn.name == "runtime.NumGoroutine") = false
theorem SE.enter {fn : Func} {xs : List AV} {vs : Array Value} {C : Ctx} {Hl : AHeap} {w : World} {H : Hp} {k : Nat} (hn0 : Nat.ble xs.length fn.ntmps = true) (hw : WR C Hl w) (hs : SubH H Hl) (hf : Fr k C) (hv : VRs C xs vs) :
  SE C Hl ⟨argT xs, H, [], k⟩ fn.ntmps { tmps := vs ++ Array.replicate (fn.ntmps - vs.size) undef, defers := [] } w := by
 have hn : xs.length ≤ fn.ntmps := Nat.le_of_ble_eq_true hn0
 refine ⟨⟨hw, ?_, rfl, nofun, ?_⟩, hs, hf⟩
 ·intro t x hx
  rw [Tr.lk_ls] at hx
  obtain ⟨i, rfl, hi⟩ := Z8t xs 0 t x (Tr.ofL_get _ _ _ hx)
  rw [Nat.zero_add]
  have hlt : i < vs.size := by rw [← hv.1]; exact (List.getElem?_eq_some_iff.1 hi).1
  have hvi : vs[i]? = some vs[i] := Array.getElem?_eq_getElem hlt
  exact ⟨vs[i], by rw [Array.getElem?_append_left hlt]; exact hvi, hv.2 i x _ hi hvi⟩
 ·have := hv.1
  simp only [Array.size_append, Array.size_replicate]
  omega
theorem Zb5 {E : Ev} (hE : EvOk P E) (hm : P.follows .mixedOrders = true) {L : Nat} : ∀ f xs u H k u' H' k', evDc E P L f xs u H k = some (u', H', k') → H'.R = H.R := by
 intro f xs u H k u' H' k' h
 unfold evDc at h
 split at h
 ·rename_i fn hfn
  split at h
  ·rename_i c hc
   cases hn0 : Nat.ble xs.length fn.ntmps with
   | false => rw [hn0] at h; cases h
   | true =>
    rw [hn0, cond_true] at h
    split at h
    ·rename_i u1 e1 he
     split at h
     ·cases h; exact Ze6 hE hm c u _ _ u1 e1 he
     ·cases h
    ·rename_i u1 e1 he
     split at h
     ·cases h; exact Ze6 hE hm c u _ _ u1 e1 he
     ·cases h
    ·rename_i ch u1 e1 he
     split at h
     ·cases h; exact Ze6 hE hm c u _ _ u1 e1 he
     ·cases h
    ·cases h
  ·cases h
 ·cases h
theorem Ze4 {E : Ev} (hE : EvOk P E) (hm : P.follows .mixedOrders = true) (hnm : NamesOk P) {L : Nat} : ∀ f xs u H k u' H' k', evDc E P L f xs u H k = some (u', H', k') → EDCall P f xs u H k u' H' k' := by
 intro f xs u H k u' H' k' h
 have hRR := Zb5 hE hm f xs u H k u' H' k' h
 unfold evDc at h
 split at h
 ·rename_i fn hfn
  split at h
  ·rename_i c hc
   cases hn0 : Nat.ble xs.length fn.ntmps with
   | false => rw [hn0] at h; cases h
   | true =>
    rw [hn0, cond_true] at h
    refine ⟨⟨fn, hfn, by rw [hc]; rfl, hnm f fn hfn⟩, hRR, fun C Hl w vs hw hs hf hv => ?_⟩
    refine callsDIn_of_wpSIn hfn hc trivial fun c0 cs hu => ?_
    have hS := SE.enter (fn := fn) hn0 hw hs hf hv
    have run : ∀ x u1 e1, evS E P fn.ntmps L c u ⟨argT xs, H, [], k⟩ = some (x, u1, e1) → ∀ (Rr : Ending → FrameMode → World → Prop),
      (∀ C1 Hl1 a1 w1, SE C1 Hl1 e1 fn.ntmps a1 w1 → EX k C Hl w e1.k C1 Hl1 w1 → bodyPostS P fn c0 cs Rr x a1 ({ c0 with mode := u1 } :: cs) w1) →
      c.wpSIn (Wd none) 0 P (bodyPostS P fn c0 cs Rr) { tmps := vs ++ Array.replicate (fn.ntmps - vs.size) undef, defers := [] } (c0 :: cs) w := by
     intro x u1 e1 he Rr hk b kk hb hr hF hroom
     obtain ⟨x2, a2, cs2, w2, hl, ⟨hcs, rfl, C2, Hl2, hs2, hx2⟩, harr⟩ := Zes hE hm c u _ x u1 e1 he C Hl _ w hS (.refl ..) c0 cs hu b kk hb hr hF hroom
     subst hcs
     exact ⟨x2, a2, _, w2, hl, hk C2 Hl2 a2 w2 hs2 hx2, harr⟩
    have ret : ∀ x u1 e1, (x = .normal ∨ x = .ret) → evS E P fn.ntmps L c u ⟨argT xs, H, [], k⟩ = some (x, u1, e1) → (match e1.D, evRes P e1.T e1.H fn.results.toList with | [], some _ => some (settle u1, e1.H, e1.k) | _, _ => none) = some (u', H', k') →
      c.wpSIn (Wd none) 0 P (bodyPostS P fn c0 cs (fun en u1 w' => ∃ C' Hl', (match en with | .returned _ => settle u1 = u' | .panicked ch => raised u1 ch = u' | .outgrown => False) ∧ WR C' Hl' w' ∧ SubH H' Hl' ∧ Fr k' C' ∧ EX k C Hl w k' C' Hl' w')) { tmps := vs ++ Array.replicate (fn.ntmps - vs.size) undef, defers := [] } (c0 :: cs) w := by
     intro x u1 e1 hx he hh
     split at hh
     ·rename_i ys hD hr
      cases hh
      refine run x u1 e1 he _ fun C1 Hl1 a1 w1 hs1 hx1 => ?_
      have hd : a1.defers = [] := by rw [hs1.sr.df]; show List.map (mark C1) e1.D = []; rw [hD]; rfl
      obtain ⟨v, g1, g2⟩ := Z39 (s := ⟨e1.T.ls, Hl1, e1.D, fn.ntmps⟩) (fn := fn) hs1.sr.wr hs1.sr.sl (Z4k hs1.hs _ _ hr)
      rcases hx with rfl | rfl <;> exact ⟨hd, u1, rfl, v, g1, C1, Hl1, rfl, hs1.sr.wr, hs1.hs, hs1.fr, hx1⟩
     ·cases hh
    split at h
    ·rename_i u1 e1 he; exact ret _ u1 e1 (.inl rfl) he h
    ·rename_i u1 e1 he; exact ret _ u1 e1 (.inr rfl) he h
    ·rename_i ch u1 e1 he
     split at h
     ·rename_i hD
      cases h
      refine run _ u1 e1 he _ fun C1 Hl1 a1 w1 hs1 hx1 => ?_
      have hd : a1.defers = [] := by rw [hs1.sr.df]; show List.map (mark C1) e1.D = []; rw [hD]; rfl
      exact ⟨hd, u1, rfl, C1, Hl1, rfl, hs1.sr.wr, hs1.hs, hs1.fr, hx1⟩
     ·cases h
    ·cases h
  ·cases h
 ·cases h
def evFun (E : Ev) (P : Program) (L : Nat) : CallF := fun f xs H k => match P.funcs[f]? with
 | some fn => match fn.body with
  | some c => bif Nat.ble xs.length fn.ntmps then (match evC E P fn.ntmps false L c ⟨argT xs, H, [], k⟩ with
   | some (x, e') => match (match x with | .normal => some FrameMode.returning | .ret => some .returning | .panic ch => some (.panicking ch) | _ => none) with
    | some u => match evLeave (evDc E P L) e'.D u e'.H e'.k with
     | some (.returning, H2, k2) => match evRes P e'.T H2 fn.results.toList with
      | some ys => some (.ret (mkRes ys), H2, k2)
      | none => none
     | some (.panicking ch, H2, k2) => some (.panic ch, H2, k2)
     | _ => none
    | none => none
   | none => none) else none
  | none => none
 | none => none
theorem Zco {E : Ev} (hE : EvOk P E) (hm : P.follows .mixedOrders = true) (hnm : NamesOk P) {L : Nat} : ∀ f xs H k r H' k', evFun E P L f xs H k = some (r, H', k') → ECall P f xs H k r H' k' := by
 intro f xs H k r H' k' h
 unfold evFun at h
 split at h
 ·rename_i fn hfn
  split at h
  ·rename_i c hc
   cases hn0 : Nat.ble xs.length fn.ntmps with
   | false => rw [hn0] at h; cases h
   | true =>
    rw [hn0, cond_true] at h
    split at h
    ·rename_i x e1 he
     split at h
     ·rename_i u hu
      have hRR : H'.R = H.R := by
       have h1 := Zb3 hE hm c _ x e1 he
       split at h
       ·rename_i H2 k2 hl
        split at h
        ·cases h; exact (Z3m (Zb5 hE hm) _ _ _ _ hl).trans h1
        ·cases h
       ·rename_i ch H2 k2 hl
        cases h; exact (Z3m (Zb5 hE hm) _ _ _ _ hl).trans h1
       ·cases h
      refine ⟨⟨fn, hfn, by rw [hc]; rfl, hnm f fn hfn⟩, hRR, fun C Hl w vs hw hs hf hv => ?_⟩
      refine callsIn_of_wp_marks hfn hc trivial ?_ rfl
      have hS := SE.enter (fn := fn) hn0 hw hs hf hv
      refine wpIn_mono ((Z96 hE nofun (fun _ => rfl) hm c _ x e1 he).2 C Hl _ w hS) ?_
      rintro x' a1 w1 ⟨rfl, C1, Hl1, hs1, hx1⟩
      have hne : u ≠ .run := by rintro rfl; cases x' <;> cases hu
      have key : ∀ (u2 : FrameMode) (H2 : Hp) (k2 : Nat), evLeave (evDc E P L) e1.D u e1.H e1.k = some (u2, H2, k2) → (∀ C2 Hl2 w2, (∀ t x, e1.T.get t = some x → ∃ v, a1.tmps[t]? = some v ∧ VR C2 x v) → WR C2 Hl2 w2 → SubH H2 Hl2 → Fr k2 C2 → EX k C Hl w k2 C2 Hl2 w2 →
        LeavesInM (Wd none) 0 P fn a1.tmps (fun en w' => ∃ C' Hl', ER C' r en ∧ WR C' Hl' w' ∧ SubH H' Hl' ∧ Fr k' C' ∧ EX k C Hl w k' C' Hl' w') [] u2 w2) →
        LeavesInM (Wd none) 0 P fn a1.tmps (fun en w' => ∃ C' Hl', ER C' r en ∧ WR C' Hl' w' ∧ SubH H' Hl' ∧ Fr k' C' ∧ EX k C Hl w k' C' Hl' w') a1.defers u w1 := by
       intro u2 H2 k2 hl hfin
       rw [hs1.sr.df]
       exact Z47 (Ze4 hE hm hnm) hfin e1.D u e1.H e1.k hne hl C1 Hl1 w1 (fun t x ht => hs1.sr.sl t x (by rw [Tr.lk_ls]; exact ht)) hs1.sr.du hs1.sr.wr hs1.hs hs1.fr hx1
      have all : LeavesInM (Wd none) 0 P fn a1.tmps (fun en w' => ∃ C' Hl', ER C' r en ∧ WR C' Hl' w' ∧ SubH H' Hl' ∧ Fr k' C' ∧ EX k C Hl w k' C' Hl' w') a1.defers u w1 := by
       split at h
       ·rename_i H2 k2 hl
        split at h
        ·rename_i ys hr
         cases h
         refine key _ _ _ hl fun C2 Hl2 w2 hT hw2 hs2 hf2 hx2 => ?_
         simp only [LeavesInM, LeavesIn]
         obtain ⟨v, g1, g2⟩ := Z39 (s := ⟨e1.T.ls, Hl2, [], fn.ntmps⟩) (a := ⟨a1.tmps, []⟩) (fn := fn) hw2 (fun t x ht => hT t x (by rw [← Tr.lk_ls]; exact ht)) (Z4k hs2 _ _ hr)
         exact ⟨v, g1, C2, Hl2, g2, hw2, hs2, hf2, hx2⟩
        ·cases h
       ·rename_i ch H2 k2 hl
        cases h
        refine key _ _ _ hl fun C2 Hl2 w2 hT hw2 hs2 hf2 hx2 => ?_
        simp only [LeavesInM, LeavesIn]
        exact ⟨C2, Hl2, rfl, hw2, hs2, hf2, hx2⟩
       ·cases h
      cases x' with
      | normal => cases hu; exact all
      | ret => cases hu; exact all
      | panic ch => cases hu; exact all
      | _ => cases hu
     ·cases h
    ·cases h
  ·cases h
 ·cases h
end
end Go.Sx
namespace Go.Sx
open Go
section
variable {P : Program}
def exitCode : Exit → Option (Option Code)
 | .normal => some none
 | .ret => some (some .ret)
 | .exit i => some (some (.exit i))
 | .goto i => some (some (.goto i))
 | _ => none
def evRnd (E : Ev) (P : Program) (L : Nat) : CallF := fun id xs H k => match H.own id with
 | some (.loop T nn ps assign body .ready none) => bif Nat.beq ps.size xs.length && ps.all (fun t => Nat.blt t nn) then (match evC E P nn true L assign ⟨(Tr.ofL T).prm ps.toList xs, H, [], k⟩ with
  | some (.normal, e1) => match e1.H.get id with
   | some (.loop T1 n1 ps1 as1 b1 .ready none) => match e1.D, evC E P nn true L body ⟨e1.T, e1.H.put id (some (.loop T1 n1 ps1 as1 b1 .busy none)), [], e1.k⟩ with
    | [], some (x, e2) => match exitCode x, e2.H.get id with
     | some j, some (.loop T2 n2 ps2 as2 b2 _ _) => some (.ret (.v (.bool j.isNone)), e2.H.put id (some (.loop T2 n2 ps2 as2 b2 (if j.isNone then .ready else .done) j)), e2.k)
     | _, _ => none
    | _, _ => none
   | _ => none
  | _ => none) else none
 | _ => none
theorem Zcq {E : Ev} (hE : EvOk P E) (hm : P.follows .mixedOrders = true) {L : Nat} : ∀ id xs H k r H' k', evRnd E P L id xs H k = some (r, H', k') → ERound P id xs H k r H' k' := by
 intro id xs H k r H' k' h
 unfold evRnd at h
 split at h
 ·rename_i T nn ps assign body hg0
  obtain ⟨hfree, hg⟩ := Hp.own_spec hg0
  cases hc : (Nat.beq ps.size xs.length && ps.all (fun t => Nat.blt t nn)) with
  | false => rw [hc] at h; cases h
  | true =>
   rw [hc, cond_true] at h
   rw [Bool.and_eq_true] at hc
   have hps := Nat.eq_of_beq_eq_true hc.1
   split at h
   ·rename_i e1 he1
    split at h
    ·rename_i T1 n1 ps1 as1 b1 hg1
     split at h
     ·rename_i x e2 hD1 he2
      split at h
      ·rename_i j T2 n2 ps2 as2 b2 st2 pd2 hj hg2
       cases h
       have hR1 := Zb3 hE hm assign _ _ _ he1
       have hR2 := Zb3 hE hm body _ _ _ he2
       have f1 : getR e1.H.R id = none := by rw [hR1]; exact hfree
       have f2 : getR e2.H.R id = none := by rw [hR2]; exact f1
       refine ⟨hR2.trans hR1, ?_⟩
       intro C Hl w vs l N hml hw hs hf hv
       obtain ⟨hu, hor⟩ := hw.ids _ _ (hs _ _ hg)
       obtain ⟨r0, h1, h2, h3, h4, h5, h6, h7, h8⟩ := Z19 hor hml
       refine ⟨r0.fn, _, r0.assign, r0.body, run_yield h1 (by rw [← hv.1, ← hps, h4]), ?_⟩
       refine roundIn_of_wpIn (F := Wd none) trivial ?_
       have hfold : ((r0.params.zip vs).foldl (fun tmps (x : Tmp × Value) => tmps.setIfInBounds x.1 x.2) r0.tmps) = ((ps.toList.zip vs.toList).foldl (fun tmps (x : Tmp × Value) => tmps.setIfInBounds x.1 x.2) r0.tmps) := by
        rw [h4, ← Array.foldl_toList, Array.toList_zip]
       have hpn : ∀ t, t ∈ ps.toList → t < nn := by
        intro t ht
        have := Array.all_eq_true'.1 hc.2 t (by simpa using ht)
        rwa [Nat.blt_eq] at this
       obtain ⟨hq1, hq2⟩ := Z4l (C := C) (n := nn) ps.toList xs T r0.tmps vs.toList (by simpa using hps) (by rw [hv.1]; simp) hpn h7 h8 (fun i y v hy hvv => hv.2 i y v hy (by rw [← Array.getElem?_toList]; exact hvv))
       have hag : Agree ((Tr.ofL T).prm ps.toList xs) (prm T ps.toList xs) := Tr.prm_agree _ _ _ _ fun t y hy => Tr.ofL_get _ _ _ hy
       have hS : SE C Hl ⟨(Tr.ofL T).prm ps.toList xs, H, [], k⟩ nn { tmps := (r0.params.zip vs).foldl (fun tmps (x : Tmp × Value) => tmps.setIfInBounds x.1 x.2) r0.tmps, defers := [] } w := by
        refine ⟨⟨hw, ?_, rfl, nofun, ?_⟩, hs, hf⟩
        ·intro t y hy
         rw [hfold]
         exact hq2 t y (hag t y (by rw [← Tr.lk_ls]; exact hy))
        ·rw [hfold]; exact hq1
       rw [h5, h6]
       refine wpIn_mono ((Z96 (ro := some l) hE (fun _ => rfl) (fun h => by cases h) hm assign _ _ _ he1).2 C Hl _ w hS) ?_
       rintro x1 a1 w1 ⟨rfl, C1, Hl1, hs1, hx1⟩
       have hm1 : C1.m id = some (l, N) := by rw [hx1.le.m id hu]; exact hml
       obtain ⟨j1, hj1⟩ := Z1t (hs1.hs _ _ hg1)
       obtain ⟨_, hor1⟩ := hs1.sr.wr.ids _ _ (List.mem_of_getElem? hj1)
       obtain ⟨r1, g1, g2, g3, g4, g5, g6, g7, g8⟩ := Z19 hor1 hm1
       obtain ⟨hb1, hb2⟩ := Z6r (Z := []) (st' := .busy) (pend' := r1.pending) hs1.sr.wr hj1 hm1 g1
       refine ⟨_, run_beginRound g1 g2, ?_⟩
       rw [g3] at hb1 hb2
       have hS1 : SE C1 (Hl1.set j1 (id, .loop T1 n1 ps1 as1 b1 .busy none)) ⟨e1.T, e1.H.put id (some (.loop T1 n1 ps1 as1 b1 .busy none)), [], e1.k⟩ nn a1 (w1.putObj l (.loop { r1 with state := .busy })) := by
        have hdf := hs1.sr.df
        have hdu := hs1.sr.du
        simp only [hD1] at hdf hdu
        have e0 : ({ r1 with state := .busy, pending := none } : Loop) = { r1 with state := .busy } := by rw [← g3]
        rw [← e0]
        exact ⟨⟨hb1, hs1.sr.sl, hdf, nofun, hs1.sr.sz⟩, hs1.hs.set hs1.sr.wr f1 hj1, hs1.fr⟩
       refine wpIn_mono ((Z96 (ro := some l) hE (fun _ => rfl) (fun h => by cases h) hm body _ _ _ he2).2 C1 _ _ _ hS1) ?_
       rintro x2 a2 w2 ⟨rfl, C2, Hl2, hs2, hx2⟩
       have hx12 : EX k C Hl w e2.k C2 Hl2 w2 := by
        have e0 : ({ r1 with state := .busy, pending := none } : Loop) = { r1 with state := .busy } := by rw [← g3]
        rw [← e0] at hx2
        exact (hx1.trans hb2.same).trans hx2
       have hm2 : C2.m id = some (l, N) := by rw [hx12.le.m id hu]; exact hml
       obtain ⟨j2, hj2⟩ := Z1t (hs2.hs _ _ hg2)
       obtain ⟨_, hor2⟩ := hs2.sr.wr.ids _ _ (List.mem_of_getElem? hj2)
       obtain ⟨r2, k1, k2, k3, k4, k5, k6, k7, k8⟩ := Z19 hor2 hm2
       have big : ∀ jump : Option Code, ∃ v w4, (Instr.endRound l jump).run P w2 = .ok v w4 ∧ ∃ C' Hl', ER C' (.ret (.v (.bool jump.isNone))) (.returned v) ∧ WR C' Hl' w4 ∧ SubH (e2.H.put id (some (.loop T2 n2 ps2 as2 b2 (if jump.isNone then .ready else .done) jump))) Hl' ∧ Fr e2.k C' ∧ EX k C Hl w e2.k C' Hl' w4 := by
        intro jump
        obtain ⟨t1, t2⟩ := Z6r (Z := []) (st' := (if jump.isNone then .ready else .done)) (pend' := jump) hs2.sr.wr hj2 hm2 k1
        exact ⟨_, _, run_endRound jump k1, C2, _, .v _, t1, hs2.hs.set hs2.sr.wr f2 hj2, hs2.fr, hx12.trans t2.same⟩
       cases x2 with
       | normal => cases hj; exact big none
       | ret => cases hj; exact big (some .ret)
       | exit i => cases hj; exact big (some (.exit i))
       | goto i => cases hj; exact big (some (.goto i))
       | _ => cases hj
      ·cases h
     ·cases h
    ·cases h
   ·cases h
 ·cases h
def KOk (P : Program) (K : CallF) : Prop := ∀ f xs H k r H' k', K f xs H k = some (r, H', k') → ECall P f xs H k r H' k'
def noK : CallF := fun _ _ _ _ => none
theorem Zdi : KOk P noK := fun _ _ _ _ _ _ _ h => by cases h
def orK (K F : CallF) : CallF := fun f xs H k => match K f xs H k with
 | some r => some r
 | none => F f xs H k
theorem Zbq {K F : CallF} (hK : KOk P K) (hF : KOk P F) : KOk P (orK K F) := by
 intro f xs H k r H' k' h
 unfold orK at h
 split at h
 ·rename_i r' hr; cases h; exact hK _ _ _ _ _ _ _ hr
 ·exact hF _ _ _ _ _ _ _ h
def evN (P : Program) (K : CallF) (L : Nat) : Nat → Ev
 | 0 => ⟨K, fun _ _ _ _ => none⟩
 | m + 1 => ⟨orK K (evFun (evN P K L m) P L), evRnd (evN P K L m) P L⟩
theorem Z7s (hm : P.follows .mixedOrders = true) (hnm : NamesOk P) {K : CallF} (hK : KOk P K) {L : Nat} : ∀ m, EvOk P (evN P K L m)
 | 0 => ⟨hK, fun _ _ _ _ _ _ _ h => by simp [evN] at h⟩
 | m + 1 => ⟨Zbq hK (Zco (Z7s hm hnm hK m) hm hnm), Zcq (Z7s hm hnm hK m) hm⟩
def namesOk (P : Program) : Bool := P.funcs.all fun fn => !(fn.name == "runtime.NumGoroutine")
theorem Z2i (h : namesOk P = true) : NamesOk P := by
 intro f fn hf
 have := Array.all_eq_true'.1 h fn (Array.mem_of_getElem? hf)
 simpa using this
theorem Z71 {K : CallF} (hK : KOk P K) {f L m : Nat} {v : Value} (hm : P.follows .mixedOrders = true) (hnm : namesOk P = true) (h : ((evN P K L m).call f [] ⟨.lf, []⟩ 0).map (fun r => r.1) = some (.ret (.v v))) : ACalls P f [] [] (Gives (.v v)) := by
 cases hc : (evN P K L m).call f [] ⟨.lf, []⟩ 0 with
 | none => rw [hc] at h; cases h
 | some r =>
  obtain ⟨r, H', k'⟩ := r
  rw [hc] at h
  simp only [Option.map_some, Option.some.injEq] at h
  subst h
  have hE := (Z7s hm (Z2i hnm) hK m).call _ _ _ _ _ _ _ hc
  refine ⟨hE.1, fun Z C w vs hw hv => ?_⟩
  have hempty : WR (baseC w) [] w := Z93 w
  refine (hE.2.2 (baseC w) [] w vs hempty (fun i ob h => by simp [Hp.get, getR, Tr.get, Tr.getF_lf] at h) (fun _ _ _ => nofun) ⟨hv.1, fun i x u h => by simp at h⟩).mono ?_
  rintro en w' ⟨C', Hl', x1, x2, x3, x4, x5⟩
  refine ⟨C, [], .ret (.v v), ⟨rfl, rfl⟩, ⟨?_, List.nodup_nil, nofun, nofun, fun b ⟨i, o, N, h, _⟩ => by cases h⟩, ⟨.refl C, fun _ _ h => h, x5.x.os, x5.x.tape, x5.x.output, x5.x.size, ?_, fun _ o h => .inl ⟨o, h⟩, (fun b ⟨i, o, N, h, _⟩ => nomatch h), nofun⟩, ?_⟩
  ·intro b o hb
   have h1 := hw.hp b o hb
   have hlt : b < w.heap.size := (Array.getElem?_eq_some_iff.1 h1).1
   rw [x5.x.fr b hlt (fun ⟨i, o, N, h, _⟩ => by cases h)]; exact h1
  ·intro b hlt _
   exact x5.x.fr b hlt (fun ⟨i, o, N, h, _⟩ => by cases h)
  ·cases en with
   | returned u => have e := VR.val x1; subst e; exact .v _
   | panicked ch => exact x1.elim
   | outgrown => exact x1.elim
end
end Go.Sx
namespace Go.Sx
open Go
section
variable {P : Program}
theorem Z68 {C : Ctx} {Hr : AHeap} {w : World} {r k : Nat} {el : TypeId} {sz : Nat} {es : List (List AV)} (hw : WR C ((r, .rows el sz es) :: Hr) w) (hk : k ∉ C.U) :
  ∃ C', C.Le C' ∧ WR C' ((k, .rows el sz es) :: Hr) w ∧ (∀ sz off len v, VR C (.own r sz off len) v → VR C' (.own k sz off len) v) ∧ (∀ z, z ∈ C'.U → z = k ∨ z ∈ C.U) ∧ Ext [] C ((r, .rows el sz es) :: Hr) w C' ((k, .rows el sz es) :: Hr) w := by
 let C' : Ctx := { hp := C.hp, m := fun i => if i = k then C.m r else C.m i, U := k :: C.U, df := C.df }
 have hmk : C'.m k = C.m r := if_pos rfl
 have hm : ∀ i, i ≠ k → C'.m i = C.m i := fun i hi => if_neg hi
 have hle : C.Le C' := ⟨fun _ _ h => h, fun i hi => hm i (by rintro rfl; exact hk hi), fun i hi => List.mem_cons_of_mem _ hi, fun i hi => rfl⟩
 have hr := hw.ids r _ List.mem_cons_self
 have hother : ∀ i o, (i, o) ∈ Hr → i ≠ k := by rintro i o hi rfl; exact hk (hw.ids i o (List.mem_cons_of_mem _ hi)).1
 have hrn : ∀ o, (r, o) ∉ Hr := fun o hi => by
  have := hw.nd
  simp only [List.map_cons, List.nodup_cons] at this
  exact this.1 (List.mem_map.2 ⟨_, hi, rfl⟩)
 have hblk : ∀ b, blk C' ((k, .rows el sz es) :: Hr) b → blk C ((r, .rows el sz es) :: Hr) b := by
  rintro b ⟨i, o, N, hi, hmi⟩
  rcases List.mem_cons.1 hi with h2 | h2
  ·cases h2; rw [hmk] at hmi; exact ⟨r, _, N, List.mem_cons_self, hmi⟩
  ·rw [hm i (hother i o h2)] at hmi; exact ⟨i, o, N, List.mem_cons_of_mem _ h2, hmi⟩
 refine ⟨C', hle, ⟨hw.hp, ?_, ?_, ?_, fun b hb => hw.dis b (hblk b hb)⟩, ?_, fun z hz => List.mem_cons.1 hz, ⟨hle, (fun _ h => nomatch h), rfl, rfl, rfl, Nat.le_refl _, fun _ _ _ => rfl, fun _ o h => .inl ⟨o, h⟩, fun b hb => .inl (hblk b hb), ?_⟩⟩
 ·have := hw.nd
  simp only [List.map_cons, List.nodup_cons] at this ⊢
  refine ⟨fun hmem => ?_, this.2⟩
  obtain ⟨⟨i, o⟩, hi, he⟩ := List.mem_map.1 hmem
  exact hother i o hi he
 ·intro i o hi
  rcases List.mem_cons.1 hi with h2 | h2
  ·cases h2
   refine ⟨List.mem_cons_self, hr.2.1, ?_⟩
   rcases hr.2.2 with ⟨a, b⟩ | ⟨b, N, cells, hb, hh, hs, hl, hc⟩
   ·exact .inl ⟨hmk.trans a, b⟩
   ·exact .inr ⟨b, N, cells, hmk.trans hb, hh, hs, hl, fun i e j c g1 g2 => let ⟨x, g3, g4, g5⟩ := hc i e j c g1 g2; ⟨x, g3, g4.mono hle, g5⟩⟩
  ·obtain ⟨h3, h4⟩ := hw.ids i o (List.mem_cons_of_mem _ h2)
   exact ⟨hle.U i h3, h4.keep hle h3 (fun _ _ _ => rfl)⟩
 ·intro i j o o' b N N' hi hj h2 h3
  rcases List.mem_cons.1 hi with h4 | h4
  ·cases h4
   rw [hmk] at h2
   rcases List.mem_cons.1 hj with h5 | h5
   ·cases h5; rfl
   ·rw [hm j (hother j o' h5)] at h3
    have := hw.inj r j _ o' b N N' List.mem_cons_self (List.mem_cons_of_mem _ h5) h2 h3
    subst this
    exact absurd h5 (hrn _)
  ·rw [hm i (hother i o h4)] at h2
   rcases List.mem_cons.1 hj with h5 | h5
   ·cases h5
    rw [hmk] at h3
    have := hw.inj i r o _ b N N' (List.mem_cons_of_mem _ h4) List.mem_cons_self h2 h3
    subst this
    exact absurd h4 (hrn _)
   ·rw [hm j (hother j o' h5)] at h3
    exact hw.inj i j o o' b N N' (List.mem_cons_of_mem _ h4) (List.mem_cons_of_mem _ h5) h2 h3
 ·intro sz' off len v hv
  cases hv with
  | own _ _ _ _ b N cap hid hu hcap hlen hml => exact .own k sz' off len b N cap (hmk.trans hid) List.mem_cons_self hcap hlen hml
  | ownNil _ _ hid hu => exact .ownNil k sz' (hmk.trans hid) List.mem_cons_self
 ·intro i o hi
  rcases List.mem_cons.1 hi with h2 | h2
  ·cases h2; exact .inr hk
  ·exact .inl ⟨o, List.mem_cons_of_mem _ h2⟩
def dropObs (H : Hp) : List Nat → Hp
 | [] => H
 | i :: r => dropObs (H.put i none) r
theorem Z4y : ∀ (l : List Nat) (H : Hp), (dropObs H l).R = H.R
 | [], _ => rfl
 | i :: r, H => Z4y r (H.put i none)
theorem Z36 {a : Nat} {ob : AObj} : ∀ (l : List Nat) (H : Hp), (∀ i, i ∈ l → getR H.R i = none) → (dropObs H l).get a = some ob → a ∉ l ∧ H.get a = some ob
 | [], _, _, h => ⟨nofun, h⟩
 | i :: r, H, hR, h => by
  obtain ⟨h1, h2⟩ := Z36 r (H.put i none) (fun j hj => hR j (List.mem_cons_of_mem _ hj)) h
  have h3 : a ≠ i ∧ H.get a = some ob := by
   unfold Hp.get Hp.put at h2
   unfold Hp.get
   simp only at h2
   split at h2
   ·rename_i o hg
    refine ⟨?_, h2⟩
    rintro rfl
    rw [hR a List.mem_cons_self] at hg; cases hg
   ·rename_i hg
    rcases Tr.put_get h2 with ⟨_, e⟩ | ⟨hne, e⟩
    ·cases e
    ·exact ⟨hne, e⟩
  exact ⟨fun hm => by rcases List.mem_cons.1 hm with h4 | h4; exact h3.1 h4; exact h1 h4, h3.2⟩
theorem Z5g {α : Type} : ∀ {l : List (Nat × α)}, (l.map Prod.fst).Nodup → l.Nodup
 | [], _ => List.nodup_nil
 | p :: r, h => by
  simp only [List.map_cons, List.nodup_cons] at h
  exact List.nodup_cons.2 ⟨fun hm => h.1 (List.mem_map.2 ⟨p, hm, rfl⟩), Z5g h.2⟩
theorem Z7h {f : Nat} {xs : List AV} {Hc : AHeap} {R : AEnd → AHeap → Prop} {el : TypeId} {sz sz' len : Nat} {es : List (List AV)} {H : Hp} {k : Nat} (hc : ACalls P f xs Hc R)
  (hR : ∀ e H', R e H' → ∃ r, e = .ret (.own r sz' 0 len) ∧ H' = [(r, .rows el sz es)]) (hH : ∀ p, p ∈ Hc → H.own p.1 = some p.2) (hnd : (Hc.map Prod.fst).Nodup) (hk : k < MM) :
  ECall P f xs H k (.ret (.own k sz' 0 len)) ((dropObs H (Hc.map Prod.fst)).put k (some (.rows el sz es))) (k + 1) := by
 refine ⟨hc.ok, Z4y _ _, ?_⟩
 intro C Hl w vs hw hs hf hv
 have hHl : ∀ p, p ∈ Hc → p ∈ Hl := fun p hp => hs p.1 p.2 (Hp.own_spec (hH p hp)).2
 let Fm : AHeap := Hl.filter fun p => !(Hc.map Prod.fst).contains p.1
 have hnl : Hl.Nodup := Z5g hw.nd
 have hnc : Hc.Nodup := Z5g hnd
 have hin : ∀ p, p ∈ Hl → p.1 ∈ Hc.map Prod.fst → p ∈ Hc := by
  intro p hp hm
  obtain ⟨q, hq, hqp⟩ := List.mem_map.1 hm
  have h1 := hHl q hq
  have : p = q := by
   obtain ⟨i, hi⟩ := List.mem_iff_getElem?.1 hp
   obtain ⟨j, hj⟩ := List.mem_iff_getElem?.1 h1
   have hij : i = j := by
    have hn := hw.nd
    rw [List.nodup_iff_pairwise_ne, List.pairwise_iff_getElem] at hn
    have li : i < (Hl.map Prod.fst).length := by rw [List.length_map]; exact Z0b hi
    have lj : j < (Hl.map Prod.fst).length := by rw [List.length_map]; exact Z0b hj
    have e1 : (Hl.map Prod.fst)[i] = (Hl.map Prod.fst)[j] := by
     have a1 := (List.getElem?_eq_some_iff.1 hi).2
     have a2 := (List.getElem?_eq_some_iff.1 hj).2
     simp only [List.getElem_map, a1, a2, hqp]
    rcases Nat.lt_trichotomy i j with h | h | h
    ·exact absurd e1 (hn i j li lj h)
    ·exact h
    ·exact absurd e1.symm (hn j i lj li h)
   subst hij
   rw [hi] at hj; exact Option.some.inj hj
  rw [this]; exact hq
 have hp : Hl.Perm (Hc ++ Fm) := by
  refine (List.perm_ext_iff_of_nodup hnl ?_).2 fun p => ?_
  ·rw [List.nodup_append]
   refine ⟨hnc, hnl.filter _, ?_⟩
   rintro a ha b hb rfl
   have := (List.mem_filter.1 hb).2
   rw [Bool.not_eq_true', ← Bool.not_eq_true, List.contains_iff_mem] at this
   exact this (List.mem_map.2 ⟨a, ha, rfl⟩)
  ·rw [List.mem_append]
   constructor
   ·intro hp
    by_cases hm : p.1 ∈ Hc.map Prod.fst
    ·exact .inl (hin p hp hm)
    ·exact .inr (List.mem_filter.2 ⟨hp, by rw [Bool.not_eq_true', ← Bool.not_eq_true, List.contains_iff_mem]; exact hm⟩)
   ·rintro (h | h)
    ·exact hHl p h
    ·exact (List.mem_filter.1 h).1
 refine ((hc.frame Hl Fm hp).run (Zx k k) C w vs hw hv).mono ?_
 rintro en w' ⟨C', H', x, hRx, hw', hx, her⟩
 obtain ⟨H0, hR0, rfl⟩ := hRx
 obtain ⟨r, rfl, rfl⟩ := hR _ _ hR0
 have hav : ∀ z, z < MM → z ∉ C.U → z ∉ C'.U := fun z hz hu => hx.av z (mem_Zx.2 ⟨hz, by omega⟩) hu
 obtain ⟨C2, g1, g2, g3, g4, g5⟩ := Z68 (Hr := Fm) hw' (hav k hk (hf k (Nat.le_refl _) hk))
 refine ⟨C2, (k, .rows el sz es) :: Fm, ?_, g2, ?_, ?_, ⟨(hx.subZ (fun _ h => absurd h List.not_mem_nil)).trans g5, ?_, Nat.le_succ _⟩⟩
 ·cases en with
  | returned v => exact g3 _ _ _ _ her
  | panicked ch => exact her.elim
  | outgrown => exact her.elim
 ·intro i ob h
  rcases Hp.put_get' h with ⟨rfl, e⟩ | h
  ·cases e; exact List.mem_cons_self
  ·obtain ⟨h1, h2⟩ := Z36 _ H (fun j hj => by
    obtain ⟨p, hp, rfl⟩ := List.mem_map.1 hj
    exact (Hp.own_spec (hH p hp)).1) h
   exact List.mem_cons_of_mem _ (List.mem_filter.2 ⟨hs i ob h2, by rw [Bool.not_eq_true', ← Bool.not_eq_true, List.contains_iff_mem]; exact h1⟩)
 ·intro z h1 h2 hm
  rcases g4 z hm with rfl | h3
  ·omega
  ·exact hav z h2 (hf z (by omega) h2) h3
 ·intro z hz hm
  rcases g4 z hm with rfl | h3
  ·exact .inr ⟨Nat.le_refl _, Nat.lt_succ_self _⟩
  ·by_cases h4 : z ∈ C.U
   ·exact .inl h4
   ·exact absurd h3 (hav z hz h4)
end
end Go.Sx
namespace Go.Sx
open Go
section
variable {P : Program}
theorem Zcz {C : Ctx} {H : AHeap} {w : World} {k q : Nat} {es : List (Value × AV)} {out : List Str} (hw : WR C H w) (hH : H[k]? = some (q, .mp es)) (hks : es.map Prod.fst = out.map Value.string) :
  ∃ mb N ents clock, C.m q = some (mb, N) ∧ w.heap[mb]? = some (.map ents clock) ∧ SetE out ents clock ∧ WR C (H.set k (q, .raw (.map ents clock))) w ∧ Ext [] C H w C (H.set k (q, .raw (.map ents clock))) w := by
 obtain ⟨hu, b, N, ents, clock, hm, hh, hl, hborn, hinj, hrow⟩ := hw.ids _ _ (List.mem_of_getElem? hH)
 have hlo : es.length = out.length := by have := congrArg List.length hks; simpa using this
 have hlen : ents.toList.length = out.length := by rw [Array.length_toList, hl, hlo]
 obtain ⟨g1, g2⟩ := Z0t (Z := []) (C' := C) (id' := q) (o' := .raw (.map ents clock)) (w' := w) hw hH (.refl C) rfl (.inl rfl) hu (fun _ _ h => h) rfl rfl rfl (Nat.le_refl _) (fun b N' hm' => .inl ⟨N', hm'⟩) (fun _ _ _ => rfl) ⟨b, N, hm, hh⟩
 refine ⟨b, N, ents, clock, hm, hh, ⟨?_, ?_, ?_⟩, g1, g2⟩
 ·refine List.ext_getElem (by simpa using hlen) fun i h1 h2 => ?_
  have hi : i < out.length := by simpa using h2
  have hi2 : i < es.length := by omega
  obtain ⟨e, he, hk, _⟩ := hrow i es[i].1 es[i].2 (by rw [List.getElem?_eq_getElem hi2])
  rw [← Array.getElem?_toList] at he
  obtain ⟨h3, h4⟩ := List.getElem?_eq_some_iff.1 he
  have h5 : (es.map Prod.fst)[i]'(by simpa using hi2) = (out.map Value.string)[i]'(by simpa using hi) := by simp only [hks]
  simp only [List.getElem_map] at h5 ⊢
  rw [h4, hk, h5]
 ·intro e he
  obtain ⟨i, hi, rfl⟩ := List.mem_iff_getElem.1 he
  exact hborn i _ (by rw [← Array.getElem?_toList, List.getElem?_eq_getElem hi])
 ·unfold List.Nodup
  rw [List.pairwise_map, List.pairwise_iff_getElem]
  intro i j hi hj hlt he
  have := hinj i j _ _ (by rw [← Array.getElem?_toList, List.getElem?_eq_getElem hi]) (by rw [← Array.getElem?_toList, List.getElem?_eq_getElem hj]) he
  omega
theorem Zd5 {H : AHeap} (hn : (H.map Prod.fst).Nodup) {a b : Nat × AObj} (ha : a ∈ H) (hb : b ∈ H) (hab : a.1 ≠ b.1) : ∃ F : AHeap, H.Perm (a :: b :: F) ∧ ∀ p, p ∈ H → p.1 ≠ a.1 → p.1 ≠ b.1 → p ∈ F := by
 obtain ⟨H1, H2, rfl⟩ := List.append_of_mem ha
 have hb' : b ∈ H1 ++ H2 := by
  rcases List.mem_append.1 hb with h | h
  ·exact List.mem_append_left _ h
  ·rcases List.mem_cons.1 h with h | h
   ·subst h; exact absurd rfl hab
   ·exact List.mem_append_right _ h
 obtain ⟨F1, F2, hF⟩ := List.append_of_mem hb'
 refine ⟨F1 ++ F2, ?_, ?_⟩
 ·refine List.perm_middle.trans (List.Perm.cons _ ?_)
  rw [hF]; exact List.perm_middle
 ·intro p hp h1 h2
  have : p ∈ H1 ++ H2 := by
   rcases List.mem_append.1 hp with h | h
   ·exact List.mem_append_left _ h
   ·rcases List.mem_cons.1 h with h | h
    ·subst h; exact absurd rfl h1
    ·exact List.mem_append_right _ h
  rw [hF] at this
  rcases List.mem_append.1 this with h | h
  ·exact List.mem_append_left _ h
  ·rcases List.mem_cons.1 h with h | h
   ·subst h; exact absurd rfl h2
   ·exact List.mem_append_right _ h
theorem Zat {f i1 q : Nat} {xs : List AV} {ob : AObj} {es : List (Value × AV)} {out : List Str} {x : AV} {H : Hp} {k : Nat} (hcl : Callable P f)
  (hc : ∀ ents clock, SetE out ents clock → ACalls P f xs [(i1, ob), (q, .raw (.map ents clock))] (fun e H' => e = .ret x ∧ H' = [(q, .raw (.map ents clock))]))
  (h1 : H.own i1 = some ob) (h2 : H.get q = some (.mp es)) (hne : i1 ≠ q) (hks : es.map Prod.fst = out.map Value.string) :
  ECall P f xs H k (.ret x) (dropObs H [i1]) k := by
 obtain ⟨hR, h1⟩ := Hp.own_spec h1
 refine ⟨hcl, Z4y _ _, ?_⟩
 intro C Hl w vs hw hs hf hv
 obtain ⟨F, hp, hF⟩ := Zd5 hw.nd (hs _ _ h1) (hs _ _ h2) hne
 have hw2 := hw.perm hp
 obtain ⟨mb, N, ents, clock, hm, hh, hE, g1, g2⟩ := Zcz (k := 1) hw2 rfl hks
 refine (((hc ents clock hE).frame ((i1, ob) :: (q, .raw (.map ents clock)) :: F) F (.refl _)).run (Zx k k) C w vs g1 hv).mono ?_
 rintro en w' ⟨C', H', y, ⟨H0, ⟨rfl, rfl⟩, rfl⟩, hw', hx, her⟩
 have hav : ∀ z, z < MM → z ∉ C.U → z ∉ C'.U := fun z hz hu => hx.av z (mem_Zx.2 ⟨hz, by omega⟩) hu
 obtain ⟨hu, hor⟩ := hw2.ids q (.mp es) (List.mem_cons_of_mem _ List.mem_cons_self)
 obtain ⟨_, b', N', hm', hh'⟩ := hw'.ids q (.raw (.map ents clock)) List.mem_cons_self
 have hm2 : C'.m q = some (mb, N) := (hx.le.m q hu).trans hm
 rw [hm2] at hm'
 cases hm'
 have hor' : OR C' q w' (.mp es) := hor.keep hx.le hu fun b N2 hb => by
  rw [hm] at hb; cases hb
  rw [hh, hh']
 obtain ⟨k1, k2⟩ := Z0t (Z := []) (C' := C') (id' := q) (o' := .mp es) (w' := w') (k := 0) hw' rfl (.refl C') rfl (.inl rfl) (hx.le.U q hu) (fun _ _ h => h) rfl rfl rfl (Nat.le_refl _) (fun b N' hm' => .inl ⟨N', hm'⟩) (fun _ _ _ => rfl) hor'
 refine ⟨C', (q, .mp es) :: F, her, k1, ?_, ?_, ⟨((g2.permL hp.symm).trans (hx.subZ (fun _ h => absurd h List.not_mem_nil))).trans k2, ?_, Nat.le_refl _⟩⟩
 ·intro i o h
  obtain ⟨h3, h4⟩ := Z36 _ H (fun j hj => by rw [List.mem_singleton.1 hj]; exact hR) h
  by_cases hiq : i = q
  ·subst hiq
   rw [h2] at h4; cases h4
   exact List.mem_cons_self
  ·exact List.mem_cons_of_mem _ (hF (i, o) (hs i o h4) (fun e => h3 (by rw [List.mem_singleton]; exact e)) hiq)
 ·intro z h3 h4 hm
  exact hav z h4 (hf z h3 h4) hm
 ·intro z hz hm
  by_cases h4 : z ∈ C.U
  ·exact .inl h4
  ·exact absurd hm (hav z hz h4)
end
end Go.Sx
namespace Go.Sx
open Go Go.Proofs
def strs : List (Value × AV) → Option (List Str)
 | [] => some []
 | (.string s, _) :: r => match strs r with
  | some l => some (s :: l)
  | none => none
 | _ => none
theorem Z8d : ∀ (es : List (Value × AV)) (out : List Str), strs es = some out → es.map Prod.fst = out.map Value.string
 | [], out, h => by simp only [strs, Option.some.injEq] at h; subst h; rfl
 | (v, x) :: r, out, h => by
  unfold strs at h
  split at h
  ·rename_i h1; cases h1
  ·rename_i s y r' h1
   cases h1
   split at h
   ·rename_i l hl
    cases h
    simp [Z8d r l hl]
   ·cases h
  ·cases h
def k102 : CallF := fun f xs H k => bif Nat.beq f 102 then (match xs with
 | [.fn (.func g) [.ptr i1 s1 a b]] => bif Nat.beq g 186 && (Nat.beq s1 1 && (Nat.beq a 0 && Nat.beq b 0)) then (match H.own i1 with
  | some (.rows el sz [[.map q]]) => bif Nat.beq el 131 && Nat.beq sz 1 then (match H.get q with
   | some (.mp es) => (match strs es with
    | some out => bif decide out.Nodup && (Nat.ble out.length 1000 && !(Nat.beq i1 q)) then some (.ret (row1 sA (risF out)), dropObs H [i1], k) else none
    | none => none)
   | _ => none) else none
  | _ => none) else none
 | _ => none) else none
theorem Zea : KOk Tryz.prog k102 := by
 intro f xs H k r H' k' h
 unfold k102 at h
 cases hf : Nat.beq f 102 with
 | false => rw [hf] at h; cases h
 | true =>
 rw [hf, cond_true] at h
 have hf := Nat.eq_of_beq_eq_true hf
 subst hf
 split at h
 case h_2 => cases h
 rename_i g i1 s1 a b
 cases hg : (Nat.beq g 186 && (Nat.beq s1 1 && (Nat.beq a 0 && Nat.beq b 0))) with
 | false => rw [hg] at h; cases h
 | true =>
 rw [hg, cond_true] at h
 simp only [Bool.and_eq_true] at hg
 obtain ⟨g1, g2, g3, g4⟩ := hg
 have g1 := Nat.eq_of_beq_eq_true g1
 have g2 := Nat.eq_of_beq_eq_true g2
 have g3 := Nat.eq_of_beq_eq_true g3
 have g4 := Nat.eq_of_beq_eq_true g4
 subst g1 g2 g3 g4
 split at h
 case h_2 => cases h
 rename_i el sz q hi1
 cases hg : (Nat.beq el 131 && Nat.beq sz 1) with
 | false => rw [hg] at h; cases h
 | true =>
 rw [hg, cond_true] at h
 simp only [Bool.and_eq_true] at hg
 obtain ⟨g1, g2⟩ := hg
 have g1 := Nat.eq_of_beq_eq_true g1
 have g2 := Nat.eq_of_beq_eq_true g2
 subst g1 g2
 split at h
 case h_2 => cases h
 rename_i es hq
 split at h
 case h_2 => cases h
 rename_i out hout
 cases hg : (decide out.Nodup && (Nat.ble out.length 1000 && !(Nat.beq i1 q))) with
 | false => rw [hg] at h; cases h
 | true =>
 rw [hg, cond_true] at h
 cases h
 simp only [Bool.and_eq_true, decide_eq_true_eq, Bool.not_eq_true'] at hg
 obtain ⟨hnd, hle, hne⟩ := hg
 have hle := Nat.le_of_ble_eq_true hle
 have hne : i1 ≠ q := by rintro rfl; simp at hne
 refine Zat (out := out) ⟨_, Tryz.func102, rfl, by decide +kernel⟩ (fun ents clock hE => ?_) hi1 hq hne (Z8d es out hout)
 refine (Zap 186 [.ptr i1 1 0 0] _ (q, .raw (.map ents clock)) (AdmS out) (FinS out) (fun l hl => by have := hl.len; omega) (fun l hl => by have := hl.length_eq; omega) (Zal out hnd ents clock hE i1 q)).mono ?_
 rintro e H' ⟨m, ⟨l, hl, hp, hs⟩, rfl, rfl⟩
 rw [Za6 (hp.trans hl) hnd hs (fun s => Iff.rfl)]
 exact ⟨rfl, rfl⟩
end Go.Sx
namespace Go.Sx
open Go
section
variable {α : Type} [DecidableEq α] {kv : α → List Value}
structure SetF (kv : α → List Value) (out : List α) (ents : Array MapEntry) (clock : Nat) : Prop where
 key : ents.toList.map (·.key) = out.map (kagg kv)
 born : ∀ e ∈ ents.toList, e.born < clock
 nd : (ents.toList.map (·.born)).Nodup
theorem SetF.keyF {kd : Value → α} (hkd : ∀ a, kd (kagg kv a) = a) {out : List α} {ents : Array MapEntry} {clock : Nat} (h : SetF kv out ents clock) {e : MapEntry} (he : e ∈ ents.toList) : e.key = kagg kv (kd e.key) ∧ kd e.key ∈ out := by
 have h1 : e.key ∈ out.map (kagg kv) := h.key ▸ List.mem_map.2 ⟨e, he, rfl⟩
 obtain ⟨s, hs, hk⟩ := List.mem_map.1 h1
 rw [← hk, hkd]
 exact ⟨rfl, hs⟩
theorem SetF.all {kd : Value → α} (hkd : ∀ a, kd (kagg kv a) = a) {out : List α} {ents : Array MapEntry} {clock : Nat} (h : SetF kv out ents clock) {s : α} (hs : s ∈ out) : ∃ e ∈ ents.toList, kd e.key = s := by
 have h1 : kagg kv s ∈ ents.toList.map (·.key) := h.key ▸ List.mem_map.2 ⟨s, hs, rfl⟩
 obtain ⟨e, he, hk⟩ := List.mem_map.1 h1
 exact ⟨e, he, by rw [hk, hkd]⟩
theorem SetF.keys {kd : Value → α} (hkd : ∀ a, kd (kagg kv a) = a) {out : List α} {ents : Array MapEntry} {clock : Nat} (h : SetF kv out ents clock) : ents.toList.map (fun e => kd e.key) = out := by
 have h1 : ents.toList.map (fun e => kd e.key) = (ents.toList.map (·.key)).map kd := by rw [List.map_map]; rfl
 rw [h1, h.key, List.map_map]
 exact (List.map_congr_left fun s _ => hkd s).trans (List.map_id _)
structure GotF (ents : Array MapEntry) (x : List MapEntry) : Prop where
 sub : ∀ e ∈ x, e ∈ ents.toList
 nd : (x.map (·.born)).Nodup
theorem GotF.start (ents : Array MapEntry) : GotF ents [] := ⟨nofun, List.nodup_nil⟩
theorem GotF.step {ents : Array MapEntry} {x : List MapEntry} {e : MapEntry} (h : GotF ents x) (he : e ∈ (leftOf ents (bornsA x)).toList) : GotF ents (x ++ [e]) :=
 let g := Got.step (out := []) ⟨h.sub, h.nd⟩ he; ⟨g.sub, g.nd⟩
theorem GotF.dec {ents : Array MapEntry} {x : List MapEntry} {e : MapEntry} (he : e ∈ (leftOf ents (bornsA x)).toList) : (leftOf ents (bornsA (x ++ [e]))).size < (leftOf ents (bornsA x)).size := Got.dec (out := []) he
theorem GotF.keys {kd : Value → α} (hkd : ∀ a, kd (kagg kv a) = a) {out : List α} {ents : Array MapEntry} {clock : Nat} (hs : SetF kv out ents clock) (ho : out.Nodup) {x : List MapEntry} (h : GotF ents x) : (x.map (fun e => kd e.key)).Nodup ∧ ∀ s, s ∈ x.map (fun e => kd e.key) → s ∈ out := by
 refine ⟨?_, fun s hsx => ?_⟩
 ·have hk : ∀ a b : MapEntry, a ∈ ents.toList → b ∈ ents.toList → kd a.key = kd b.key → a.born = b.born := by
   intro a b ha hb hab
   obtain ⟨i, hi, rfl⟩ := List.mem_iff_getElem.1 ha
   obtain ⟨j, hj, rfl⟩ := List.mem_iff_getElem.1 hb
   have e1 := hs.keys hkd
   have hnd : (ents.toList.map (fun e => kd e.key)).Nodup := by rw [e1]; exact ho
   have hi' : i < (ents.toList.map (fun e => kd e.key)).length := by simpa using hi
   have hj' : j < (ents.toList.map (fun e => kd e.key)).length := by simpa using hj
   have : i = j := (List.getElem_inj (h₀ := hi') (h₁ := hj') hnd).1 (by simpa using hab)
   subst this; rfl
  have hx := h.nd
  unfold List.Nodup at hx ⊢
  rw [List.pairwise_map] at hx ⊢
  refine List.Pairwise.imp_of_mem ?_ hx
  intro a b ha hb hne hab
  exact hne (hk a b (h.sub a ha) (h.sub b hb) hab)
 ·obtain ⟨e, he, rfl⟩ := List.mem_map.1 hsx
  exact (hs.keyF hkd (h.sub e he)).2
theorem GotF.fin {kd : Value → α} (hkd : ∀ a, kd (kagg kv a) = a) {out : List α} {ents : Array MapEntry} {clock : Nat} (hs : SetF kv out ents clock) (ho : out.Nodup) {x : List MapEntry} (h : GotF ents x) (hz : (leftOf ents (bornsA x)).size = 0) : (x.map (fun e => kd e.key)).Perm out := by
 obtain ⟨h1, h2⟩ := h.keys hkd hs ho
 refine (List.perm_ext_iff_of_nodup h1 ho).2 fun s => ⟨h2 s, fun hso => ?_⟩
 obtain ⟨e, he, rfl⟩ := hs.all hkd hso
 have h3 := bornsA_has.1 (all_seen _ _ hz e he)
 obtain ⟨e', he', hb⟩ := List.mem_map.1 h3
 rw [← born_inj hs.nd (h.sub e' he') he hb]
 exact List.mem_map.2 ⟨e', he', rfl⟩
theorem Zbh {Z : List Nat} {C : Ctx} {H : AHeap} {w : World} {k q : Nat} {es : List (α × AV)} (hw : WR C H w) (hH : H[k]? = some (q, .mp (fmp kv es))) :
  ∃ mb N ents clock, C.m q = some (mb, N) ∧ q ∈ C.U ∧ SetF kv (es.map Prod.fst) ents clock ∧ WR C (H.set k (q, .raw (.map ents clock))) w ∧ Ext Z C H w C (H.set k (q, .raw (.map ents clock))) w := by
 obtain ⟨hu, b, N, ents, clock, hm, hh, hl, hborn, hinj, hrow⟩ := hw.ids _ _ (List.mem_of_getElem? hH)
 have hlen : ents.toList.length = es.length := by rw [Array.length_toList, hl]; simp [fmp]
 obtain ⟨g1, g2⟩ := Z0t (Z := Z) (C' := C) (id' := q) (o' := .raw (.map ents clock)) (w' := w) hw hH (.refl C) rfl (.inl rfl) hu (fun _ _ h => h) rfl rfl rfl (Nat.le_refl _) (fun b N' hm' => .inl ⟨N', hm'⟩) (fun _ _ _ => rfl) ⟨b, N, hm, hh⟩
 refine ⟨b, N, ents, clock, hm, hu, ⟨?_, ?_, ?_⟩, g1, g2⟩
 ·refine List.ext_getElem (by simpa using hlen) fun i h1 h2 => ?_
  have hi : i < es.length := by simpa using h2
  obtain ⟨e, he, hk, _⟩ := hrow i (kagg kv es[i].1) es[i].2 (by simp [fmp, hi])
  rw [← Array.getElem?_toList] at he
  obtain ⟨h3, h4⟩ := List.getElem?_eq_some_iff.1 he
  simp only [List.getElem_map]
  rw [h4, hk]
 ·intro e he
  obtain ⟨i, hi, rfl⟩ := List.mem_iff_getElem.1 he
  exact hborn i _ (by rw [← Array.getElem?_toList, List.getElem?_eq_getElem hi])
 ·unfold List.Nodup
  rw [List.pairwise_map, List.pairwise_iff_getElem]
  intro i j hi hj hlt he
  have := hinj i j _ _ (by rw [← Array.getElem?_toList, List.getElem?_eq_getElem hi]) (by rw [← Array.getElem?_toList, List.getElem?_eq_getElem hj]) he
  omega
def AdmF (out : List α) (l : List α) : Prop := l.Nodup ∧ ∀ s, s ∈ l → s ∈ out
def FinF (out : List α) (l : List α) : Prop := l.Perm out
theorem AdmF.len {out l : List α} (h : AdmF out l) : l.length ≤ out.length := Z1a h.1 h.2
end
end Go.Sx
namespace Go.Sx
open Go
section
variable {P : Program} {ro : Option Nat} {Q : Exit → St → Prop} {s : St} {ops : Array Oper} {o : Oper} {rest : List Oper} {H0 : AHeap} {K : St → Prop} {k : Nat} {M : List (Nat × (Nat × AObj))} {S : List (AHeap × AHeap)} {ws rs : List Nat} {p : Operand} {x : AV}
theorem qS {x y : Code} (h : AWp P ro x (thenQ (AWp P ro y Q) Q) s) : AWp P ro (.seq x y) Q s := Z7 h
theorem qR {id : Nat} {l : List Oper} (h : AOps P ro l.toArray l Q s) : AWp P ro (.region id l.toArray false) Q s := Z3 h
theorem qB {id : Nat} {c : Code} (h : AWp P ro c (blockQ id Q) s) : AWp P ro (.block id c) Q s := Zn h
theorem qK (h : Q .normal s) : AWp P ro .skip Q s := Zk h
theorem qX {i : Nat} (h : Q (.exit i) s) : AWp P ro (.exit i) Q s := Z04 h
theorem qe (he : Eff P o s.T [] x []) (h : AOps P ro ops rest Q { s with T := put s.T o.dst x }) (hg : o.guard = none := by rfl) (hd : dok o.dst s.n = true := by rfl) : AOps P ro ops (o :: rest) Q s := Z2 (w0 hg) hd he h
end
end Go.Sx
namespace Go.Sx
open Go
def ARounds (P : Program) (ro : Option Nat) (c : Code) (Q : Exit → St → Prop) : Nat → St → Prop
 | 0, _ => False
 | m + 1, s => AWp P ro c (thenQ (ARounds P ro c Q m) Q) s
theorem Z5x {P : Program} {ro : Option Nat} {c : Code} {Q : Exit → St → Prop} {s : St} (m : Nat) (h : ARounds P ro c Q m s) : AWp P ro (.loop c) Q s := by
 intro Z C0 H0 w0 C a w he hs
 refine wpIn_loop_rounds m ?_
 induction m generalizing s C a w with
 | zero => exact h.elim
 | succ m ih =>
  refine wpIn_mono (h Z C0 H0 w0 C a w he hs) ?_
  rintro e a' w' ⟨h1, C', s', hq, hs', he'⟩
  cases e with
  | normal => exact ih hq C' a' w' he' hs'
  | outgrown => exact absurd rfl h1
  | _ => exact ⟨h1, C', s', hq, hs', he'⟩
theorem zRd {P : Program} {ro : Option Nat} {c : Code} {Q : Exit → St → Prop} {s : St} {m : Nat} (h : AWp P ro c (thenQ (ARounds P ro c Q m) Q) s) : ARounds P ro c Q (m + 1) s := h
end Go.Sx
namespace Go.Sx
open Go
class Con (P : Program) (f : Nat) (xs : List AV) (x : outParam AV) : Prop where
 c : ACalls P f xs [] (Gives x)
structure Wk (A : Prop) : Prop where
 x : A
theorem wY {ops : Array Oper} {o : Oper} {T : List (Nat × AV)} {g t : Nat} {b : Bool} {og : Oper} (h : o.guard = some (g, b)) (h1 : ops[g]? = some og) (h2 : og.dst = some t) (h3 : lk T t = some (.v (.bool b))) : Wanted ops T o true := by
 cases b
 ·exact wF h h1 h2 h3
 ·exact wT h h1 h2 h3
theorem wZ {ops : Array Oper} {o : Oper} {T : List (Nat × AV)} {g t : Nat} {b : Bool} {og : Oper} (h : o.guard = some (g, b)) (h1 : ops[g]? = some og) (h2 : og.dst = some t) (h3 : lk T t = some (.v (.bool (!b)))) : Wanted ops T o false := by
 cases b
 ·exact wF h h1 h2 h3
 ·exact wT h h1 h2 h3
section
variable {P : Program} {t : TypeId} {r : List AV}
theorem Z6q {x1 x2 : AV} [h : TK P t true 2] : Ld P t (x1 :: x2 :: r) (.agg [x1, x2]) := .inr ⟨2, h.tk, by simp, rfl⟩
theorem Zcv {x1 x2 x3 : AV} [h : TK P t true 3] : Ld P t (x1 :: x2 :: x3 :: r) (.agg [x1, x2, x3]) := .inr ⟨3, h.tk, by simp, rfl⟩
theorem Zcw {x1 x2 x3 x4 : AV} [h : TK P t true 4] : Ld P t (x1 :: x2 :: x3 :: x4 :: r) (.agg [x1, x2, x3, x4]) := .inr ⟨4, h.tk, by simp, rfl⟩
theorem Zcx {x1 x2 x3 x4 x5 : AV} [h : TK P t true 5] : Ld P t (x1 :: x2 :: x3 :: x4 :: x5 :: r) (.agg [x1, x2, x3, x4, x5]) := .inr ⟨5, h.tk, by simp, rfl⟩
theorem Zcy {x1 x2 x3 x4 x5 x6 x7 : AV} [h : TK P t true 7] : Ld P t (x1 :: x2 :: x3 :: x4 :: x5 :: x6 :: x7 :: r) (.agg [x1, x2, x3, x4, x5, x6, x7]) := .inr ⟨7, h.tk, by simp, rfl⟩
end
def maskOf (ms : List Nat) (o : Oper) : Nat := o.after.foldl (fun m e => bif Region.binds .any e then m ||| (1 <<< e.on) ||| ms.getD e.on 0 else m) 0
def masksOf (l : List Oper) : List Nat := l.foldl (fun ms o => ms ++ [maskOf ms o]) []
section
variable {P : Program} {ro : Option Nat} {Q : Exit → St → Prop} {ops : Array Oper} {rest : List Oper} {T : List (Nat × AV)} {H : AHeap} {D : List Nat} {n d ty : Nat} {po : String} {af : Array Edge} {p q : Operand} {x y : AV} {t t' : TypeId} {H0 : AHeap} {KK : St → Prop} {kk : Nat} {M : List (Nat × (Nat × AObj))}
theorem zM  (h : AOps P ro ops rest Q ⟨(d, x) :: T, H, D, n⟩) (hp : ev T p = some x := by rfl) (hd : Nat.blt d n = true := by rfl) : AOps P ro ops ({ dst := some d, op := .move p, type := ty, pos := po, after := af, guard := none } :: rest) Q ⟨T, H, D, n⟩ := Z2 (w0 rfl) hd (Z0 rfl hp) h
theorem zcM  (h : Calm P ops H0 KK (kk + 1) rest M ⟨(d, x) :: T, H, D, n⟩) (hp : ev T p = some x := by rfl) (hd : Nat.blt d n = true := by rfl) : Calm P ops H0 KK kk ({ dst := some d, op := .move p, type := ty, pos := po, after := af, guard := none } :: rest) M ⟨T, H, D, n⟩ := Za (w0 rfl) hd (Z0 rfl hp) h
theorem Zhd  {g gt : Nat} {gb : Bool} {og : Oper} (h : Calm P ops H0 KK (kk + 1) rest M ⟨(d, x) :: T, H, D, n⟩) (g1 : ops[g]? = some og := by rfl) (g2 : og.dst = some gt := by rfl) (g3 : lk T gt = some (.v (.bool gb)) := by rfl) (hp : ev T p = some x := by rfl) (hd : Nat.blt d n = true := by rfl) : Calm P ops H0 KK kk ({ dst := some d, op := .move p, type := ty, pos := po, after := af, guard := some (g, gb) } :: rest) M ⟨T, H, D, n⟩ := Za (wY rfl g1 g2 g3) hd (Z0 rfl hp) h
theorem zgM  {g gt : Nat} {gb : Bool} {og : Oper} (h : AOps P ro ops rest Q ⟨(d, x) :: T, H, D, n⟩) (g1 : ops[g]? = some og := by rfl) (g2 : og.dst = some gt := by rfl) (g3 : lk T gt = some (.v (.bool gb)) := by rfl) (hp : ev T p = some x := by rfl) (hd : Nat.blt d n = true := by rfl) : AOps P ro ops ({ dst := some d, op := .move p, type := ty, pos := po, after := af, guard := some (g, gb) } :: rest) Q ⟨T, H, D, n⟩ := Z2 (wY rfl g1 g2 g3) hd (Z0 rfl hp) h
theorem zA  (h : AOps P ro ops rest Q ⟨(d, x) :: T, H, D, n⟩) (hp : ev T p = some x := by rfl) (hd : Nat.blt d n = true := by rfl) : AOps P ro ops ({ dst := some d, op := .assign p, type := ty, pos := po, after := af, guard := none } :: rest) Q ⟨T, H, D, n⟩ := Z2 (w0 rfl) hd (Z4 rfl hp) h
theorem zcA  (h : Calm P ops H0 KK (kk + 1) rest M ⟨(d, x) :: T, H, D, n⟩) (hp : ev T p = some x := by rfl) (hd : Nat.blt d n = true := by rfl) : Calm P ops H0 KK kk ({ dst := some d, op := .assign p, type := ty, pos := po, after := af, guard := none } :: rest) M ⟨T, H, D, n⟩ := Za (w0 rfl) hd (Z4 rfl hp) h
theorem Zh7  {g gt : Nat} {gb : Bool} {og : Oper} (h : Calm P ops H0 KK (kk + 1) rest M ⟨(d, x) :: T, H, D, n⟩) (g1 : ops[g]? = some og := by rfl) (g2 : og.dst = some gt := by rfl) (g3 : lk T gt = some (.v (.bool gb)) := by rfl) (hp : ev T p = some x := by rfl) (hd : Nat.blt d n = true := by rfl) : Calm P ops H0 KK kk ({ dst := some d, op := .assign p, type := ty, pos := po, after := af, guard := some (g, gb) } :: rest) M ⟨T, H, D, n⟩ := Za (wY rfl g1 g2 g3) hd (Z4 rfl hp) h
theorem zgA  {g gt : Nat} {gb : Bool} {og : Oper} (h : AOps P ro ops rest Q ⟨(d, x) :: T, H, D, n⟩) (g1 : ops[g]? = some og := by rfl) (g2 : og.dst = some gt := by rfl) (g3 : lk T gt = some (.v (.bool gb)) := by rfl) (hp : ev T p = some x := by rfl) (hd : Nat.blt d n = true := by rfl) : AOps P ro ops ({ dst := some d, op := .assign p, type := ty, pos := po, after := af, guard := some (g, gb) } :: rest) Q ⟨T, H, D, n⟩ := Z2 (wY rfl g1 g2 g3) hd (Z4 rfl hp) h
theorem zI {b : BinOp} {k : IntKind} {u v : Int} {z : Bool} (h : AOps P ro ops rest Q ⟨(d, .v (.bool z)) :: T, H, D, n⟩) (hp : ev T p = some (.v (.int k u)) := by rfl) (hq : ev T q = some (.v (.int k v)) := by rfl) (hz : icmp b u v = some z := by rfl) (hd : Nat.blt d n = true := by rfl) : AOps P ro ops ({ dst := some d, op := .binOp b t p q t', type := ty, pos := po, after := af, guard := none } :: rest) Q ⟨T, H, D, n⟩ := Z2 (w0 rfl) hd (Zf rfl hp hq hz) h
theorem zcI {b : BinOp} {k : IntKind} {u v : Int} {z : Bool} (h : Calm P ops H0 KK (kk + 1) rest M ⟨(d, .v (.bool z)) :: T, H, D, n⟩) (hp : ev T p = some (.v (.int k u)) := by rfl) (hq : ev T q = some (.v (.int k v)) := by rfl) (hz : icmp b u v = some z := by rfl) (hd : Nat.blt d n = true := by rfl) : Calm P ops H0 KK kk ({ dst := some d, op := .binOp b t p q t', type := ty, pos := po, after := af, guard := none } :: rest) M ⟨T, H, D, n⟩ := Za (w0 rfl) hd (Zf rfl hp hq hz) h
theorem Zh9 {b : BinOp} {k : IntKind} {u v : Int} {z : Bool} {g gt : Nat} {gb : Bool} {og : Oper} (h : Calm P ops H0 KK (kk + 1) rest M ⟨(d, .v (.bool z)) :: T, H, D, n⟩) (g1 : ops[g]? = some og := by rfl) (g2 : og.dst = some gt := by rfl) (g3 : lk T gt = some (.v (.bool gb)) := by rfl) (hp : ev T p = some (.v (.int k u)) := by rfl) (hq : ev T q = some (.v (.int k v)) := by rfl) (hz : icmp b u v = some z := by rfl) (hd : Nat.blt d n = true := by rfl) : Calm P ops H0 KK kk ({ dst := some d, op := .binOp b t p q t', type := ty, pos := po, after := af, guard := some (g, gb) } :: rest) M ⟨T, H, D, n⟩ := Za (wY rfl g1 g2 g3) hd (Zf rfl hp hq hz) h
theorem zgI {b : BinOp} {k : IntKind} {u v : Int} {z : Bool} {g gt : Nat} {gb : Bool} {og : Oper} (h : AOps P ro ops rest Q ⟨(d, .v (.bool z)) :: T, H, D, n⟩) (g1 : ops[g]? = some og := by rfl) (g2 : og.dst = some gt := by rfl) (g3 : lk T gt = some (.v (.bool gb)) := by rfl) (hp : ev T p = some (.v (.int k u)) := by rfl) (hq : ev T q = some (.v (.int k v)) := by rfl) (hz : icmp b u v = some z := by rfl) (hd : Nat.blt d n = true := by rfl) : AOps P ro ops ({ dst := some d, op := .binOp b t p q t', type := ty, pos := po, after := af, guard := some (g, gb) } :: rest) Q ⟨T, H, D, n⟩ := Z2 (wY rfl g1 g2 g3) hd (Zf rfl hp hq hz) h
theorem zU {b : BinOp} {u v : ByteArray} {z : Bool} (h : AOps P ro ops rest Q ⟨(d, .v (.bool z)) :: T, H, D, n⟩) (hp : ev T p = some (.v (.string u)) := by rfl) (hq : ev T q = some (.v (.string v)) := by rfl) (hz : scmp b u v = some z := by rfl) (hd : Nat.blt d n = true := by rfl) : AOps P ro ops ({ dst := some d, op := .binOp b t p q t', type := ty, pos := po, after := af, guard := none } :: rest) Q ⟨T, H, D, n⟩ := Z2 (w0 rfl) hd (Z0q rfl hp hq hz) h
theorem zcU {b : BinOp} {u v : ByteArray} {z : Bool} (h : Calm P ops H0 KK (kk + 1) rest M ⟨(d, .v (.bool z)) :: T, H, D, n⟩) (hp : ev T p = some (.v (.string u)) := by rfl) (hq : ev T q = some (.v (.string v)) := by rfl) (hz : scmp b u v = some z := by rfl) (hd : Nat.blt d n = true := by rfl) : Calm P ops H0 KK kk ({ dst := some d, op := .binOp b t p q t', type := ty, pos := po, after := af, guard := none } :: rest) M ⟨T, H, D, n⟩ := Za (w0 rfl) hd (Z0q rfl hp hq hz) h
theorem Zhf {b : BinOp} {u v : ByteArray} {z : Bool} {g gt : Nat} {gb : Bool} {og : Oper} (h : Calm P ops H0 KK (kk + 1) rest M ⟨(d, .v (.bool z)) :: T, H, D, n⟩) (g1 : ops[g]? = some og := by rfl) (g2 : og.dst = some gt := by rfl) (g3 : lk T gt = some (.v (.bool gb)) := by rfl) (hp : ev T p = some (.v (.string u)) := by rfl) (hq : ev T q = some (.v (.string v)) := by rfl) (hz : scmp b u v = some z := by rfl) (hd : Nat.blt d n = true := by rfl) : Calm P ops H0 KK kk ({ dst := some d, op := .binOp b t p q t', type := ty, pos := po, after := af, guard := some (g, gb) } :: rest) M ⟨T, H, D, n⟩ := Za (wY rfl g1 g2 g3) hd (Z0q rfl hp hq hz) h
theorem zgU {b : BinOp} {u v : ByteArray} {z : Bool} {g gt : Nat} {gb : Bool} {og : Oper} (h : AOps P ro ops rest Q ⟨(d, .v (.bool z)) :: T, H, D, n⟩) (g1 : ops[g]? = some og := by rfl) (g2 : og.dst = some gt := by rfl) (g3 : lk T gt = some (.v (.bool gb)) := by rfl) (hp : ev T p = some (.v (.string u)) := by rfl) (hq : ev T q = some (.v (.string v)) := by rfl) (hz : scmp b u v = some z := by rfl) (hd : Nat.blt d n = true := by rfl) : AOps P ro ops ({ dst := some d, op := .binOp b t p q t', type := ty, pos := po, after := af, guard := some (g, gb) } :: rest) Q ⟨T, H, D, n⟩ := Z2 (wY rfl g1 g2 g3) hd (Z0q rfl hp hq hz) h
theorem zUt {b : BinOp} {u v : ByteArray} (h : AOps P ro ops rest Q ⟨(d, .v (.bool true)) :: T, H, D, n⟩) (hp : ev T p = some (.v (.string u)) := by rfl) (hq : ev T q = some (.v (.string v)) := by rfl) (hz : scmp b u v = some true := by decide +kernel) (hd : Nat.blt d n = true := by rfl) : AOps P ro ops ({ dst := some d, op := .binOp b t p q t', type := ty, pos := po, after := af, guard := none } :: rest) Q ⟨T, H, D, n⟩ := Z2 (w0 rfl) hd (Z0q rfl hp hq hz) h
theorem Zh6 {b : BinOp} {u v : ByteArray} (h : Calm P ops H0 KK (kk + 1) rest M ⟨(d, .v (.bool true)) :: T, H, D, n⟩) (hp : ev T p = some (.v (.string u)) := by rfl) (hq : ev T q = some (.v (.string v)) := by rfl) (hz : scmp b u v = some true := by decide +kernel) (hd : Nat.blt d n = true := by rfl) : Calm P ops H0 KK kk ({ dst := some d, op := .binOp b t p q t', type := ty, pos := po, after := af, guard := none } :: rest) M ⟨T, H, D, n⟩ := Za (w0 rfl) hd (Z0q rfl hp hq hz) h
theorem Zfz {b : BinOp} {u v : ByteArray} {g gt : Nat} {gb : Bool} {og : Oper} (h : Calm P ops H0 KK (kk + 1) rest M ⟨(d, .v (.bool true)) :: T, H, D, n⟩) (g1 : ops[g]? = some og := by rfl) (g2 : og.dst = some gt := by rfl) (g3 : lk T gt = some (.v (.bool gb)) := by rfl) (hp : ev T p = some (.v (.string u)) := by rfl) (hq : ev T q = some (.v (.string v)) := by rfl) (hz : scmp b u v = some true := by decide +kernel) (hd : Nat.blt d n = true := by rfl) : Calm P ops H0 KK kk ({ dst := some d, op := .binOp b t p q t', type := ty, pos := po, after := af, guard := some (g, gb) } :: rest) M ⟨T, H, D, n⟩ := Za (wY rfl g1 g2 g3) hd (Z0q rfl hp hq hz) h
theorem Zi2 {b : BinOp} {u v : ByteArray} {g gt : Nat} {gb : Bool} {og : Oper} (h : AOps P ro ops rest Q ⟨(d, .v (.bool true)) :: T, H, D, n⟩) (g1 : ops[g]? = some og := by rfl) (g2 : og.dst = some gt := by rfl) (g3 : lk T gt = some (.v (.bool gb)) := by rfl) (hp : ev T p = some (.v (.string u)) := by rfl) (hq : ev T q = some (.v (.string v)) := by rfl) (hz : scmp b u v = some true := by decide +kernel) (hd : Nat.blt d n = true := by rfl) : AOps P ro ops ({ dst := some d, op := .binOp b t p q t', type := ty, pos := po, after := af, guard := some (g, gb) } :: rest) Q ⟨T, H, D, n⟩ := Z2 (wY rfl g1 g2 g3) hd (Z0q rfl hp hq hz) h
theorem zUf {b : BinOp} {u v : ByteArray} (h : AOps P ro ops rest Q ⟨(d, .v (.bool false)) :: T, H, D, n⟩) (hp : ev T p = some (.v (.string u)) := by rfl) (hq : ev T q = some (.v (.string v)) := by rfl) (hz : scmp b u v = some false := by decide +kernel) (hd : Nat.blt d n = true := by rfl) : AOps P ro ops ({ dst := some d, op := .binOp b t p q t', type := ty, pos := po, after := af, guard := none } :: rest) Q ⟨T, H, D, n⟩ := Z2 (w0 rfl) hd (Z0q rfl hp hq hz) h
theorem Zh5 {b : BinOp} {u v : ByteArray} (h : Calm P ops H0 KK (kk + 1) rest M ⟨(d, .v (.bool false)) :: T, H, D, n⟩) (hp : ev T p = some (.v (.string u)) := by rfl) (hq : ev T q = some (.v (.string v)) := by rfl) (hz : scmp b u v = some false := by decide +kernel) (hd : Nat.blt d n = true := by rfl) : Calm P ops H0 KK kk ({ dst := some d, op := .binOp b t p q t', type := ty, pos := po, after := af, guard := none } :: rest) M ⟨T, H, D, n⟩ := Za (w0 rfl) hd (Z0q rfl hp hq hz) h
theorem Zfy {b : BinOp} {u v : ByteArray} {g gt : Nat} {gb : Bool} {og : Oper} (h : Calm P ops H0 KK (kk + 1) rest M ⟨(d, .v (.bool false)) :: T, H, D, n⟩) (g1 : ops[g]? = some og := by rfl) (g2 : og.dst = some gt := by rfl) (g3 : lk T gt = some (.v (.bool gb)) := by rfl) (hp : ev T p = some (.v (.string u)) := by rfl) (hq : ev T q = some (.v (.string v)) := by rfl) (hz : scmp b u v = some false := by decide +kernel) (hd : Nat.blt d n = true := by rfl) : Calm P ops H0 KK kk ({ dst := some d, op := .binOp b t p q t', type := ty, pos := po, after := af, guard := some (g, gb) } :: rest) M ⟨T, H, D, n⟩ := Za (wY rfl g1 g2 g3) hd (Z0q rfl hp hq hz) h
theorem Zi1 {b : BinOp} {u v : ByteArray} {g gt : Nat} {gb : Bool} {og : Oper} (h : AOps P ro ops rest Q ⟨(d, .v (.bool false)) :: T, H, D, n⟩) (g1 : ops[g]? = some og := by rfl) (g2 : og.dst = some gt := by rfl) (g3 : lk T gt = some (.v (.bool gb)) := by rfl) (hp : ev T p = some (.v (.string u)) := by rfl) (hq : ev T q = some (.v (.string v)) := by rfl) (hz : scmp b u v = some false := by decide +kernel) (hd : Nat.blt d n = true := by rfl) : AOps P ro ops ({ dst := some d, op := .binOp b t p q t', type := ty, pos := po, after := af, guard := some (g, gb) } :: rest) Q ⟨T, H, D, n⟩ := Z2 (wY rfl g1 g2 g3) hd (Z0q rfl hp hq hz) h
theorem zK {b : BinOp} {z : Bool} {e : Nat} (h : AOps P ro ops rest Q ⟨(d, .v (.bool z)) :: T, H, D, n⟩) (hp : ev T p = some (.v (.pointer none)) := by rfl) (hq : ev T q = some (.v (.pointer none)) := by rfl) (hb : pcmp b true = some z := by rfl) [hu : UD P t (.pointer e)] (hd : Nat.blt d n = true := by rfl) : AOps P ro ops ({ dst := some d, op := .binOp b t p q t', type := ty, pos := po, after := af, guard := none } :: rest) Q ⟨T, H, D, n⟩ := Z2 (w0 rfl) hd (Z7l rfl hp hq hb) h
theorem zcK {b : BinOp} {z : Bool} {e : Nat} (h : Calm P ops H0 KK (kk + 1) rest M ⟨(d, .v (.bool z)) :: T, H, D, n⟩) (hp : ev T p = some (.v (.pointer none)) := by rfl) (hq : ev T q = some (.v (.pointer none)) := by rfl) (hb : pcmp b true = some z := by rfl) [hu : UD P t (.pointer e)] (hd : Nat.blt d n = true := by rfl) : Calm P ops H0 KK kk ({ dst := some d, op := .binOp b t p q t', type := ty, pos := po, after := af, guard := none } :: rest) M ⟨T, H, D, n⟩ := Za (w0 rfl) hd (Z7l rfl hp hq hb) h
theorem Zhb {b : BinOp} {z : Bool} {e : Nat} {g gt : Nat} {gb : Bool} {og : Oper} (h : Calm P ops H0 KK (kk + 1) rest M ⟨(d, .v (.bool z)) :: T, H, D, n⟩) (g1 : ops[g]? = some og := by rfl) (g2 : og.dst = some gt := by rfl) (g3 : lk T gt = some (.v (.bool gb)) := by rfl) (hp : ev T p = some (.v (.pointer none)) := by rfl) (hq : ev T q = some (.v (.pointer none)) := by rfl) (hb : pcmp b true = some z := by rfl) [hu : UD P t (.pointer e)] (hd : Nat.blt d n = true := by rfl) : Calm P ops H0 KK kk ({ dst := some d, op := .binOp b t p q t', type := ty, pos := po, after := af, guard := some (g, gb) } :: rest) M ⟨T, H, D, n⟩ := Za (wY rfl g1 g2 g3) hd (Z7l rfl hp hq hb) h
theorem zgK {b : BinOp} {z : Bool} {e : Nat} {g gt : Nat} {gb : Bool} {og : Oper} (h : AOps P ro ops rest Q ⟨(d, .v (.bool z)) :: T, H, D, n⟩) (g1 : ops[g]? = some og := by rfl) (g2 : og.dst = some gt := by rfl) (g3 : lk T gt = some (.v (.bool gb)) := by rfl) (hp : ev T p = some (.v (.pointer none)) := by rfl) (hq : ev T q = some (.v (.pointer none)) := by rfl) (hb : pcmp b true = some z := by rfl) [hu : UD P t (.pointer e)] (hd : Nat.blt d n = true := by rfl) : AOps P ro ops ({ dst := some d, op := .binOp b t p q t', type := ty, pos := po, after := af, guard := some (g, gb) } :: rest) Q ⟨T, H, D, n⟩ := Z2 (wY rfl g1 g2 g3) hd (Z7l rfl hp hq hb) h
theorem zJ {b : BinOp} {z : Bool} {e id sz i c : Nat} (h : AOps P ro ops rest Q ⟨(d, .v (.bool z)) :: T, H, D, n⟩) (hp : ev T p = some (.ptr id sz i c) := by rfl) (hq : ev T q = some (.v (.pointer none)) := by rfl) (hb : pcmp b false = some z := by rfl) [hu : UD P t (.pointer e)] (hd : Nat.blt d n = true := by rfl) : AOps P ro ops ({ dst := some d, op := .binOp b t p q t', type := ty, pos := po, after := af, guard := none } :: rest) Q ⟨T, H, D, n⟩ := Z2 (w0 rfl) hd (Z7m rfl hp hq hb) h
theorem zcJ {b : BinOp} {z : Bool} {e id sz i c : Nat} (h : Calm P ops H0 KK (kk + 1) rest M ⟨(d, .v (.bool z)) :: T, H, D, n⟩) (hp : ev T p = some (.ptr id sz i c) := by rfl) (hq : ev T q = some (.v (.pointer none)) := by rfl) (hb : pcmp b false = some z := by rfl) [hu : UD P t (.pointer e)] (hd : Nat.blt d n = true := by rfl) : Calm P ops H0 KK kk ({ dst := some d, op := .binOp b t p q t', type := ty, pos := po, after := af, guard := none } :: rest) M ⟨T, H, D, n⟩ := Za (w0 rfl) hd (Z7m rfl hp hq hb) h
theorem Zha {b : BinOp} {z : Bool} {e id sz i c : Nat} {g gt : Nat} {gb : Bool} {og : Oper} (h : Calm P ops H0 KK (kk + 1) rest M ⟨(d, .v (.bool z)) :: T, H, D, n⟩) (g1 : ops[g]? = some og := by rfl) (g2 : og.dst = some gt := by rfl) (g3 : lk T gt = some (.v (.bool gb)) := by rfl) (hp : ev T p = some (.ptr id sz i c) := by rfl) (hq : ev T q = some (.v (.pointer none)) := by rfl) (hb : pcmp b false = some z := by rfl) [hu : UD P t (.pointer e)] (hd : Nat.blt d n = true := by rfl) : Calm P ops H0 KK kk ({ dst := some d, op := .binOp b t p q t', type := ty, pos := po, after := af, guard := some (g, gb) } :: rest) M ⟨T, H, D, n⟩ := Za (wY rfl g1 g2 g3) hd (Z7m rfl hp hq hb) h
theorem zgJ {b : BinOp} {z : Bool} {e id sz i c : Nat} {g gt : Nat} {gb : Bool} {og : Oper} (h : AOps P ro ops rest Q ⟨(d, .v (.bool z)) :: T, H, D, n⟩) (g1 : ops[g]? = some og := by rfl) (g2 : og.dst = some gt := by rfl) (g3 : lk T gt = some (.v (.bool gb)) := by rfl) (hp : ev T p = some (.ptr id sz i c) := by rfl) (hq : ev T q = some (.v (.pointer none)) := by rfl) (hb : pcmp b false = some z := by rfl) [hu : UD P t (.pointer e)] (hd : Nat.blt d n = true := by rfl) : AOps P ro ops ({ dst := some d, op := .binOp b t p q t', type := ty, pos := po, after := af, guard := some (g, gb) } :: rest) Q ⟨T, H, D, n⟩ := Z2 (wY rfl g1 g2 g3) hd (Z7m rfl hp hq hb) h
theorem zP {u v : Int} (h : AOps P ro ops rest Q ⟨(d, .v (.int .i64 (u + v))) :: T, H, D, n⟩) (hp : ev T p = some (.v (.int .i64 u)) := by rfl) (hq : ev T q = some (.v (.int .i64 v)) := by rfl) (hz : -9223372036854775808 ≤ u + v ∧ u + v ≤ 9223372036854775807 := by first | omega | decide +kernel) (hd : Nat.blt d n = true := by rfl) : AOps P ro ops ({ dst := some d, op := .binOp .add t p q t', type := ty, pos := po, after := af, guard := none } :: rest) Q ⟨T, H, D, n⟩ := Z2 (w0 rfl) hd (Z8 rfl hp hq (Zb hz)) h
theorem zcP {u v : Int} (h : Calm P ops H0 KK (kk + 1) rest M ⟨(d, .v (.int .i64 (u + v))) :: T, H, D, n⟩) (hp : ev T p = some (.v (.int .i64 u)) := by rfl) (hq : ev T q = some (.v (.int .i64 v)) := by rfl) (hz : -9223372036854775808 ≤ u + v ∧ u + v ≤ 9223372036854775807 := by first | omega | decide +kernel) (hd : Nat.blt d n = true := by rfl) : Calm P ops H0 KK kk ({ dst := some d, op := .binOp .add t p q t', type := ty, pos := po, after := af, guard := none } :: rest) M ⟨T, H, D, n⟩ := Za (w0 rfl) hd (Z8 rfl hp hq (Zb hz)) h
theorem Zhe {u v : Int} {g gt : Nat} {gb : Bool} {og : Oper} (h : Calm P ops H0 KK (kk + 1) rest M ⟨(d, .v (.int .i64 (u + v))) :: T, H, D, n⟩) (g1 : ops[g]? = some og := by rfl) (g2 : og.dst = some gt := by rfl) (g3 : lk T gt = some (.v (.bool gb)) := by rfl) (hp : ev T p = some (.v (.int .i64 u)) := by rfl) (hq : ev T q = some (.v (.int .i64 v)) := by rfl) (hz : -9223372036854775808 ≤ u + v ∧ u + v ≤ 9223372036854775807 := by first | omega | decide +kernel) (hd : Nat.blt d n = true := by rfl) : Calm P ops H0 KK kk ({ dst := some d, op := .binOp .add t p q t', type := ty, pos := po, after := af, guard := some (g, gb) } :: rest) M ⟨T, H, D, n⟩ := Za (wY rfl g1 g2 g3) hd (Z8 rfl hp hq (Zb hz)) h
theorem zgP {u v : Int} {g gt : Nat} {gb : Bool} {og : Oper} (h : AOps P ro ops rest Q ⟨(d, .v (.int .i64 (u + v))) :: T, H, D, n⟩) (g1 : ops[g]? = some og := by rfl) (g2 : og.dst = some gt := by rfl) (g3 : lk T gt = some (.v (.bool gb)) := by rfl) (hp : ev T p = some (.v (.int .i64 u)) := by rfl) (hq : ev T q = some (.v (.int .i64 v)) := by rfl) (hz : -9223372036854775808 ≤ u + v ∧ u + v ≤ 9223372036854775807 := by first | omega | decide +kernel) (hd : Nat.blt d n = true := by rfl) : AOps P ro ops ({ dst := some d, op := .binOp .add t p q t', type := ty, pos := po, after := af, guard := some (g, gb) } :: rest) Q ⟨T, H, D, n⟩ := Z2 (wY rfl g1 g2 g3) hd (Z8 rfl hp hq (Zb hz)) h
theorem zL {u v : Int} (h : AOps P ro ops rest Q ⟨(d, .v (.int .i64 (u - v))) :: T, H, D, n⟩) (hp : ev T p = some (.v (.int .i64 u)) := by rfl) (hq : ev T q = some (.v (.int .i64 v)) := by rfl) (hz : -9223372036854775808 ≤ u - v ∧ u - v ≤ 9223372036854775807 := by first | omega | decide +kernel) (hd : Nat.blt d n = true := by rfl) : AOps P ro ops ({ dst := some d, op := .binOp .sub t p q t', type := ty, pos := po, after := af, guard := none } :: rest) Q ⟨T, H, D, n⟩ := Z2 (w0 rfl) hd (Z8 rfl hp hq (Zc hz)) h
theorem zcL {u v : Int} (h : Calm P ops H0 KK (kk + 1) rest M ⟨(d, .v (.int .i64 (u - v))) :: T, H, D, n⟩) (hp : ev T p = some (.v (.int .i64 u)) := by rfl) (hq : ev T q = some (.v (.int .i64 v)) := by rfl) (hz : -9223372036854775808 ≤ u - v ∧ u - v ≤ 9223372036854775807 := by first | omega | decide +kernel) (hd : Nat.blt d n = true := by rfl) : Calm P ops H0 KK kk ({ dst := some d, op := .binOp .sub t p q t', type := ty, pos := po, after := af, guard := none } :: rest) M ⟨T, H, D, n⟩ := Za (w0 rfl) hd (Z8 rfl hp hq (Zc hz)) h
theorem Zhc {u v : Int} {g gt : Nat} {gb : Bool} {og : Oper} (h : Calm P ops H0 KK (kk + 1) rest M ⟨(d, .v (.int .i64 (u - v))) :: T, H, D, n⟩) (g1 : ops[g]? = some og := by rfl) (g2 : og.dst = some gt := by rfl) (g3 : lk T gt = some (.v (.bool gb)) := by rfl) (hp : ev T p = some (.v (.int .i64 u)) := by rfl) (hq : ev T q = some (.v (.int .i64 v)) := by rfl) (hz : -9223372036854775808 ≤ u - v ∧ u - v ≤ 9223372036854775807 := by first | omega | decide +kernel) (hd : Nat.blt d n = true := by rfl) : Calm P ops H0 KK kk ({ dst := some d, op := .binOp .sub t p q t', type := ty, pos := po, after := af, guard := some (g, gb) } :: rest) M ⟨T, H, D, n⟩ := Za (wY rfl g1 g2 g3) hd (Z8 rfl hp hq (Zc hz)) h
theorem zgL {u v : Int} {g gt : Nat} {gb : Bool} {og : Oper} (h : AOps P ro ops rest Q ⟨(d, .v (.int .i64 (u - v))) :: T, H, D, n⟩) (g1 : ops[g]? = some og := by rfl) (g2 : og.dst = some gt := by rfl) (g3 : lk T gt = some (.v (.bool gb)) := by rfl) (hp : ev T p = some (.v (.int .i64 u)) := by rfl) (hq : ev T q = some (.v (.int .i64 v)) := by rfl) (hz : -9223372036854775808 ≤ u - v ∧ u - v ≤ 9223372036854775807 := by first | omega | decide +kernel) (hd : Nat.blt d n = true := by rfl) : AOps P ro ops ({ dst := some d, op := .binOp .sub t p q t', type := ty, pos := po, after := af, guard := some (g, gb) } :: rest) Q ⟨T, H, D, n⟩ := Z2 (wY rfl g1 g2 g3) hd (Z8 rfl hp hq (Zc hz)) h
theorem zNt {u : Bool} (h : AOps P ro ops rest Q ⟨(d, .v (.bool (!u))) :: T, H, D, n⟩) (hp : ev T p = some (.v (.bool u)) := by rfl) (hd : Nat.blt d n = true := by rfl) : AOps P ro ops ({ dst := some d, op := .unOp .not t p, type := ty, pos := po, after := af, guard := none } :: rest) Q ⟨T, H, D, n⟩ := Z2 (w0 rfl) hd (Z0h rfl hp) h
theorem Zh1 {u : Bool} (h : Calm P ops H0 KK (kk + 1) rest M ⟨(d, .v (.bool (!u))) :: T, H, D, n⟩) (hp : ev T p = some (.v (.bool u)) := by rfl) (hd : Nat.blt d n = true := by rfl) : Calm P ops H0 KK kk ({ dst := some d, op := .unOp .not t p, type := ty, pos := po, after := af, guard := none } :: rest) M ⟨T, H, D, n⟩ := Za (w0 rfl) hd (Z0h rfl hp) h
theorem Zfu {u : Bool} {g gt : Nat} {gb : Bool} {og : Oper} (h : Calm P ops H0 KK (kk + 1) rest M ⟨(d, .v (.bool (!u))) :: T, H, D, n⟩) (g1 : ops[g]? = some og := by rfl) (g2 : og.dst = some gt := by rfl) (g3 : lk T gt = some (.v (.bool gb)) := by rfl) (hp : ev T p = some (.v (.bool u)) := by rfl) (hd : Nat.blt d n = true := by rfl) : Calm P ops H0 KK kk ({ dst := some d, op := .unOp .not t p, type := ty, pos := po, after := af, guard := some (g, gb) } :: rest) M ⟨T, H, D, n⟩ := Za (wY rfl g1 g2 g3) hd (Z0h rfl hp) h
theorem Zhx {u : Bool} {g gt : Nat} {gb : Bool} {og : Oper} (h : AOps P ro ops rest Q ⟨(d, .v (.bool (!u))) :: T, H, D, n⟩) (g1 : ops[g]? = some og := by rfl) (g2 : og.dst = some gt := by rfl) (g3 : lk T gt = some (.v (.bool gb)) := by rfl) (hp : ev T p = some (.v (.bool u)) := by rfl) (hd : Nat.blt d n = true := by rfl) : AOps P ro ops ({ dst := some d, op := .unOp .not t p, type := ty, pos := po, after := af, guard := some (g, gb) } :: rest) Q ⟨T, H, D, n⟩ := Z2 (wY rfl g1 g2 g3) hd (Z0h rfl hp) h
theorem zPT {c : Operand} (h : AOps P ro ops rest Q ⟨(d, x) :: T, H, D, n⟩) (hc : ev T c = some (.v (.bool true)) := by rfl) (hp : ev T p = some x := by rfl) (hq : ev T q = some y := by rfl) (hd : Nat.blt d n = true := by rfl) : AOps P ro ops ({ dst := some d, op := .pick c p q, type := ty, pos := po, after := af, guard := none } :: rest) Q ⟨T, H, D, n⟩ := Z2 (w0 rfl) hd (Z0x (t := true) rfl hc hp hq) h
theorem Zh3 {c : Operand} (h : Calm P ops H0 KK (kk + 1) rest M ⟨(d, x) :: T, H, D, n⟩) (hc : ev T c = some (.v (.bool true)) := by rfl) (hp : ev T p = some x := by rfl) (hq : ev T q = some y := by rfl) (hd : Nat.blt d n = true := by rfl) : Calm P ops H0 KK kk ({ dst := some d, op := .pick c p q, type := ty, pos := po, after := af, guard := none } :: rest) M ⟨T, H, D, n⟩ := Za (w0 rfl) hd (Z0x (t := true) rfl hc hp hq) h
theorem Zfw {c : Operand} {g gt : Nat} {gb : Bool} {og : Oper} (h : Calm P ops H0 KK (kk + 1) rest M ⟨(d, x) :: T, H, D, n⟩) (g1 : ops[g]? = some og := by rfl) (g2 : og.dst = some gt := by rfl) (g3 : lk T gt = some (.v (.bool gb)) := by rfl) (hc : ev T c = some (.v (.bool true)) := by rfl) (hp : ev T p = some x := by rfl) (hq : ev T q = some y := by rfl) (hd : Nat.blt d n = true := by rfl) : Calm P ops H0 KK kk ({ dst := some d, op := .pick c p q, type := ty, pos := po, after := af, guard := some (g, gb) } :: rest) M ⟨T, H, D, n⟩ := Za (wY rfl g1 g2 g3) hd (Z0x (t := true) rfl hc hp hq) h
theorem Zhz {c : Operand} {g gt : Nat} {gb : Bool} {og : Oper} (h : AOps P ro ops rest Q ⟨(d, x) :: T, H, D, n⟩) (g1 : ops[g]? = some og := by rfl) (g2 : og.dst = some gt := by rfl) (g3 : lk T gt = some (.v (.bool gb)) := by rfl) (hc : ev T c = some (.v (.bool true)) := by rfl) (hp : ev T p = some x := by rfl) (hq : ev T q = some y := by rfl) (hd : Nat.blt d n = true := by rfl) : AOps P ro ops ({ dst := some d, op := .pick c p q, type := ty, pos := po, after := af, guard := some (g, gb) } :: rest) Q ⟨T, H, D, n⟩ := Z2 (wY rfl g1 g2 g3) hd (Z0x (t := true) rfl hc hp hq) h
theorem zPF {c : Operand} (h : AOps P ro ops rest Q ⟨(d, x) :: T, H, D, n⟩) (hc : ev T c = some (.v (.bool false)) := by rfl) (hp : ev T p = some y := by rfl) (hq : ev T q = some x := by rfl) (hd : Nat.blt d n = true := by rfl) : AOps P ro ops ({ dst := some d, op := .pick c p q, type := ty, pos := po, after := af, guard := none } :: rest) Q ⟨T, H, D, n⟩ := Z2 (w0 rfl) hd (Z0x (t := false) rfl hc hp hq) h
theorem Zh2 {c : Operand} (h : Calm P ops H0 KK (kk + 1) rest M ⟨(d, x) :: T, H, D, n⟩) (hc : ev T c = some (.v (.bool false)) := by rfl) (hp : ev T p = some y := by rfl) (hq : ev T q = some x := by rfl) (hd : Nat.blt d n = true := by rfl) : Calm P ops H0 KK kk ({ dst := some d, op := .pick c p q, type := ty, pos := po, after := af, guard := none } :: rest) M ⟨T, H, D, n⟩ := Za (w0 rfl) hd (Z0x (t := false) rfl hc hp hq) h
theorem Zfv {c : Operand} {g gt : Nat} {gb : Bool} {og : Oper} (h : Calm P ops H0 KK (kk + 1) rest M ⟨(d, x) :: T, H, D, n⟩) (g1 : ops[g]? = some og := by rfl) (g2 : og.dst = some gt := by rfl) (g3 : lk T gt = some (.v (.bool gb)) := by rfl) (hc : ev T c = some (.v (.bool false)) := by rfl) (hp : ev T p = some y := by rfl) (hq : ev T q = some x := by rfl) (hd : Nat.blt d n = true := by rfl) : Calm P ops H0 KK kk ({ dst := some d, op := .pick c p q, type := ty, pos := po, after := af, guard := some (g, gb) } :: rest) M ⟨T, H, D, n⟩ := Za (wY rfl g1 g2 g3) hd (Z0x (t := false) rfl hc hp hq) h
theorem Zhy {c : Operand} {g gt : Nat} {gb : Bool} {og : Oper} (h : AOps P ro ops rest Q ⟨(d, x) :: T, H, D, n⟩) (g1 : ops[g]? = some og := by rfl) (g2 : og.dst = some gt := by rfl) (g3 : lk T gt = some (.v (.bool gb)) := by rfl) (hc : ev T c = some (.v (.bool false)) := by rfl) (hp : ev T p = some y := by rfl) (hq : ev T q = some x := by rfl) (hd : Nat.blt d n = true := by rfl) : AOps P ro ops ({ dst := some d, op := .pick c p q, type := ty, pos := po, after := af, guard := some (g, gb) } :: rest) Q ⟨T, H, D, n⟩ := Z2 (wY rfl g1 g2 g3) hd (Z0x (t := false) rfl hc hp hq) h
theorem zLn {td : TypeDesc} {m : Nat} (h : AOps P ro ops rest Q ⟨(d, .v (.int .i64 (m : Int))) :: T, H, D, n⟩) (hp : ev T p = some x := by rfl) (hx : lenA x = some m := by rfl) [hu : UD P t td] (hlt : lenT x td = true := by rfl) (hd : Nat.blt d n = true := by rfl) : AOps P ro ops ({ dst := some d, op := .call { callee := .builtin .len, args := #[p], argTypes := #[t] }, type := ty, pos := po, after := af, guard := none } :: rest) Q ⟨T, H, D, n⟩ := Z2 (w0 rfl) hd (Z45 rfl hp hx hlt) h
theorem Zgz {td : TypeDesc} {m : Nat} (h : Calm P ops H0 KK (kk + 1) rest M ⟨(d, .v (.int .i64 (m : Int))) :: T, H, D, n⟩) (hp : ev T p = some x := by rfl) (hx : lenA x = some m := by rfl) [hu : UD P t td] (hlt : lenT x td = true := by rfl) (hd : Nat.blt d n = true := by rfl) : Calm P ops H0 KK kk ({ dst := some d, op := .call { callee := .builtin .len, args := #[p], argTypes := #[t] }, type := ty, pos := po, after := af, guard := none } :: rest) M ⟨T, H, D, n⟩ := Za (w0 rfl) hd (Z45 rfl hp hx hlt) h
theorem Zfr {td : TypeDesc} {m : Nat} {g gt : Nat} {gb : Bool} {og : Oper} (h : Calm P ops H0 KK (kk + 1) rest M ⟨(d, .v (.int .i64 (m : Int))) :: T, H, D, n⟩) (g1 : ops[g]? = some og := by rfl) (g2 : og.dst = some gt := by rfl) (g3 : lk T gt = some (.v (.bool gb)) := by rfl) (hp : ev T p = some x := by rfl) (hx : lenA x = some m := by rfl) [hu : UD P t td] (hlt : lenT x td = true := by rfl) (hd : Nat.blt d n = true := by rfl) : Calm P ops H0 KK kk ({ dst := some d, op := .call { callee := .builtin .len, args := #[p], argTypes := #[t] }, type := ty, pos := po, after := af, guard := some (g, gb) } :: rest) M ⟨T, H, D, n⟩ := Za (wY rfl g1 g2 g3) hd (Z45 rfl hp hx hlt) h
theorem Zgd {td : TypeDesc} {m : Nat} {g gt : Nat} {gb : Bool} {og : Oper} (h : AOps P ro ops rest Q ⟨(d, .v (.int .i64 (m : Int))) :: T, H, D, n⟩) (g1 : ops[g]? = some og := by rfl) (g2 : og.dst = some gt := by rfl) (g3 : lk T gt = some (.v (.bool gb)) := by rfl) (hp : ev T p = some x := by rfl) (hx : lenA x = some m := by rfl) [hu : UD P t td] (hlt : lenT x td = true := by rfl) (hd : Nat.blt d n = true := by rfl) : AOps P ro ops ({ dst := some d, op := .call { callee := .builtin .len, args := #[p], argTypes := #[t] }, type := ty, pos := po, after := af, guard := some (g, gb) } :: rest) Q ⟨T, H, D, n⟩ := Z2 (wY rfl g1 g2 g3) hd (Z45 rfl hp hx hlt) h
theorem zEq {ks : List CK} {us vs : List AV} (h : AOps P ro ops rest Q ⟨(d, .v (.bool (ceqs us vs))) :: T, H, D, n⟩) (hp : ev T p = some (.agg us) := by rfl) (hq : ev T q = some (.agg vs) := by rfl) [hq' : EQ P t ks] (hx : us.map ckA = ks.map some := by rfl) (hy : vs.map ckA = ks.map some := by rfl) (hd : Nat.blt d n = true := by rfl) : AOps P ro ops ({ dst := some d, op := .binOp .eql t p q t', type := ty, pos := po, after := af, guard := none } :: rest) Q ⟨T, H, D, n⟩ := Z2 (w0 rfl) hd (Z1e rfl hp hq hx hy) h
theorem Zgy {ks : List CK} {us vs : List AV} (h : Calm P ops H0 KK (kk + 1) rest M ⟨(d, .v (.bool (ceqs us vs))) :: T, H, D, n⟩) (hp : ev T p = some (.agg us) := by rfl) (hq : ev T q = some (.agg vs) := by rfl) [hq' : EQ P t ks] (hx : us.map ckA = ks.map some := by rfl) (hy : vs.map ckA = ks.map some := by rfl) (hd : Nat.blt d n = true := by rfl) : Calm P ops H0 KK kk ({ dst := some d, op := .binOp .eql t p q t', type := ty, pos := po, after := af, guard := none } :: rest) M ⟨T, H, D, n⟩ := Za (w0 rfl) hd (Z1e rfl hp hq hx hy) h
theorem Zfq {ks : List CK} {us vs : List AV} {g gt : Nat} {gb : Bool} {og : Oper} (h : Calm P ops H0 KK (kk + 1) rest M ⟨(d, .v (.bool (ceqs us vs))) :: T, H, D, n⟩) (g1 : ops[g]? = some og := by rfl) (g2 : og.dst = some gt := by rfl) (g3 : lk T gt = some (.v (.bool gb)) := by rfl) (hp : ev T p = some (.agg us) := by rfl) (hq : ev T q = some (.agg vs) := by rfl) [hq' : EQ P t ks] (hx : us.map ckA = ks.map some := by rfl) (hy : vs.map ckA = ks.map some := by rfl) (hd : Nat.blt d n = true := by rfl) : Calm P ops H0 KK kk ({ dst := some d, op := .binOp .eql t p q t', type := ty, pos := po, after := af, guard := some (g, gb) } :: rest) M ⟨T, H, D, n⟩ := Za (wY rfl g1 g2 g3) hd (Z1e rfl hp hq hx hy) h
theorem Zhu {ks : List CK} {us vs : List AV} {g gt : Nat} {gb : Bool} {og : Oper} (h : AOps P ro ops rest Q ⟨(d, .v (.bool (ceqs us vs))) :: T, H, D, n⟩) (g1 : ops[g]? = some og := by rfl) (g2 : og.dst = some gt := by rfl) (g3 : lk T gt = some (.v (.bool gb)) := by rfl) (hp : ev T p = some (.agg us) := by rfl) (hq : ev T q = some (.agg vs) := by rfl) [hq' : EQ P t ks] (hx : us.map ckA = ks.map some := by rfl) (hy : vs.map ckA = ks.map some := by rfl) (hd : Nat.blt d n = true := by rfl) : AOps P ro ops ({ dst := some d, op := .binOp .eql t p q t', type := ty, pos := po, after := af, guard := some (g, gb) } :: rest) Q ⟨T, H, D, n⟩ := Z2 (wY rfl g1 g2 g3) hd (Z1e rfl hp hq hx hy) h
theorem Zgm {ks : List CK} {us vs : List AV} (h : AOps P ro ops rest Q ⟨(d, .v (.bool true)) :: T, H, D, n⟩) (hp : ev T p = some (.agg us) := by rfl) (hq : ev T q = some (.agg vs) := by rfl) [hq' : EQ P t ks] (hx : us.map ckA = ks.map some := by rfl) (hy : vs.map ckA = ks.map some := by rfl) (hz : ceqs us vs = true := by decide +kernel) (hd : Nat.blt d n = true := by rfl) : AOps P ro ops ({ dst := some d, op := .binOp .eql t p q t', type := ty, pos := po, after := af, guard := none } :: rest) Q ⟨T, H, D, n⟩ := Z2 (w0 rfl) hd (hz ▸ Z1e rfl hp hq hx hy) h
theorem Zfc {ks : List CK} {us vs : List AV} (h : Calm P ops H0 KK (kk + 1) rest M ⟨(d, .v (.bool true)) :: T, H, D, n⟩) (hp : ev T p = some (.agg us) := by rfl) (hq : ev T q = some (.agg vs) := by rfl) [hq' : EQ P t ks] (hx : us.map ckA = ks.map some := by rfl) (hy : vs.map ckA = ks.map some := by rfl) (hz : ceqs us vs = true := by decide +kernel) (hd : Nat.blt d n = true := by rfl) : Calm P ops H0 KK kk ({ dst := some d, op := .binOp .eql t p q t', type := ty, pos := po, after := af, guard := none } :: rest) M ⟨T, H, D, n⟩ := Za (w0 rfl) hd (hz ▸ Z1e rfl hp hq hx hy) h
theorem Zdr {ks : List CK} {us vs : List AV} {g gt : Nat} {gb : Bool} {og : Oper} (h : Calm P ops H0 KK (kk + 1) rest M ⟨(d, .v (.bool true)) :: T, H, D, n⟩) (g1 : ops[g]? = some og := by rfl) (g2 : og.dst = some gt := by rfl) (g3 : lk T gt = some (.v (.bool gb)) := by rfl) (hp : ev T p = some (.agg us) := by rfl) (hq : ev T q = some (.agg vs) := by rfl) [hq' : EQ P t ks] (hx : us.map ckA = ks.map some := by rfl) (hy : vs.map ckA = ks.map some := by rfl) (hz : ceqs us vs = true := by decide +kernel) (hd : Nat.blt d n = true := by rfl) : Calm P ops H0 KK kk ({ dst := some d, op := .binOp .eql t p q t', type := ty, pos := po, after := af, guard := some (g, gb) } :: rest) M ⟨T, H, D, n⟩ := Za (wY rfl g1 g2 g3) hd (hz ▸ Z1e rfl hp hq hx hy) h
theorem Zg3 {ks : List CK} {us vs : List AV} {g gt : Nat} {gb : Bool} {og : Oper} (h : AOps P ro ops rest Q ⟨(d, .v (.bool true)) :: T, H, D, n⟩) (g1 : ops[g]? = some og := by rfl) (g2 : og.dst = some gt := by rfl) (g3 : lk T gt = some (.v (.bool gb)) := by rfl) (hp : ev T p = some (.agg us) := by rfl) (hq : ev T q = some (.agg vs) := by rfl) [hq' : EQ P t ks] (hx : us.map ckA = ks.map some := by rfl) (hy : vs.map ckA = ks.map some := by rfl) (hz : ceqs us vs = true := by decide +kernel) (hd : Nat.blt d n = true := by rfl) : AOps P ro ops ({ dst := some d, op := .binOp .eql t p q t', type := ty, pos := po, after := af, guard := some (g, gb) } :: rest) Q ⟨T, H, D, n⟩ := Z2 (wY rfl g1 g2 g3) hd (hz ▸ Z1e rfl hp hq hx hy) h
theorem Zgl {ks : List CK} {us vs : List AV} (h : AOps P ro ops rest Q ⟨(d, .v (.bool false)) :: T, H, D, n⟩) (hp : ev T p = some (.agg us) := by rfl) (hq : ev T q = some (.agg vs) := by rfl) [hq' : EQ P t ks] (hx : us.map ckA = ks.map some := by rfl) (hy : vs.map ckA = ks.map some := by rfl) (hz : ceqs us vs = false := by decide +kernel) (hd : Nat.blt d n = true := by rfl) : AOps P ro ops ({ dst := some d, op := .binOp .eql t p q t', type := ty, pos := po, after := af, guard := none } :: rest) Q ⟨T, H, D, n⟩ := Z2 (w0 rfl) hd (hz ▸ Z1e rfl hp hq hx hy) h
theorem Zfb {ks : List CK} {us vs : List AV} (h : Calm P ops H0 KK (kk + 1) rest M ⟨(d, .v (.bool false)) :: T, H, D, n⟩) (hp : ev T p = some (.agg us) := by rfl) (hq : ev T q = some (.agg vs) := by rfl) [hq' : EQ P t ks] (hx : us.map ckA = ks.map some := by rfl) (hy : vs.map ckA = ks.map some := by rfl) (hz : ceqs us vs = false := by decide +kernel) (hd : Nat.blt d n = true := by rfl) : Calm P ops H0 KK kk ({ dst := some d, op := .binOp .eql t p q t', type := ty, pos := po, after := af, guard := none } :: rest) M ⟨T, H, D, n⟩ := Za (w0 rfl) hd (hz ▸ Z1e rfl hp hq hx hy) h
theorem Zdq {ks : List CK} {us vs : List AV} {g gt : Nat} {gb : Bool} {og : Oper} (h : Calm P ops H0 KK (kk + 1) rest M ⟨(d, .v (.bool false)) :: T, H, D, n⟩) (g1 : ops[g]? = some og := by rfl) (g2 : og.dst = some gt := by rfl) (g3 : lk T gt = some (.v (.bool gb)) := by rfl) (hp : ev T p = some (.agg us) := by rfl) (hq : ev T q = some (.agg vs) := by rfl) [hq' : EQ P t ks] (hx : us.map ckA = ks.map some := by rfl) (hy : vs.map ckA = ks.map some := by rfl) (hz : ceqs us vs = false := by decide +kernel) (hd : Nat.blt d n = true := by rfl) : Calm P ops H0 KK kk ({ dst := some d, op := .binOp .eql t p q t', type := ty, pos := po, after := af, guard := some (g, gb) } :: rest) M ⟨T, H, D, n⟩ := Za (wY rfl g1 g2 g3) hd (hz ▸ Z1e rfl hp hq hx hy) h
theorem Zg2 {ks : List CK} {us vs : List AV} {g gt : Nat} {gb : Bool} {og : Oper} (h : AOps P ro ops rest Q ⟨(d, .v (.bool false)) :: T, H, D, n⟩) (g1 : ops[g]? = some og := by rfl) (g2 : og.dst = some gt := by rfl) (g3 : lk T gt = some (.v (.bool gb)) := by rfl) (hp : ev T p = some (.agg us) := by rfl) (hq : ev T q = some (.agg vs) := by rfl) [hq' : EQ P t ks] (hx : us.map ckA = ks.map some := by rfl) (hy : vs.map ckA = ks.map some := by rfl) (hz : ceqs us vs = false := by decide +kernel) (hd : Nat.blt d n = true := by rfl) : AOps P ro ops ({ dst := some d, op := .binOp .eql t p q t', type := ty, pos := po, after := af, guard := some (g, gb) } :: rest) Q ⟨T, H, D, n⟩ := Z2 (wY rfl g1 g2 g3) hd (hz ▸ Z1e rfl hp hq hx hy) h
theorem Zgk {u v : ByteArray} (h : AOps P ro ops rest Q ⟨(d, .v (.string (u ++ v))) :: T, H, D, n⟩) (hp : ev T p = some (.v (.string u)) := by rfl) (hq : ev T q = some (.v (.string v)) := by rfl) (hz : u.size + v.size ≤ 9223372036854775807 := by decide +kernel) (hd : Nat.blt d n = true := by rfl) : AOps P ro ops ({ dst := some d, op := .binOp .add t p q t', type := ty, pos := po, after := af, guard := none } :: rest) Q ⟨T, H, D, n⟩ := Z2 (w0 rfl) hd (Z1y rfl hp hq hz) h
theorem Zfa {u v : ByteArray} (h : Calm P ops H0 KK (kk + 1) rest M ⟨(d, .v (.string (u ++ v))) :: T, H, D, n⟩) (hp : ev T p = some (.v (.string u)) := by rfl) (hq : ev T q = some (.v (.string v)) := by rfl) (hz : u.size + v.size ≤ 9223372036854775807 := by decide +kernel) (hd : Nat.blt d n = true := by rfl) : Calm P ops H0 KK kk ({ dst := some d, op := .binOp .add t p q t', type := ty, pos := po, after := af, guard := none } :: rest) M ⟨T, H, D, n⟩ := Za (w0 rfl) hd (Z1y rfl hp hq hz) h
theorem Zdp {u v : ByteArray} {g gt : Nat} {gb : Bool} {og : Oper} (h : Calm P ops H0 KK (kk + 1) rest M ⟨(d, .v (.string (u ++ v))) :: T, H, D, n⟩) (g1 : ops[g]? = some og := by rfl) (g2 : og.dst = some gt := by rfl) (g3 : lk T gt = some (.v (.bool gb)) := by rfl) (hp : ev T p = some (.v (.string u)) := by rfl) (hq : ev T q = some (.v (.string v)) := by rfl) (hz : u.size + v.size ≤ 9223372036854775807 := by decide +kernel) (hd : Nat.blt d n = true := by rfl) : Calm P ops H0 KK kk ({ dst := some d, op := .binOp .add t p q t', type := ty, pos := po, after := af, guard := some (g, gb) } :: rest) M ⟨T, H, D, n⟩ := Za (wY rfl g1 g2 g3) hd (Z1y rfl hp hq hz) h
theorem Zg1 {u v : ByteArray} {g gt : Nat} {gb : Bool} {og : Oper} (h : AOps P ro ops rest Q ⟨(d, .v (.string (u ++ v))) :: T, H, D, n⟩) (g1 : ops[g]? = some og := by rfl) (g2 : og.dst = some gt := by rfl) (g3 : lk T gt = some (.v (.bool gb)) := by rfl) (hp : ev T p = some (.v (.string u)) := by rfl) (hq : ev T q = some (.v (.string v)) := by rfl) (hz : u.size + v.size ≤ 9223372036854775807 := by decide +kernel) (hd : Nat.blt d n = true := by rfl) : AOps P ro ops ({ dst := some d, op := .binOp .add t p q t', type := ty, pos := po, after := af, guard := some (g, gb) } :: rest) Q ⟨T, H, D, n⟩ := Z2 (wY rfl g1 g2 g3) hd (Z1y rfl hp hq hz) h
theorem zCv {k k' : IntKind} {u : Int} {td : TypeDesc} (h : AOps P ro ops rest Q ⟨(d, .v (.int k' u)) :: T, H, D, n⟩) (hp : ev T p = some (.v (.int k u)) := by rfl) [hu : UD P t td] [hu' : UD P t' (.int k')] (hz : k'.wrap u = u := by first | decide +kernel | rfl) (hd : Nat.blt d n = true := by rfl) : AOps P ro ops ({ dst := some d, op := .convert t t' p, type := ty, pos := po, after := af, guard := none } :: rest) Q ⟨T, H, D, n⟩ := Z2 (w0 rfl) hd (hz.symm ▸ Z01 rfl hp) h
theorem Zgx {k k' : IntKind} {u : Int} {td : TypeDesc} (h : Calm P ops H0 KK (kk + 1) rest M ⟨(d, .v (.int k' u)) :: T, H, D, n⟩) (hp : ev T p = some (.v (.int k u)) := by rfl) [hu : UD P t td] [hu' : UD P t' (.int k')] (hz : k'.wrap u = u := by first | decide +kernel | rfl) (hd : Nat.blt d n = true := by rfl) : Calm P ops H0 KK kk ({ dst := some d, op := .convert t t' p, type := ty, pos := po, after := af, guard := none } :: rest) M ⟨T, H, D, n⟩ := Za (w0 rfl) hd (hz.symm ▸ Z01 rfl hp) h
theorem Zfp {k k' : IntKind} {u : Int} {td : TypeDesc} {g gt : Nat} {gb : Bool} {og : Oper} (h : Calm P ops H0 KK (kk + 1) rest M ⟨(d, .v (.int k' u)) :: T, H, D, n⟩) (g1 : ops[g]? = some og := by rfl) (g2 : og.dst = some gt := by rfl) (g3 : lk T gt = some (.v (.bool gb)) := by rfl) (hp : ev T p = some (.v (.int k u)) := by rfl) [hu : UD P t td] [hu' : UD P t' (.int k')] (hz : k'.wrap u = u := by first | decide +kernel | rfl) (hd : Nat.blt d n = true := by rfl) : Calm P ops H0 KK kk ({ dst := some d, op := .convert t t' p, type := ty, pos := po, after := af, guard := some (g, gb) } :: rest) M ⟨T, H, D, n⟩ := Za (wY rfl g1 g2 g3) hd (hz.symm ▸ Z01 rfl hp) h
theorem Zht {k k' : IntKind} {u : Int} {td : TypeDesc} {g gt : Nat} {gb : Bool} {og : Oper} (h : AOps P ro ops rest Q ⟨(d, .v (.int k' u)) :: T, H, D, n⟩) (g1 : ops[g]? = some og := by rfl) (g2 : og.dst = some gt := by rfl) (g3 : lk T gt = some (.v (.bool gb)) := by rfl) (hp : ev T p = some (.v (.int k u)) := by rfl) [hu : UD P t td] [hu' : UD P t' (.int k')] (hz : k'.wrap u = u := by first | decide +kernel | rfl) (hd : Nat.blt d n = true := by rfl) : AOps P ro ops ({ dst := some d, op := .convert t t' p, type := ty, pos := po, after := af, guard := some (g, gb) } :: rest) Q ⟨T, H, D, n⟩ := Z2 (wY rfl g1 g2 g3) hd (hz.symm ▸ Z01 rfl hp) h
theorem zSx {k : IntKind} {u : ByteArray} {i : Int} (h : AOps P ro ops rest Q ⟨(d, .v (.int .u8 (byteAt u i))) :: T, H, D, n⟩) (hp : ev T p = some (.v (.string u)) := by rfl) (hq : ev T q = some (.v (.int k i)) := by rfl) [hu : UD P t .string] (h0 : 0 ≤ i := by first | decide +kernel | omega) (h1 : i < u.size := by first | decide +kernel | omega) (hd : Nat.blt d n = true := by rfl) : AOps P ro ops ({ dst := some d, op := .index t p q, type := ty, pos := po, after := af, guard := none } :: rest) Q ⟨T, H, D, n⟩ := Z2 (w0 rfl) hd (Z0y rfl hp hq h0 h1) h
theorem Zh4 {k : IntKind} {u : ByteArray} {i : Int} (h : Calm P ops H0 KK (kk + 1) rest M ⟨(d, .v (.int .u8 (byteAt u i))) :: T, H, D, n⟩) (hp : ev T p = some (.v (.string u)) := by rfl) (hq : ev T q = some (.v (.int k i)) := by rfl) [hu : UD P t .string] (h0 : 0 ≤ i := by first | decide +kernel | omega) (h1 : i < u.size := by first | decide +kernel | omega) (hd : Nat.blt d n = true := by rfl) : Calm P ops H0 KK kk ({ dst := some d, op := .index t p q, type := ty, pos := po, after := af, guard := none } :: rest) M ⟨T, H, D, n⟩ := Za (w0 rfl) hd (Z0y rfl hp hq h0 h1) h
theorem Zfx {k : IntKind} {u : ByteArray} {i : Int} {g gt : Nat} {gb : Bool} {og : Oper} (h : Calm P ops H0 KK (kk + 1) rest M ⟨(d, .v (.int .u8 (byteAt u i))) :: T, H, D, n⟩) (g1 : ops[g]? = some og := by rfl) (g2 : og.dst = some gt := by rfl) (g3 : lk T gt = some (.v (.bool gb)) := by rfl) (hp : ev T p = some (.v (.string u)) := by rfl) (hq : ev T q = some (.v (.int k i)) := by rfl) [hu : UD P t .string] (h0 : 0 ≤ i := by first | decide +kernel | omega) (h1 : i < u.size := by first | decide +kernel | omega) (hd : Nat.blt d n = true := by rfl) : Calm P ops H0 KK kk ({ dst := some d, op := .index t p q, type := ty, pos := po, after := af, guard := some (g, gb) } :: rest) M ⟨T, H, D, n⟩ := Za (wY rfl g1 g2 g3) hd (Z0y rfl hp hq h0 h1) h
theorem Zi0 {k : IntKind} {u : ByteArray} {i : Int} {g gt : Nat} {gb : Bool} {og : Oper} (h : AOps P ro ops rest Q ⟨(d, .v (.int .u8 (byteAt u i))) :: T, H, D, n⟩) (g1 : ops[g]? = some og := by rfl) (g2 : og.dst = some gt := by rfl) (g3 : lk T gt = some (.v (.bool gb)) := by rfl) (hp : ev T p = some (.v (.string u)) := by rfl) (hq : ev T q = some (.v (.int k i)) := by rfl) [hu : UD P t .string] (h0 : 0 ≤ i := by first | decide +kernel | omega) (h1 : i < u.size := by first | decide +kernel | omega) (hd : Nat.blt d n = true := by rfl) : AOps P ro ops ({ dst := some d, op := .index t p q, type := ty, pos := po, after := af, guard := some (g, gb) } :: rest) Q ⟨T, H, D, n⟩ := Z2 (wY rfl g1 g2 g3) hd (Z0y rfl hp hq h0 h1) h
theorem zNe {ks : List CK} {us vs : List AV} (h : AOps P ro ops rest Q ⟨(d, .v (.bool (!(ceqs us vs)))) :: T, H, D, n⟩) (hp : ev T p = some (.agg us) := by rfl) (hq : ev T q = some (.agg vs) := by rfl) [hq' : EQ P t ks] (hx : us.map ckA = ks.map some := by rfl) (hy : vs.map ckA = ks.map some := by rfl) (hd : Nat.blt d n = true := by rfl) : AOps P ro ops ({ dst := some d, op := .binOp .neq t p q t', type := ty, pos := po, after := af, guard := none } :: rest) Q ⟨T, H, D, n⟩ := Z2 (w0 rfl) hd (Z52 rfl hp hq hx hy) h
theorem Zh0 {ks : List CK} {us vs : List AV} (h : Calm P ops H0 KK (kk + 1) rest M ⟨(d, .v (.bool (!(ceqs us vs)))) :: T, H, D, n⟩) (hp : ev T p = some (.agg us) := by rfl) (hq : ev T q = some (.agg vs) := by rfl) [hq' : EQ P t ks] (hx : us.map ckA = ks.map some := by rfl) (hy : vs.map ckA = ks.map some := by rfl) (hd : Nat.blt d n = true := by rfl) : Calm P ops H0 KK kk ({ dst := some d, op := .binOp .neq t p q t', type := ty, pos := po, after := af, guard := none } :: rest) M ⟨T, H, D, n⟩ := Za (w0 rfl) hd (Z52 rfl hp hq hx hy) h
theorem Zft {ks : List CK} {us vs : List AV} {g gt : Nat} {gb : Bool} {og : Oper} (h : Calm P ops H0 KK (kk + 1) rest M ⟨(d, .v (.bool (!(ceqs us vs)))) :: T, H, D, n⟩) (g1 : ops[g]? = some og := by rfl) (g2 : og.dst = some gt := by rfl) (g3 : lk T gt = some (.v (.bool gb)) := by rfl) (hp : ev T p = some (.agg us) := by rfl) (hq : ev T q = some (.agg vs) := by rfl) [hq' : EQ P t ks] (hx : us.map ckA = ks.map some := by rfl) (hy : vs.map ckA = ks.map some := by rfl) (hd : Nat.blt d n = true := by rfl) : Calm P ops H0 KK kk ({ dst := some d, op := .binOp .neq t p q t', type := ty, pos := po, after := af, guard := some (g, gb) } :: rest) M ⟨T, H, D, n⟩ := Za (wY rfl g1 g2 g3) hd (Z52 rfl hp hq hx hy) h
theorem Zhw {ks : List CK} {us vs : List AV} {g gt : Nat} {gb : Bool} {og : Oper} (h : AOps P ro ops rest Q ⟨(d, .v (.bool (!(ceqs us vs)))) :: T, H, D, n⟩) (g1 : ops[g]? = some og := by rfl) (g2 : og.dst = some gt := by rfl) (g3 : lk T gt = some (.v (.bool gb)) := by rfl) (hp : ev T p = some (.agg us) := by rfl) (hq : ev T q = some (.agg vs) := by rfl) [hq' : EQ P t ks] (hx : us.map ckA = ks.map some := by rfl) (hy : vs.map ckA = ks.map some := by rfl) (hd : Nat.blt d n = true := by rfl) : AOps P ro ops ({ dst := some d, op := .binOp .neq t p q t', type := ty, pos := po, after := af, guard := some (g, gb) } :: rest) Q ⟨T, H, D, n⟩ := Z2 (wY rfl g1 g2 g3) hd (Z52 rfl hp hq hx hy) h
theorem zX {i : Nat} {cs : List AV} (h : AOps P ro ops rest Q ⟨(d, x) :: T, H, D, n⟩) (hp : ev T p = some (.tup cs) := by rfl) (hx : cs[i]? = some x := by rfl) (hd : Nat.blt d n = true := by rfl) : AOps P ro ops ({ dst := some d, op := .extract p i, type := ty, pos := po, after := af, guard := none } :: rest) Q ⟨T, H, D, n⟩ := Z2 (w0 rfl) hd (Zo rfl hp hx) h
theorem zcX {i : Nat} {cs : List AV} (h : Calm P ops H0 KK (kk + 1) rest M ⟨(d, x) :: T, H, D, n⟩) (hp : ev T p = some (.tup cs) := by rfl) (hx : cs[i]? = some x := by rfl) (hd : Nat.blt d n = true := by rfl) : Calm P ops H0 KK kk ({ dst := some d, op := .extract p i, type := ty, pos := po, after := af, guard := none } :: rest) M ⟨T, H, D, n⟩ := Za (w0 rfl) hd (Zo rfl hp hx) h
theorem Zhg {i : Nat} {cs : List AV} {g gt : Nat} {gb : Bool} {og : Oper} (h : Calm P ops H0 KK (kk + 1) rest M ⟨(d, x) :: T, H, D, n⟩) (g1 : ops[g]? = some og := by rfl) (g2 : og.dst = some gt := by rfl) (g3 : lk T gt = some (.v (.bool gb)) := by rfl) (hp : ev T p = some (.tup cs) := by rfl) (hx : cs[i]? = some x := by rfl) (hd : Nat.blt d n = true := by rfl) : Calm P ops H0 KK kk ({ dst := some d, op := .extract p i, type := ty, pos := po, after := af, guard := some (g, gb) } :: rest) M ⟨T, H, D, n⟩ := Za (wY rfl g1 g2 g3) hd (Zo rfl hp hx) h
theorem zgX {i : Nat} {cs : List AV} {g gt : Nat} {gb : Bool} {og : Oper} (h : AOps P ro ops rest Q ⟨(d, x) :: T, H, D, n⟩) (g1 : ops[g]? = some og := by rfl) (g2 : og.dst = some gt := by rfl) (g3 : lk T gt = some (.v (.bool gb)) := by rfl) (hp : ev T p = some (.tup cs) := by rfl) (hx : cs[i]? = some x := by rfl) (hd : Nat.blt d n = true := by rfl) : AOps P ro ops ({ dst := some d, op := .extract p i, type := ty, pos := po, after := af, guard := some (g, gb) } :: rest) Q ⟨T, H, D, n⟩ := Z2 (wY rfl g1 g2 g3) hd (Zo rfl hp hx) h
theorem zF {f off ft : Nat} (h : AOps P ro ops rest Q ⟨(d, x) :: T, H, D, n⟩) (hp : ev T p = some y := by rfl) [hf : FO P t f off ft] (hz : plus y off = some x := by rfl) (hd : Nat.blt d n = true := by rfl) : AOps P ro ops ({ dst := some d, op := .fieldAddr t p f, type := ty, pos := po, after := af, guard := none } :: rest) Q ⟨T, H, D, n⟩ := Z2 (w0 rfl) hd (Z17 rfl hp hz) h
theorem zcF {f off ft : Nat} (h : Calm P ops H0 KK (kk + 1) rest M ⟨(d, x) :: T, H, D, n⟩) (hp : ev T p = some y := by rfl) [hf : FO P t f off ft] (hz : plus y off = some x := by rfl) (hd : Nat.blt d n = true := by rfl) : Calm P ops H0 KK kk ({ dst := some d, op := .fieldAddr t p f, type := ty, pos := po, after := af, guard := none } :: rest) M ⟨T, H, D, n⟩ := Za (w0 rfl) hd (Z17 rfl hp hz) h
theorem Zh8 {f off ft : Nat} {g gt : Nat} {gb : Bool} {og : Oper} (h : Calm P ops H0 KK (kk + 1) rest M ⟨(d, x) :: T, H, D, n⟩) (g1 : ops[g]? = some og := by rfl) (g2 : og.dst = some gt := by rfl) (g3 : lk T gt = some (.v (.bool gb)) := by rfl) (hp : ev T p = some y := by rfl) [hf : FO P t f off ft] (hz : plus y off = some x := by rfl) (hd : Nat.blt d n = true := by rfl) : Calm P ops H0 KK kk ({ dst := some d, op := .fieldAddr t p f, type := ty, pos := po, after := af, guard := some (g, gb) } :: rest) M ⟨T, H, D, n⟩ := Za (wY rfl g1 g2 g3) hd (Z17 rfl hp hz) h
theorem zgF {f off ft : Nat} {g gt : Nat} {gb : Bool} {og : Oper} (h : AOps P ro ops rest Q ⟨(d, x) :: T, H, D, n⟩) (g1 : ops[g]? = some og := by rfl) (g2 : og.dst = some gt := by rfl) (g3 : lk T gt = some (.v (.bool gb)) := by rfl) (hp : ev T p = some y := by rfl) [hf : FO P t f off ft] (hz : plus y off = some x := by rfl) (hd : Nat.blt d n = true := by rfl) : AOps P ro ops ({ dst := some d, op := .fieldAddr t p f, type := ty, pos := po, after := af, guard := some (g, gb) } :: rest) Q ⟨T, H, D, n⟩ := Z2 (wY rfl g1 g2 g3) hd (Z17 rfl hp hz) h
theorem zNc  (h : AOps P ro ops rest Q ⟨(d, x) :: T, H, D, n⟩) (hp : ev T p = some x := by rfl) (hx : isPtr x = true := by rfl) (hd : Nat.blt d n = true := by rfl) : AOps P ro ops ({ dst := some d, op := .nilCheck p, type := ty, pos := po, after := af, guard := none } :: rest) Q ⟨T, H, D, n⟩ := Z2 (w0 rfl) hd (Z09 rfl hp hx) h
theorem Zgc  (h : Calm P ops H0 KK (kk + 1) rest M ⟨(d, x) :: T, H, D, n⟩) (hp : ev T p = some x := by rfl) (hx : isPtr x = true := by rfl) (hd : Nat.blt d n = true := by rfl) : Calm P ops H0 KK kk ({ dst := some d, op := .nilCheck p, type := ty, pos := po, after := af, guard := none } :: rest) M ⟨T, H, D, n⟩ := Za (w0 rfl) hd (Z09 rfl hp hx) h
theorem Zfs  {g gt : Nat} {gb : Bool} {og : Oper} (h : Calm P ops H0 KK (kk + 1) rest M ⟨(d, x) :: T, H, D, n⟩) (g1 : ops[g]? = some og := by rfl) (g2 : og.dst = some gt := by rfl) (g3 : lk T gt = some (.v (.bool gb)) := by rfl) (hp : ev T p = some x := by rfl) (hx : isPtr x = true := by rfl) (hd : Nat.blt d n = true := by rfl) : Calm P ops H0 KK kk ({ dst := some d, op := .nilCheck p, type := ty, pos := po, after := af, guard := some (g, gb) } :: rest) M ⟨T, H, D, n⟩ := Za (wY rfl g1 g2 g3) hd (Z09 rfl hp hx) h
theorem Zhv  {g gt : Nat} {gb : Bool} {og : Oper} (h : AOps P ro ops rest Q ⟨(d, x) :: T, H, D, n⟩) (g1 : ops[g]? = some og := by rfl) (g2 : og.dst = some gt := by rfl) (g3 : lk T gt = some (.v (.bool gb)) := by rfl) (hp : ev T p = some x := by rfl) (hx : isPtr x = true := by rfl) (hd : Nat.blt d n = true := by rfl) : AOps P ro ops ({ dst := some d, op := .nilCheck p, type := ty, pos := po, after := af, guard := some (g, gb) } :: rest) Q ⟨T, H, D, n⟩ := Z2 (wY rfl g1 g2 g3) hd (Z09 rfl hp hx) h
theorem zB1 [tk : TK P t true 1] {c1 : AV} {pl : List (Nat × Nat)} {zs : List Value} {ps : Array (Nat × Operand)} {xs : List AV} (h : AOps P ro ops rest Q ⟨(d, .agg [c1]) :: T, H, D, n⟩) (hxs : evs T (ps.toList.map Prod.snd) = some xs := by rfl) [hl : PL P t pl] [hz : ZC P t zs] (hc : fillA (fun i => pl[i]?) (zs.map .v) ((ps.toList.map Prod.fst).zip xs) = some [c1] := by rfl) (hd : Nat.blt d n = true := by rfl) : AOps P ro ops ({ dst := some d, op := .build t ps, type := ty, pos := po, after := af, guard := none } :: rest) Q ⟨T, H, D, n⟩ := Z2 (w0 rfl) hd (Z00 rfl hxs hc) h
theorem Zgn [tk : TK P t true 1] {c1 : AV} {pl : List (Nat × Nat)} {zs : List Value} {ps : Array (Nat × Operand)} {xs : List AV} (h : Calm P ops H0 KK (kk + 1) rest M ⟨(d, .agg [c1]) :: T, H, D, n⟩) (hxs : evs T (ps.toList.map Prod.snd) = some xs := by rfl) [hl : PL P t pl] [hz : ZC P t zs] (hc : fillA (fun i => pl[i]?) (zs.map .v) ((ps.toList.map Prod.fst).zip xs) = some [c1] := by rfl) (hd : Nat.blt d n = true := by rfl) : Calm P ops H0 KK kk ({ dst := some d, op := .build t ps, type := ty, pos := po, after := af, guard := none } :: rest) M ⟨T, H, D, n⟩ := Za (w0 rfl) hd (Z00 rfl hxs hc) h
theorem Zfd [tk : TK P t true 1] {c1 : AV} {pl : List (Nat × Nat)} {zs : List Value} {ps : Array (Nat × Operand)} {xs : List AV} {g gt : Nat} {gb : Bool} {og : Oper} (h : Calm P ops H0 KK (kk + 1) rest M ⟨(d, .agg [c1]) :: T, H, D, n⟩) (g1 : ops[g]? = some og := by rfl) (g2 : og.dst = some gt := by rfl) (g3 : lk T gt = some (.v (.bool gb)) := by rfl) (hxs : evs T (ps.toList.map Prod.snd) = some xs := by rfl) [hl : PL P t pl] [hz : ZC P t zs] (hc : fillA (fun i => pl[i]?) (zs.map .v) ((ps.toList.map Prod.fst).zip xs) = some [c1] := by rfl) (hd : Nat.blt d n = true := by rfl) : Calm P ops H0 KK kk ({ dst := some d, op := .build t ps, type := ty, pos := po, after := af, guard := some (g, gb) } :: rest) M ⟨T, H, D, n⟩ := Za (wY rfl g1 g2 g3) hd (Z00 rfl hxs hc) h
theorem Zhh [tk : TK P t true 1] {c1 : AV} {pl : List (Nat × Nat)} {zs : List Value} {ps : Array (Nat × Operand)} {xs : List AV} {g gt : Nat} {gb : Bool} {og : Oper} (h : AOps P ro ops rest Q ⟨(d, .agg [c1]) :: T, H, D, n⟩) (g1 : ops[g]? = some og := by rfl) (g2 : og.dst = some gt := by rfl) (g3 : lk T gt = some (.v (.bool gb)) := by rfl) (hxs : evs T (ps.toList.map Prod.snd) = some xs := by rfl) [hl : PL P t pl] [hz : ZC P t zs] (hc : fillA (fun i => pl[i]?) (zs.map .v) ((ps.toList.map Prod.fst).zip xs) = some [c1] := by rfl) (hd : Nat.blt d n = true := by rfl) : AOps P ro ops ({ dst := some d, op := .build t ps, type := ty, pos := po, after := af, guard := some (g, gb) } :: rest) Q ⟨T, H, D, n⟩ := Z2 (wY rfl g1 g2 g3) hd (Z00 rfl hxs hc) h
theorem zB2 [tk : TK P t true 2] {c1 c2 : AV} {pl : List (Nat × Nat)} {zs : List Value} {ps : Array (Nat × Operand)} {xs : List AV} (h : AOps P ro ops rest Q ⟨(d, .agg [c1, c2]) :: T, H, D, n⟩) (hxs : evs T (ps.toList.map Prod.snd) = some xs := by rfl) [hl : PL P t pl] [hz : ZC P t zs] (hc : fillA (fun i => pl[i]?) (zs.map .v) ((ps.toList.map Prod.fst).zip xs) = some [c1, c2] := by rfl) (hd : Nat.blt d n = true := by rfl) : AOps P ro ops ({ dst := some d, op := .build t ps, type := ty, pos := po, after := af, guard := none } :: rest) Q ⟨T, H, D, n⟩ := Z2 (w0 rfl) hd (Z00 rfl hxs hc) h
theorem Zgo [tk : TK P t true 2] {c1 c2 : AV} {pl : List (Nat × Nat)} {zs : List Value} {ps : Array (Nat × Operand)} {xs : List AV} (h : Calm P ops H0 KK (kk + 1) rest M ⟨(d, .agg [c1, c2]) :: T, H, D, n⟩) (hxs : evs T (ps.toList.map Prod.snd) = some xs := by rfl) [hl : PL P t pl] [hz : ZC P t zs] (hc : fillA (fun i => pl[i]?) (zs.map .v) ((ps.toList.map Prod.fst).zip xs) = some [c1, c2] := by rfl) (hd : Nat.blt d n = true := by rfl) : Calm P ops H0 KK kk ({ dst := some d, op := .build t ps, type := ty, pos := po, after := af, guard := none } :: rest) M ⟨T, H, D, n⟩ := Za (w0 rfl) hd (Z00 rfl hxs hc) h
theorem Zfe [tk : TK P t true 2] {c1 c2 : AV} {pl : List (Nat × Nat)} {zs : List Value} {ps : Array (Nat × Operand)} {xs : List AV} {g gt : Nat} {gb : Bool} {og : Oper} (h : Calm P ops H0 KK (kk + 1) rest M ⟨(d, .agg [c1, c2]) :: T, H, D, n⟩) (g1 : ops[g]? = some og := by rfl) (g2 : og.dst = some gt := by rfl) (g3 : lk T gt = some (.v (.bool gb)) := by rfl) (hxs : evs T (ps.toList.map Prod.snd) = some xs := by rfl) [hl : PL P t pl] [hz : ZC P t zs] (hc : fillA (fun i => pl[i]?) (zs.map .v) ((ps.toList.map Prod.fst).zip xs) = some [c1, c2] := by rfl) (hd : Nat.blt d n = true := by rfl) : Calm P ops H0 KK kk ({ dst := some d, op := .build t ps, type := ty, pos := po, after := af, guard := some (g, gb) } :: rest) M ⟨T, H, D, n⟩ := Za (wY rfl g1 g2 g3) hd (Z00 rfl hxs hc) h
theorem Zhi [tk : TK P t true 2] {c1 c2 : AV} {pl : List (Nat × Nat)} {zs : List Value} {ps : Array (Nat × Operand)} {xs : List AV} {g gt : Nat} {gb : Bool} {og : Oper} (h : AOps P ro ops rest Q ⟨(d, .agg [c1, c2]) :: T, H, D, n⟩) (g1 : ops[g]? = some og := by rfl) (g2 : og.dst = some gt := by rfl) (g3 : lk T gt = some (.v (.bool gb)) := by rfl) (hxs : evs T (ps.toList.map Prod.snd) = some xs := by rfl) [hl : PL P t pl] [hz : ZC P t zs] (hc : fillA (fun i => pl[i]?) (zs.map .v) ((ps.toList.map Prod.fst).zip xs) = some [c1, c2] := by rfl) (hd : Nat.blt d n = true := by rfl) : AOps P ro ops ({ dst := some d, op := .build t ps, type := ty, pos := po, after := af, guard := some (g, gb) } :: rest) Q ⟨T, H, D, n⟩ := Z2 (wY rfl g1 g2 g3) hd (Z00 rfl hxs hc) h
theorem zB3 [tk : TK P t true 3] {c1 c2 c3 : AV} {pl : List (Nat × Nat)} {zs : List Value} {ps : Array (Nat × Operand)} {xs : List AV} (h : AOps P ro ops rest Q ⟨(d, .agg [c1, c2, c3]) :: T, H, D, n⟩) (hxs : evs T (ps.toList.map Prod.snd) = some xs := by rfl) [hl : PL P t pl] [hz : ZC P t zs] (hc : fillA (fun i => pl[i]?) (zs.map .v) ((ps.toList.map Prod.fst).zip xs) = some [c1, c2, c3] := by rfl) (hd : Nat.blt d n = true := by rfl) : AOps P ro ops ({ dst := some d, op := .build t ps, type := ty, pos := po, after := af, guard := none } :: rest) Q ⟨T, H, D, n⟩ := Z2 (w0 rfl) hd (Z00 rfl hxs hc) h
theorem Zg9 [tk : TK P t true 3] {c1 c2 c3 : AV} {pl : List (Nat × Nat)} {zs : List Value} {ps : Array (Nat × Operand)} {xs : List AV} (h : Calm P ops H0 KK (kk + 1) rest M ⟨(d, .agg [c1, c2, c3]) :: T, H, D, n⟩) (hxs : evs T (ps.toList.map Prod.snd) = some xs := by rfl) [hl : PL P t pl] [hz : ZC P t zs] (hc : fillA (fun i => pl[i]?) (zs.map .v) ((ps.toList.map Prod.fst).zip xs) = some [c1, c2, c3] := by rfl) (hd : Nat.blt d n = true := by rfl) : Calm P ops H0 KK kk ({ dst := some d, op := .build t ps, type := ty, pos := po, after := af, guard := none } :: rest) M ⟨T, H, D, n⟩ := Za (w0 rfl) hd (Z00 rfl hxs hc) h
theorem Zff [tk : TK P t true 3] {c1 c2 c3 : AV} {pl : List (Nat × Nat)} {zs : List Value} {ps : Array (Nat × Operand)} {xs : List AV} {g gt : Nat} {gb : Bool} {og : Oper} (h : Calm P ops H0 KK (kk + 1) rest M ⟨(d, .agg [c1, c2, c3]) :: T, H, D, n⟩) (g1 : ops[g]? = some og := by rfl) (g2 : og.dst = some gt := by rfl) (g3 : lk T gt = some (.v (.bool gb)) := by rfl) (hxs : evs T (ps.toList.map Prod.snd) = some xs := by rfl) [hl : PL P t pl] [hz : ZC P t zs] (hc : fillA (fun i => pl[i]?) (zs.map .v) ((ps.toList.map Prod.fst).zip xs) = some [c1, c2, c3] := by rfl) (hd : Nat.blt d n = true := by rfl) : Calm P ops H0 KK kk ({ dst := some d, op := .build t ps, type := ty, pos := po, after := af, guard := some (g, gb) } :: rest) M ⟨T, H, D, n⟩ := Za (wY rfl g1 g2 g3) hd (Z00 rfl hxs hc) h
theorem Zhj [tk : TK P t true 3] {c1 c2 c3 : AV} {pl : List (Nat × Nat)} {zs : List Value} {ps : Array (Nat × Operand)} {xs : List AV} {g gt : Nat} {gb : Bool} {og : Oper} (h : AOps P ro ops rest Q ⟨(d, .agg [c1, c2, c3]) :: T, H, D, n⟩) (g1 : ops[g]? = some og := by rfl) (g2 : og.dst = some gt := by rfl) (g3 : lk T gt = some (.v (.bool gb)) := by rfl) (hxs : evs T (ps.toList.map Prod.snd) = some xs := by rfl) [hl : PL P t pl] [hz : ZC P t zs] (hc : fillA (fun i => pl[i]?) (zs.map .v) ((ps.toList.map Prod.fst).zip xs) = some [c1, c2, c3] := by rfl) (hd : Nat.blt d n = true := by rfl) : AOps P ro ops ({ dst := some d, op := .build t ps, type := ty, pos := po, after := af, guard := some (g, gb) } :: rest) Q ⟨T, H, D, n⟩ := Z2 (wY rfl g1 g2 g3) hd (Z00 rfl hxs hc) h
theorem zB4 [tk : TK P t true 4] {c1 c2 c3 c4 : AV} {pl : List (Nat × Nat)} {zs : List Value} {ps : Array (Nat × Operand)} {xs : List AV} (h : AOps P ro ops rest Q ⟨(d, .agg [c1, c2, c3, c4]) :: T, H, D, n⟩) (hxs : evs T (ps.toList.map Prod.snd) = some xs := by rfl) [hl : PL P t pl] [hz : ZC P t zs] (hc : fillA (fun i => pl[i]?) (zs.map .v) ((ps.toList.map Prod.fst).zip xs) = some [c1, c2, c3, c4] := by rfl) (hd : Nat.blt d n = true := by rfl) : AOps P ro ops ({ dst := some d, op := .build t ps, type := ty, pos := po, after := af, guard := none } :: rest) Q ⟨T, H, D, n⟩ := Z2 (w0 rfl) hd (Z00 rfl hxs hc) h
theorem Zgp [tk : TK P t true 4] {c1 c2 c3 c4 : AV} {pl : List (Nat × Nat)} {zs : List Value} {ps : Array (Nat × Operand)} {xs : List AV} (h : Calm P ops H0 KK (kk + 1) rest M ⟨(d, .agg [c1, c2, c3, c4]) :: T, H, D, n⟩) (hxs : evs T (ps.toList.map Prod.snd) = some xs := by rfl) [hl : PL P t pl] [hz : ZC P t zs] (hc : fillA (fun i => pl[i]?) (zs.map .v) ((ps.toList.map Prod.fst).zip xs) = some [c1, c2, c3, c4] := by rfl) (hd : Nat.blt d n = true := by rfl) : Calm P ops H0 KK kk ({ dst := some d, op := .build t ps, type := ty, pos := po, after := af, guard := none } :: rest) M ⟨T, H, D, n⟩ := Za (w0 rfl) hd (Z00 rfl hxs hc) h
theorem Zfg [tk : TK P t true 4] {c1 c2 c3 c4 : AV} {pl : List (Nat × Nat)} {zs : List Value} {ps : Array (Nat × Operand)} {xs : List AV} {g gt : Nat} {gb : Bool} {og : Oper} (h : Calm P ops H0 KK (kk + 1) rest M ⟨(d, .agg [c1, c2, c3, c4]) :: T, H, D, n⟩) (g1 : ops[g]? = some og := by rfl) (g2 : og.dst = some gt := by rfl) (g3 : lk T gt = some (.v (.bool gb)) := by rfl) (hxs : evs T (ps.toList.map Prod.snd) = some xs := by rfl) [hl : PL P t pl] [hz : ZC P t zs] (hc : fillA (fun i => pl[i]?) (zs.map .v) ((ps.toList.map Prod.fst).zip xs) = some [c1, c2, c3, c4] := by rfl) (hd : Nat.blt d n = true := by rfl) : Calm P ops H0 KK kk ({ dst := some d, op := .build t ps, type := ty, pos := po, after := af, guard := some (g, gb) } :: rest) M ⟨T, H, D, n⟩ := Za (wY rfl g1 g2 g3) hd (Z00 rfl hxs hc) h
theorem Zhk [tk : TK P t true 4] {c1 c2 c3 c4 : AV} {pl : List (Nat × Nat)} {zs : List Value} {ps : Array (Nat × Operand)} {xs : List AV} {g gt : Nat} {gb : Bool} {og : Oper} (h : AOps P ro ops rest Q ⟨(d, .agg [c1, c2, c3, c4]) :: T, H, D, n⟩) (g1 : ops[g]? = some og := by rfl) (g2 : og.dst = some gt := by rfl) (g3 : lk T gt = some (.v (.bool gb)) := by rfl) (hxs : evs T (ps.toList.map Prod.snd) = some xs := by rfl) [hl : PL P t pl] [hz : ZC P t zs] (hc : fillA (fun i => pl[i]?) (zs.map .v) ((ps.toList.map Prod.fst).zip xs) = some [c1, c2, c3, c4] := by rfl) (hd : Nat.blt d n = true := by rfl) : AOps P ro ops ({ dst := some d, op := .build t ps, type := ty, pos := po, after := af, guard := some (g, gb) } :: rest) Q ⟨T, H, D, n⟩ := Z2 (wY rfl g1 g2 g3) hd (Z00 rfl hxs hc) h
theorem zB5 [tk : TK P t true 5] {c1 c2 c3 c4 c5 : AV} {pl : List (Nat × Nat)} {zs : List Value} {ps : Array (Nat × Operand)} {xs : List AV} (h : AOps P ro ops rest Q ⟨(d, .agg [c1, c2, c3, c4, c5]) :: T, H, D, n⟩) (hxs : evs T (ps.toList.map Prod.snd) = some xs := by rfl) [hl : PL P t pl] [hz : ZC P t zs] (hc : fillA (fun i => pl[i]?) (zs.map .v) ((ps.toList.map Prod.fst).zip xs) = some [c1, c2, c3, c4, c5] := by rfl) (hd : Nat.blt d n = true := by rfl) : AOps P ro ops ({ dst := some d, op := .build t ps, type := ty, pos := po, after := af, guard := none } :: rest) Q ⟨T, H, D, n⟩ := Z2 (w0 rfl) hd (Z00 rfl hxs hc) h
theorem Zgq [tk : TK P t true 5] {c1 c2 c3 c4 c5 : AV} {pl : List (Nat × Nat)} {zs : List Value} {ps : Array (Nat × Operand)} {xs : List AV} (h : Calm P ops H0 KK (kk + 1) rest M ⟨(d, .agg [c1, c2, c3, c4, c5]) :: T, H, D, n⟩) (hxs : evs T (ps.toList.map Prod.snd) = some xs := by rfl) [hl : PL P t pl] [hz : ZC P t zs] (hc : fillA (fun i => pl[i]?) (zs.map .v) ((ps.toList.map Prod.fst).zip xs) = some [c1, c2, c3, c4, c5] := by rfl) (hd : Nat.blt d n = true := by rfl) : Calm P ops H0 KK kk ({ dst := some d, op := .build t ps, type := ty, pos := po, after := af, guard := none } :: rest) M ⟨T, H, D, n⟩ := Za (w0 rfl) hd (Z00 rfl hxs hc) h
theorem Zfh [tk : TK P t true 5] {c1 c2 c3 c4 c5 : AV} {pl : List (Nat × Nat)} {zs : List Value} {ps : Array (Nat × Operand)} {xs : List AV} {g gt : Nat} {gb : Bool} {og : Oper} (h : Calm P ops H0 KK (kk + 1) rest M ⟨(d, .agg [c1, c2, c3, c4, c5]) :: T, H, D, n⟩) (g1 : ops[g]? = some og := by rfl) (g2 : og.dst = some gt := by rfl) (g3 : lk T gt = some (.v (.bool gb)) := by rfl) (hxs : evs T (ps.toList.map Prod.snd) = some xs := by rfl) [hl : PL P t pl] [hz : ZC P t zs] (hc : fillA (fun i => pl[i]?) (zs.map .v) ((ps.toList.map Prod.fst).zip xs) = some [c1, c2, c3, c4, c5] := by rfl) (hd : Nat.blt d n = true := by rfl) : Calm P ops H0 KK kk ({ dst := some d, op := .build t ps, type := ty, pos := po, after := af, guard := some (g, gb) } :: rest) M ⟨T, H, D, n⟩ := Za (wY rfl g1 g2 g3) hd (Z00 rfl hxs hc) h
theorem Zhl [tk : TK P t true 5] {c1 c2 c3 c4 c5 : AV} {pl : List (Nat × Nat)} {zs : List Value} {ps : Array (Nat × Operand)} {xs : List AV} {g gt : Nat} {gb : Bool} {og : Oper} (h : AOps P ro ops rest Q ⟨(d, .agg [c1, c2, c3, c4, c5]) :: T, H, D, n⟩) (g1 : ops[g]? = some og := by rfl) (g2 : og.dst = some gt := by rfl) (g3 : lk T gt = some (.v (.bool gb)) := by rfl) (hxs : evs T (ps.toList.map Prod.snd) = some xs := by rfl) [hl : PL P t pl] [hz : ZC P t zs] (hc : fillA (fun i => pl[i]?) (zs.map .v) ((ps.toList.map Prod.fst).zip xs) = some [c1, c2, c3, c4, c5] := by rfl) (hd : Nat.blt d n = true := by rfl) : AOps P ro ops ({ dst := some d, op := .build t ps, type := ty, pos := po, after := af, guard := some (g, gb) } :: rest) Q ⟨T, H, D, n⟩ := Z2 (wY rfl g1 g2 g3) hd (Z00 rfl hxs hc) h
theorem zB7 [tk : TK P t true 7] {c1 c2 c3 c4 c5 c6 c7 : AV} {pl : List (Nat × Nat)} {zs : List Value} {ps : Array (Nat × Operand)} {xs : List AV} (h : AOps P ro ops rest Q ⟨(d, .agg [c1, c2, c3, c4, c5, c6, c7]) :: T, H, D, n⟩) (hxs : evs T (ps.toList.map Prod.snd) = some xs := by rfl) [hl : PL P t pl] [hz : ZC P t zs] (hc : fillA (fun i => pl[i]?) (zs.map .v) ((ps.toList.map Prod.fst).zip xs) = some [c1, c2, c3, c4, c5, c6, c7] := by rfl) (hd : Nat.blt d n = true := by rfl) : AOps P ro ops ({ dst := some d, op := .build t ps, type := ty, pos := po, after := af, guard := none } :: rest) Q ⟨T, H, D, n⟩ := Z2 (w0 rfl) hd (Z00 rfl hxs hc) h
theorem Zgr [tk : TK P t true 7] {c1 c2 c3 c4 c5 c6 c7 : AV} {pl : List (Nat × Nat)} {zs : List Value} {ps : Array (Nat × Operand)} {xs : List AV} (h : Calm P ops H0 KK (kk + 1) rest M ⟨(d, .agg [c1, c2, c3, c4, c5, c6, c7]) :: T, H, D, n⟩) (hxs : evs T (ps.toList.map Prod.snd) = some xs := by rfl) [hl : PL P t pl] [hz : ZC P t zs] (hc : fillA (fun i => pl[i]?) (zs.map .v) ((ps.toList.map Prod.fst).zip xs) = some [c1, c2, c3, c4, c5, c6, c7] := by rfl) (hd : Nat.blt d n = true := by rfl) : Calm P ops H0 KK kk ({ dst := some d, op := .build t ps, type := ty, pos := po, after := af, guard := none } :: rest) M ⟨T, H, D, n⟩ := Za (w0 rfl) hd (Z00 rfl hxs hc) h
theorem Zfi [tk : TK P t true 7] {c1 c2 c3 c4 c5 c6 c7 : AV} {pl : List (Nat × Nat)} {zs : List Value} {ps : Array (Nat × Operand)} {xs : List AV} {g gt : Nat} {gb : Bool} {og : Oper} (h : Calm P ops H0 KK (kk + 1) rest M ⟨(d, .agg [c1, c2, c3, c4, c5, c6, c7]) :: T, H, D, n⟩) (g1 : ops[g]? = some og := by rfl) (g2 : og.dst = some gt := by rfl) (g3 : lk T gt = some (.v (.bool gb)) := by rfl) (hxs : evs T (ps.toList.map Prod.snd) = some xs := by rfl) [hl : PL P t pl] [hz : ZC P t zs] (hc : fillA (fun i => pl[i]?) (zs.map .v) ((ps.toList.map Prod.fst).zip xs) = some [c1, c2, c3, c4, c5, c6, c7] := by rfl) (hd : Nat.blt d n = true := by rfl) : Calm P ops H0 KK kk ({ dst := some d, op := .build t ps, type := ty, pos := po, after := af, guard := some (g, gb) } :: rest) M ⟨T, H, D, n⟩ := Za (wY rfl g1 g2 g3) hd (Z00 rfl hxs hc) h
theorem Zhm [tk : TK P t true 7] {c1 c2 c3 c4 c5 c6 c7 : AV} {pl : List (Nat × Nat)} {zs : List Value} {ps : Array (Nat × Operand)} {xs : List AV} {g gt : Nat} {gb : Bool} {og : Oper} (h : AOps P ro ops rest Q ⟨(d, .agg [c1, c2, c3, c4, c5, c6, c7]) :: T, H, D, n⟩) (g1 : ops[g]? = some og := by rfl) (g2 : og.dst = some gt := by rfl) (g3 : lk T gt = some (.v (.bool gb)) := by rfl) (hxs : evs T (ps.toList.map Prod.snd) = some xs := by rfl) [hl : PL P t pl] [hz : ZC P t zs] (hc : fillA (fun i => pl[i]?) (zs.map .v) ((ps.toList.map Prod.fst).zip xs) = some [c1, c2, c3, c4, c5, c6, c7] := by rfl) (hd : Nat.blt d n = true := by rfl) : AOps P ro ops ({ dst := some d, op := .build t ps, type := ty, pos := po, after := af, guard := some (g, gb) } :: rest) Q ⟨T, H, D, n⟩ := Z2 (wY rfl g1 g2 g3) hd (Z00 rfl hxs hc) h
theorem zB9 [tk : TK P t true 9] {c1 c2 c3 c4 c5 c6 c7 c8 c9 : AV} {pl : List (Nat × Nat)} {zs : List Value} {ps : Array (Nat × Operand)} {xs : List AV} (h : AOps P ro ops rest Q ⟨(d, .agg [c1, c2, c3, c4, c5, c6, c7, c8, c9]) :: T, H, D, n⟩) (hxs : evs T (ps.toList.map Prod.snd) = some xs := by rfl) [hl : PL P t pl] [hz : ZC P t zs] (hc : fillA (fun i => pl[i]?) (zs.map .v) ((ps.toList.map Prod.fst).zip xs) = some [c1, c2, c3, c4, c5, c6, c7, c8, c9] := by rfl) (hd : Nat.blt d n = true := by rfl) : AOps P ro ops ({ dst := some d, op := .build t ps, type := ty, pos := po, after := af, guard := none } :: rest) Q ⟨T, H, D, n⟩ := Z2 (w0 rfl) hd (Z00 rfl hxs hc) h
theorem Zgs [tk : TK P t true 9] {c1 c2 c3 c4 c5 c6 c7 c8 c9 : AV} {pl : List (Nat × Nat)} {zs : List Value} {ps : Array (Nat × Operand)} {xs : List AV} (h : Calm P ops H0 KK (kk + 1) rest M ⟨(d, .agg [c1, c2, c3, c4, c5, c6, c7, c8, c9]) :: T, H, D, n⟩) (hxs : evs T (ps.toList.map Prod.snd) = some xs := by rfl) [hl : PL P t pl] [hz : ZC P t zs] (hc : fillA (fun i => pl[i]?) (zs.map .v) ((ps.toList.map Prod.fst).zip xs) = some [c1, c2, c3, c4, c5, c6, c7, c8, c9] := by rfl) (hd : Nat.blt d n = true := by rfl) : Calm P ops H0 KK kk ({ dst := some d, op := .build t ps, type := ty, pos := po, after := af, guard := none } :: rest) M ⟨T, H, D, n⟩ := Za (w0 rfl) hd (Z00 rfl hxs hc) h
theorem Zfj [tk : TK P t true 9] {c1 c2 c3 c4 c5 c6 c7 c8 c9 : AV} {pl : List (Nat × Nat)} {zs : List Value} {ps : Array (Nat × Operand)} {xs : List AV} {g gt : Nat} {gb : Bool} {og : Oper} (h : Calm P ops H0 KK (kk + 1) rest M ⟨(d, .agg [c1, c2, c3, c4, c5, c6, c7, c8, c9]) :: T, H, D, n⟩) (g1 : ops[g]? = some og := by rfl) (g2 : og.dst = some gt := by rfl) (g3 : lk T gt = some (.v (.bool gb)) := by rfl) (hxs : evs T (ps.toList.map Prod.snd) = some xs := by rfl) [hl : PL P t pl] [hz : ZC P t zs] (hc : fillA (fun i => pl[i]?) (zs.map .v) ((ps.toList.map Prod.fst).zip xs) = some [c1, c2, c3, c4, c5, c6, c7, c8, c9] := by rfl) (hd : Nat.blt d n = true := by rfl) : Calm P ops H0 KK kk ({ dst := some d, op := .build t ps, type := ty, pos := po, after := af, guard := some (g, gb) } :: rest) M ⟨T, H, D, n⟩ := Za (wY rfl g1 g2 g3) hd (Z00 rfl hxs hc) h
theorem Zhn [tk : TK P t true 9] {c1 c2 c3 c4 c5 c6 c7 c8 c9 : AV} {pl : List (Nat × Nat)} {zs : List Value} {ps : Array (Nat × Operand)} {xs : List AV} {g gt : Nat} {gb : Bool} {og : Oper} (h : AOps P ro ops rest Q ⟨(d, .agg [c1, c2, c3, c4, c5, c6, c7, c8, c9]) :: T, H, D, n⟩) (g1 : ops[g]? = some og := by rfl) (g2 : og.dst = some gt := by rfl) (g3 : lk T gt = some (.v (.bool gb)) := by rfl) (hxs : evs T (ps.toList.map Prod.snd) = some xs := by rfl) [hl : PL P t pl] [hz : ZC P t zs] (hc : fillA (fun i => pl[i]?) (zs.map .v) ((ps.toList.map Prod.fst).zip xs) = some [c1, c2, c3, c4, c5, c6, c7, c8, c9] := by rfl) (hd : Nat.blt d n = true := by rfl) : AOps P ro ops ({ dst := some d, op := .build t ps, type := ty, pos := po, after := af, guard := some (g, gb) } :: rest) Q ⟨T, H, D, n⟩ := Z2 (wY rfl g1 g2 g3) hd (Z00 rfl hxs hc) h
theorem Zgj [tk : TK P t true 10] {c1 c2 c3 c4 c5 c6 c7 c8 c9 c10 : AV} {pl : List (Nat × Nat)} {zs : List Value} {ps : Array (Nat × Operand)} {xs : List AV} (h : AOps P ro ops rest Q ⟨(d, .agg [c1, c2, c3, c4, c5, c6, c7, c8, c9, c10]) :: T, H, D, n⟩) (hxs : evs T (ps.toList.map Prod.snd) = some xs := by rfl) [hl : PL P t pl] [hz : ZC P t zs] (hc : fillA (fun i => pl[i]?) (zs.map .v) ((ps.toList.map Prod.fst).zip xs) = some [c1, c2, c3, c4, c5, c6, c7, c8, c9, c10] := by rfl) (hd : Nat.blt d n = true := by rfl) : AOps P ro ops ({ dst := some d, op := .build t ps, type := ty, pos := po, after := af, guard := none } :: rest) Q ⟨T, H, D, n⟩ := Z2 (w0 rfl) hd (Z00 rfl hxs hc) h
theorem Zf9 [tk : TK P t true 10] {c1 c2 c3 c4 c5 c6 c7 c8 c9 c10 : AV} {pl : List (Nat × Nat)} {zs : List Value} {ps : Array (Nat × Operand)} {xs : List AV} (h : Calm P ops H0 KK (kk + 1) rest M ⟨(d, .agg [c1, c2, c3, c4, c5, c6, c7, c8, c9, c10]) :: T, H, D, n⟩) (hxs : evs T (ps.toList.map Prod.snd) = some xs := by rfl) [hl : PL P t pl] [hz : ZC P t zs] (hc : fillA (fun i => pl[i]?) (zs.map .v) ((ps.toList.map Prod.fst).zip xs) = some [c1, c2, c3, c4, c5, c6, c7, c8, c9, c10] := by rfl) (hd : Nat.blt d n = true := by rfl) : Calm P ops H0 KK kk ({ dst := some d, op := .build t ps, type := ty, pos := po, after := af, guard := none } :: rest) M ⟨T, H, D, n⟩ := Za (w0 rfl) hd (Z00 rfl hxs hc) h
theorem Zdo [tk : TK P t true 10] {c1 c2 c3 c4 c5 c6 c7 c8 c9 c10 : AV} {pl : List (Nat × Nat)} {zs : List Value} {ps : Array (Nat × Operand)} {xs : List AV} {g gt : Nat} {gb : Bool} {og : Oper} (h : Calm P ops H0 KK (kk + 1) rest M ⟨(d, .agg [c1, c2, c3, c4, c5, c6, c7, c8, c9, c10]) :: T, H, D, n⟩) (g1 : ops[g]? = some og := by rfl) (g2 : og.dst = some gt := by rfl) (g3 : lk T gt = some (.v (.bool gb)) := by rfl) (hxs : evs T (ps.toList.map Prod.snd) = some xs := by rfl) [hl : PL P t pl] [hz : ZC P t zs] (hc : fillA (fun i => pl[i]?) (zs.map .v) ((ps.toList.map Prod.fst).zip xs) = some [c1, c2, c3, c4, c5, c6, c7, c8, c9, c10] := by rfl) (hd : Nat.blt d n = true := by rfl) : Calm P ops H0 KK kk ({ dst := some d, op := .build t ps, type := ty, pos := po, after := af, guard := some (g, gb) } :: rest) M ⟨T, H, D, n⟩ := Za (wY rfl g1 g2 g3) hd (Z00 rfl hxs hc) h
theorem Zg0 [tk : TK P t true 10] {c1 c2 c3 c4 c5 c6 c7 c8 c9 c10 : AV} {pl : List (Nat × Nat)} {zs : List Value} {ps : Array (Nat × Operand)} {xs : List AV} {g gt : Nat} {gb : Bool} {og : Oper} (h : AOps P ro ops rest Q ⟨(d, .agg [c1, c2, c3, c4, c5, c6, c7, c8, c9, c10]) :: T, H, D, n⟩) (g1 : ops[g]? = some og := by rfl) (g2 : og.dst = some gt := by rfl) (g3 : lk T gt = some (.v (.bool gb)) := by rfl) (hxs : evs T (ps.toList.map Prod.snd) = some xs := by rfl) [hl : PL P t pl] [hz : ZC P t zs] (hc : fillA (fun i => pl[i]?) (zs.map .v) ((ps.toList.map Prod.fst).zip xs) = some [c1, c2, c3, c4, c5, c6, c7, c8, c9, c10] := by rfl) (hd : Nat.blt d n = true := by rfl) : AOps P ro ops ({ dst := some d, op := .build t ps, type := ty, pos := po, after := af, guard := some (g, gb) } :: rest) Q ⟨T, H, D, n⟩ := Z2 (wY rfl g1 g2 g3) hd (Z00 rfl hxs hc) h
theorem zC0 {ats : Array TypeId} {f : Nat} (h : AOps P ro ops rest Q ⟨(d, x) :: T, H, D, n⟩)  [hc : Con P f [] x] (hd : Nat.blt d n = true := by rfl) : AOps P ro ops ({ dst := some d, op := .call { callee := .value (.func f), args := #[], argTypes := ats }, type := ty, pos := po, after := af, guard := none } :: rest) Q ⟨T, H, D, n⟩ := Z2 (w0 rfl) hd (Zv (caps := []) [] rfl rfl Z0a hc.c List.nodup_nil) h
theorem Zgt {ats : Array TypeId} {f : Nat} (h : Calm P ops H0 KK (kk + 1) rest M ⟨(d, x) :: T, H, D, n⟩)  [hc : Con P f [] x] (hd : Nat.blt d n = true := by rfl) : Calm P ops H0 KK kk ({ dst := some d, op := .call { callee := .value (.func f), args := #[], argTypes := ats }, type := ty, pos := po, after := af, guard := none } :: rest) M ⟨T, H, D, n⟩ := Za (w0 rfl) hd (Zv (caps := []) [] rfl rfl Z0a hc.c List.nodup_nil) h
theorem Zfk {ats : Array TypeId} {f : Nat} {g gt : Nat} {gb : Bool} {og : Oper} (h : Calm P ops H0 KK (kk + 1) rest M ⟨(d, x) :: T, H, D, n⟩) (g1 : ops[g]? = some og := by rfl) (g2 : og.dst = some gt := by rfl) (g3 : lk T gt = some (.v (.bool gb)) := by rfl)  [hc : Con P f [] x] (hd : Nat.blt d n = true := by rfl) : Calm P ops H0 KK kk ({ dst := some d, op := .call { callee := .value (.func f), args := #[], argTypes := ats }, type := ty, pos := po, after := af, guard := some (g, gb) } :: rest) M ⟨T, H, D, n⟩ := Za (wY rfl g1 g2 g3) hd (Zv (caps := []) [] rfl rfl Z0a hc.c List.nodup_nil) h
theorem Zho {ats : Array TypeId} {f : Nat} {g gt : Nat} {gb : Bool} {og : Oper} (h : AOps P ro ops rest Q ⟨(d, x) :: T, H, D, n⟩) (g1 : ops[g]? = some og := by rfl) (g2 : og.dst = some gt := by rfl) (g3 : lk T gt = some (.v (.bool gb)) := by rfl)  [hc : Con P f [] x] (hd : Nat.blt d n = true := by rfl) : AOps P ro ops ({ dst := some d, op := .call { callee := .value (.func f), args := #[], argTypes := ats }, type := ty, pos := po, after := af, guard := some (g, gb) } :: rest) Q ⟨T, H, D, n⟩ := Z2 (wY rfl g1 g2 g3) hd (Zv (caps := []) [] rfl rfl Z0a hc.c List.nodup_nil) h
theorem zC1 {ats : Array TypeId} {f : Nat} {p1 : Operand} {x1 : AV} (h : AOps P ro ops rest Q ⟨(d, x) :: T, H, D, n⟩) (h1 : ev T p1 = some x1 := by rfl) [hc : Con P f [x1] x] (hd : Nat.blt d n = true := by rfl) : AOps P ro ops ({ dst := some d, op := .call { callee := .value (.func f), args := #[p1], argTypes := ats }, type := ty, pos := po, after := af, guard := none } :: rest) Q ⟨T, H, D, n⟩ := Z2 (w0 rfl) hd (Zv (caps := []) [] rfl rfl (Zj h1 Z0a) hc.c List.nodup_nil) h
theorem Zga {ats : Array TypeId} {f : Nat} {p1 : Operand} {x1 : AV} (h : Calm P ops H0 KK (kk + 1) rest M ⟨(d, x) :: T, H, D, n⟩) (h1 : ev T p1 = some x1 := by rfl) [hc : Con P f [x1] x] (hd : Nat.blt d n = true := by rfl) : Calm P ops H0 KK kk ({ dst := some d, op := .call { callee := .value (.func f), args := #[p1], argTypes := ats }, type := ty, pos := po, after := af, guard := none } :: rest) M ⟨T, H, D, n⟩ := Za (w0 rfl) hd (Zv (caps := []) [] rfl rfl (Zj h1 Z0a) hc.c List.nodup_nil) h
theorem Zfl {ats : Array TypeId} {f : Nat} {p1 : Operand} {x1 : AV} {g gt : Nat} {gb : Bool} {og : Oper} (h : Calm P ops H0 KK (kk + 1) rest M ⟨(d, x) :: T, H, D, n⟩) (g1 : ops[g]? = some og := by rfl) (g2 : og.dst = some gt := by rfl) (g3 : lk T gt = some (.v (.bool gb)) := by rfl) (h1 : ev T p1 = some x1 := by rfl) [hc : Con P f [x1] x] (hd : Nat.blt d n = true := by rfl) : Calm P ops H0 KK kk ({ dst := some d, op := .call { callee := .value (.func f), args := #[p1], argTypes := ats }, type := ty, pos := po, after := af, guard := some (g, gb) } :: rest) M ⟨T, H, D, n⟩ := Za (wY rfl g1 g2 g3) hd (Zv (caps := []) [] rfl rfl (Zj h1 Z0a) hc.c List.nodup_nil) h
theorem Zhp {ats : Array TypeId} {f : Nat} {p1 : Operand} {x1 : AV} {g gt : Nat} {gb : Bool} {og : Oper} (h : AOps P ro ops rest Q ⟨(d, x) :: T, H, D, n⟩) (g1 : ops[g]? = some og := by rfl) (g2 : og.dst = some gt := by rfl) (g3 : lk T gt = some (.v (.bool gb)) := by rfl) (h1 : ev T p1 = some x1 := by rfl) [hc : Con P f [x1] x] (hd : Nat.blt d n = true := by rfl) : AOps P ro ops ({ dst := some d, op := .call { callee := .value (.func f), args := #[p1], argTypes := ats }, type := ty, pos := po, after := af, guard := some (g, gb) } :: rest) Q ⟨T, H, D, n⟩ := Z2 (wY rfl g1 g2 g3) hd (Zv (caps := []) [] rfl rfl (Zj h1 Z0a) hc.c List.nodup_nil) h
theorem zC2 {ats : Array TypeId} {f : Nat} {p1 p2 : Operand} {x1 x2 : AV} (h : AOps P ro ops rest Q ⟨(d, x) :: T, H, D, n⟩) (h1 : ev T p1 = some x1 := by rfl) (h2 : ev T p2 = some x2 := by rfl) [hc : Con P f [x1, x2] x] (hd : Nat.blt d n = true := by rfl) : AOps P ro ops ({ dst := some d, op := .call { callee := .value (.func f), args := #[p1, p2], argTypes := ats }, type := ty, pos := po, after := af, guard := none } :: rest) Q ⟨T, H, D, n⟩ := Z2 (w0 rfl) hd (Zv (caps := []) [] rfl rfl (Zj h1 (Zj h2 Z0a)) hc.c List.nodup_nil) h
theorem Zgu {ats : Array TypeId} {f : Nat} {p1 p2 : Operand} {x1 x2 : AV} (h : Calm P ops H0 KK (kk + 1) rest M ⟨(d, x) :: T, H, D, n⟩) (h1 : ev T p1 = some x1 := by rfl) (h2 : ev T p2 = some x2 := by rfl) [hc : Con P f [x1, x2] x] (hd : Nat.blt d n = true := by rfl) : Calm P ops H0 KK kk ({ dst := some d, op := .call { callee := .value (.func f), args := #[p1, p2], argTypes := ats }, type := ty, pos := po, after := af, guard := none } :: rest) M ⟨T, H, D, n⟩ := Za (w0 rfl) hd (Zv (caps := []) [] rfl rfl (Zj h1 (Zj h2 Z0a)) hc.c List.nodup_nil) h
theorem Zfm {ats : Array TypeId} {f : Nat} {p1 p2 : Operand} {x1 x2 : AV} {g gt : Nat} {gb : Bool} {og : Oper} (h : Calm P ops H0 KK (kk + 1) rest M ⟨(d, x) :: T, H, D, n⟩) (g1 : ops[g]? = some og := by rfl) (g2 : og.dst = some gt := by rfl) (g3 : lk T gt = some (.v (.bool gb)) := by rfl) (h1 : ev T p1 = some x1 := by rfl) (h2 : ev T p2 = some x2 := by rfl) [hc : Con P f [x1, x2] x] (hd : Nat.blt d n = true := by rfl) : Calm P ops H0 KK kk ({ dst := some d, op := .call { callee := .value (.func f), args := #[p1, p2], argTypes := ats }, type := ty, pos := po, after := af, guard := some (g, gb) } :: rest) M ⟨T, H, D, n⟩ := Za (wY rfl g1 g2 g3) hd (Zv (caps := []) [] rfl rfl (Zj h1 (Zj h2 Z0a)) hc.c List.nodup_nil) h
theorem Zhq {ats : Array TypeId} {f : Nat} {p1 p2 : Operand} {x1 x2 : AV} {g gt : Nat} {gb : Bool} {og : Oper} (h : AOps P ro ops rest Q ⟨(d, x) :: T, H, D, n⟩) (g1 : ops[g]? = some og := by rfl) (g2 : og.dst = some gt := by rfl) (g3 : lk T gt = some (.v (.bool gb)) := by rfl) (h1 : ev T p1 = some x1 := by rfl) (h2 : ev T p2 = some x2 := by rfl) [hc : Con P f [x1, x2] x] (hd : Nat.blt d n = true := by rfl) : AOps P ro ops ({ dst := some d, op := .call { callee := .value (.func f), args := #[p1, p2], argTypes := ats }, type := ty, pos := po, after := af, guard := some (g, gb) } :: rest) Q ⟨T, H, D, n⟩ := Z2 (wY rfl g1 g2 g3) hd (Zv (caps := []) [] rfl rfl (Zj h1 (Zj h2 Z0a)) hc.c List.nodup_nil) h
theorem zC3 {ats : Array TypeId} {f : Nat} {p1 p2 p3 : Operand} {x1 x2 x3 : AV} (h : AOps P ro ops rest Q ⟨(d, x) :: T, H, D, n⟩) (h1 : ev T p1 = some x1 := by rfl) (h2 : ev T p2 = some x2 := by rfl) (h3 : ev T p3 = some x3 := by rfl) [hc : Con P f [x1, x2, x3] x] (hd : Nat.blt d n = true := by rfl) : AOps P ro ops ({ dst := some d, op := .call { callee := .value (.func f), args := #[p1, p2, p3], argTypes := ats }, type := ty, pos := po, after := af, guard := none } :: rest) Q ⟨T, H, D, n⟩ := Z2 (w0 rfl) hd (Zv (caps := []) [] rfl rfl (Zj h1 (Zj h2 (Zj h3 Z0a))) hc.c List.nodup_nil) h
theorem Zgv {ats : Array TypeId} {f : Nat} {p1 p2 p3 : Operand} {x1 x2 x3 : AV} (h : Calm P ops H0 KK (kk + 1) rest M ⟨(d, x) :: T, H, D, n⟩) (h1 : ev T p1 = some x1 := by rfl) (h2 : ev T p2 = some x2 := by rfl) (h3 : ev T p3 = some x3 := by rfl) [hc : Con P f [x1, x2, x3] x] (hd : Nat.blt d n = true := by rfl) : Calm P ops H0 KK kk ({ dst := some d, op := .call { callee := .value (.func f), args := #[p1, p2, p3], argTypes := ats }, type := ty, pos := po, after := af, guard := none } :: rest) M ⟨T, H, D, n⟩ := Za (w0 rfl) hd (Zv (caps := []) [] rfl rfl (Zj h1 (Zj h2 (Zj h3 Z0a))) hc.c List.nodup_nil) h
theorem Zfn {ats : Array TypeId} {f : Nat} {p1 p2 p3 : Operand} {x1 x2 x3 : AV} {g gt : Nat} {gb : Bool} {og : Oper} (h : Calm P ops H0 KK (kk + 1) rest M ⟨(d, x) :: T, H, D, n⟩) (g1 : ops[g]? = some og := by rfl) (g2 : og.dst = some gt := by rfl) (g3 : lk T gt = some (.v (.bool gb)) := by rfl) (h1 : ev T p1 = some x1 := by rfl) (h2 : ev T p2 = some x2 := by rfl) (h3 : ev T p3 = some x3 := by rfl) [hc : Con P f [x1, x2, x3] x] (hd : Nat.blt d n = true := by rfl) : Calm P ops H0 KK kk ({ dst := some d, op := .call { callee := .value (.func f), args := #[p1, p2, p3], argTypes := ats }, type := ty, pos := po, after := af, guard := some (g, gb) } :: rest) M ⟨T, H, D, n⟩ := Za (wY rfl g1 g2 g3) hd (Zv (caps := []) [] rfl rfl (Zj h1 (Zj h2 (Zj h3 Z0a))) hc.c List.nodup_nil) h
theorem Zhr {ats : Array TypeId} {f : Nat} {p1 p2 p3 : Operand} {x1 x2 x3 : AV} {g gt : Nat} {gb : Bool} {og : Oper} (h : AOps P ro ops rest Q ⟨(d, x) :: T, H, D, n⟩) (g1 : ops[g]? = some og := by rfl) (g2 : og.dst = some gt := by rfl) (g3 : lk T gt = some (.v (.bool gb)) := by rfl) (h1 : ev T p1 = some x1 := by rfl) (h2 : ev T p2 = some x2 := by rfl) (h3 : ev T p3 = some x3 := by rfl) [hc : Con P f [x1, x2, x3] x] (hd : Nat.blt d n = true := by rfl) : AOps P ro ops ({ dst := some d, op := .call { callee := .value (.func f), args := #[p1, p2, p3], argTypes := ats }, type := ty, pos := po, after := af, guard := some (g, gb) } :: rest) Q ⟨T, H, D, n⟩ := Z2 (wY rfl g1 g2 g3) hd (Zv (caps := []) [] rfl rfl (Zj h1 (Zj h2 (Zj h3 Z0a))) hc.c List.nodup_nil) h
theorem zC4 {ats : Array TypeId} {f : Nat} {p1 p2 p3 p4 : Operand} {x1 x2 x3 x4 : AV} (h : AOps P ro ops rest Q ⟨(d, x) :: T, H, D, n⟩) (h1 : ev T p1 = some x1 := by rfl) (h2 : ev T p2 = some x2 := by rfl) (h3 : ev T p3 = some x3 := by rfl) (h4 : ev T p4 = some x4 := by rfl) [hc : Con P f [x1, x2, x3, x4] x] (hd : Nat.blt d n = true := by rfl) : AOps P ro ops ({ dst := some d, op := .call { callee := .value (.func f), args := #[p1, p2, p3, p4], argTypes := ats }, type := ty, pos := po, after := af, guard := none } :: rest) Q ⟨T, H, D, n⟩ := Z2 (w0 rfl) hd (Zv (caps := []) [] rfl rfl (Zj h1 (Zj h2 (Zj h3 (Zj h4 Z0a)))) hc.c List.nodup_nil) h
theorem Zgw {ats : Array TypeId} {f : Nat} {p1 p2 p3 p4 : Operand} {x1 x2 x3 x4 : AV} (h : Calm P ops H0 KK (kk + 1) rest M ⟨(d, x) :: T, H, D, n⟩) (h1 : ev T p1 = some x1 := by rfl) (h2 : ev T p2 = some x2 := by rfl) (h3 : ev T p3 = some x3 := by rfl) (h4 : ev T p4 = some x4 := by rfl) [hc : Con P f [x1, x2, x3, x4] x] (hd : Nat.blt d n = true := by rfl) : Calm P ops H0 KK kk ({ dst := some d, op := .call { callee := .value (.func f), args := #[p1, p2, p3, p4], argTypes := ats }, type := ty, pos := po, after := af, guard := none } :: rest) M ⟨T, H, D, n⟩ := Za (w0 rfl) hd (Zv (caps := []) [] rfl rfl (Zj h1 (Zj h2 (Zj h3 (Zj h4 Z0a)))) hc.c List.nodup_nil) h
theorem Zfo {ats : Array TypeId} {f : Nat} {p1 p2 p3 p4 : Operand} {x1 x2 x3 x4 : AV} {g gt : Nat} {gb : Bool} {og : Oper} (h : Calm P ops H0 KK (kk + 1) rest M ⟨(d, x) :: T, H, D, n⟩) (g1 : ops[g]? = some og := by rfl) (g2 : og.dst = some gt := by rfl) (g3 : lk T gt = some (.v (.bool gb)) := by rfl) (h1 : ev T p1 = some x1 := by rfl) (h2 : ev T p2 = some x2 := by rfl) (h3 : ev T p3 = some x3 := by rfl) (h4 : ev T p4 = some x4 := by rfl) [hc : Con P f [x1, x2, x3, x4] x] (hd : Nat.blt d n = true := by rfl) : Calm P ops H0 KK kk ({ dst := some d, op := .call { callee := .value (.func f), args := #[p1, p2, p3, p4], argTypes := ats }, type := ty, pos := po, after := af, guard := some (g, gb) } :: rest) M ⟨T, H, D, n⟩ := Za (wY rfl g1 g2 g3) hd (Zv (caps := []) [] rfl rfl (Zj h1 (Zj h2 (Zj h3 (Zj h4 Z0a)))) hc.c List.nodup_nil) h
theorem Zhs {ats : Array TypeId} {f : Nat} {p1 p2 p3 p4 : Operand} {x1 x2 x3 x4 : AV} {g gt : Nat} {gb : Bool} {og : Oper} (h : AOps P ro ops rest Q ⟨(d, x) :: T, H, D, n⟩) (g1 : ops[g]? = some og := by rfl) (g2 : og.dst = some gt := by rfl) (g3 : lk T gt = some (.v (.bool gb)) := by rfl) (h1 : ev T p1 = some x1 := by rfl) (h2 : ev T p2 = some x2 := by rfl) (h3 : ev T p3 = some x3 := by rfl) (h4 : ev T p4 = some x4 := by rfl) [hc : Con P f [x1, x2, x3, x4] x] (hd : Nat.blt d n = true := by rfl) : AOps P ro ops ({ dst := some d, op := .call { callee := .value (.func f), args := #[p1, p2, p3, p4], argTypes := ats }, type := ty, pos := po, after := af, guard := some (g, gb) } :: rest) Q ⟨T, H, D, n⟩ := Z2 (wY rfl g1 g2 g3) hd (Zv (caps := []) [] rfl rfl (Zj h1 (Zj h2 (Zj h3 (Zj h4 Z0a)))) hc.c List.nodup_nil) h
theorem zD {g gt : Nat} {gb : Bool} {og : Oper} {op : Op} (h : AOps P ro ops rest Q ⟨(d, .v undef) :: T, H, D, n⟩) (g1 : ops[g]? = some og := by rfl) (g2 : og.dst = some gt := by rfl) (g3 : lk T gt = some (.v (.bool (!gb))) := by rfl) (hd : Nat.blt d n = true := by rfl) : AOps P ro ops ({ dst := some d, op := op, type := ty, pos := po, after := af, guard := some (g, gb) } :: rest) Q ⟨T, H, D, n⟩ := Z15 (x := .v undef) (wZ rfl g1 g2 g3) hd nofun h
theorem Zg4 {m : Nat} {b : Bool} {l : List AV} (h : ∀ id, AOps P ro ops rest Q ⟨(d, .ptr id m 0 0) :: T, (id, .rows t m [l]) :: H, D, n⟩) (hp : ev T p = some x := by rfl) [k : TK P t b m] (hl : cellsA x = l := by rfl) (hn : l.length = m := by rfl) (h1 : l.all one = true := by rfl) (hd : Nat.blt d n = true := by rfl) : AOps P ro ops ({ dst := some d, op := .box t p, type := ty, pos := po, after := af, guard := none } :: rest) Q ⟨T, H, D, n⟩ := Z0w (w0 rfl) hd (fun id => Z4z id rfl hp hl hn h1) h
theorem Zi8 {b : Bool} [kt : TK P t b 1] {zs : List Value} [z : ZC P t zs] {c1 : AV} (h : ∀ id, AOps P ro ops rest Q ⟨(d, .ptr id 1 0 0) :: T, (id, .rows t 1 [[c1]]) :: H, D, n⟩) (hl : zs.map AV.v = [c1] := by rfl) (hn : zs.length = 1 := by rfl) (h1 : (zs.map AV.v).all one = true := by rfl) (hd : Nat.blt d n = true := by rfl) : AOps P ro ops ({ dst := some d, op := .alloc t, type := ty, pos := po, after := af, guard := none } :: rest) Q ⟨T, H, D, n⟩ := Z0w (w0 rfl) hd (fun id => Z0o id rfl hn h1) (by rw [hl]; exact h)
theorem Zi9 {b : Bool} [kt : TK P t b 2] {zs : List Value} [z : ZC P t zs] {c1 c2 : AV} (h : ∀ id, AOps P ro ops rest Q ⟨(d, .ptr id 2 0 0) :: T, (id, .rows t 2 [[c1, c2]]) :: H, D, n⟩) (hl : zs.map AV.v = [c1, c2] := by rfl) (hn : zs.length = 2 := by rfl) (h1 : (zs.map AV.v).all one = true := by rfl) (hd : Nat.blt d n = true := by rfl) : AOps P ro ops ({ dst := some d, op := .alloc t, type := ty, pos := po, after := af, guard := none } :: rest) Q ⟨T, H, D, n⟩ := Z0w (w0 rfl) hd (fun id => Z0o id rfl hn h1) (by rw [hl]; exact h)
theorem Zgi {b : Bool} [kt : TK P t b 3] {zs : List Value} [z : ZC P t zs] {c1 c2 c3 : AV} (h : ∀ id, AOps P ro ops rest Q ⟨(d, .ptr id 3 0 0) :: T, (id, .rows t 3 [[c1, c2, c3]]) :: H, D, n⟩) (hl : zs.map AV.v = [c1, c2, c3] := by rfl) (hn : zs.length = 3 := by rfl) (h1 : (zs.map AV.v).all one = true := by rfl) (hd : Nat.blt d n = true := by rfl) : AOps P ro ops ({ dst := some d, op := .alloc t, type := ty, pos := po, after := af, guard := none } :: rest) Q ⟨T, H, D, n⟩ := Z0w (w0 rfl) hd (fun id => Z0o id rfl hn h1) (by rw [hl]; exact h)
theorem Zia {b : Bool} [kt : TK P t b 4] {zs : List Value} [z : ZC P t zs] {c1 c2 c3 c4 : AV} (h : ∀ id, AOps P ro ops rest Q ⟨(d, .ptr id 4 0 0) :: T, (id, .rows t 4 [[c1, c2, c3, c4]]) :: H, D, n⟩) (hl : zs.map AV.v = [c1, c2, c3, c4] := by rfl) (hn : zs.length = 4 := by rfl) (h1 : (zs.map AV.v).all one = true := by rfl) (hd : Nat.blt d n = true := by rfl) : AOps P ro ops ({ dst := some d, op := .alloc t, type := ty, pos := po, after := af, guard := none } :: rest) Q ⟨T, H, D, n⟩ := Z0w (w0 rfl) hd (fun id => Z0o id rfl hn h1) (by rw [hl]; exact h)
theorem Zib {b : Bool} [kt : TK P t b 5] {zs : List Value} [z : ZC P t zs] {c1 c2 c3 c4 c5 : AV} (h : ∀ id, AOps P ro ops rest Q ⟨(d, .ptr id 5 0 0) :: T, (id, .rows t 5 [[c1, c2, c3, c4, c5]]) :: H, D, n⟩) (hl : zs.map AV.v = [c1, c2, c3, c4, c5] := by rfl) (hn : zs.length = 5 := by rfl) (h1 : (zs.map AV.v).all one = true := by rfl) (hd : Nat.blt d n = true := by rfl) : AOps P ro ops ({ dst := some d, op := .alloc t, type := ty, pos := po, after := af, guard := none } :: rest) Q ⟨T, H, D, n⟩ := Z0w (w0 rfl) hd (fun id => Z0o id rfl hn h1) (by rw [hl]; exact h)
theorem Zic {b : Bool} [kt : TK P t b 7] {zs : List Value} [z : ZC P t zs] {c1 c2 c3 c4 c5 c6 c7 : AV} (h : ∀ id, AOps P ro ops rest Q ⟨(d, .ptr id 7 0 0) :: T, (id, .rows t 7 [[c1, c2, c3, c4, c5, c6, c7]]) :: H, D, n⟩) (hl : zs.map AV.v = [c1, c2, c3, c4, c5, c6, c7] := by rfl) (hn : zs.length = 7 := by rfl) (h1 : (zs.map AV.v).all one = true := by rfl) (hd : Nat.blt d n = true := by rfl) : AOps P ro ops ({ dst := some d, op := .alloc t, type := ty, pos := po, after := af, guard := none } :: rest) Q ⟨T, H, D, n⟩ := Z0w (w0 rfl) hd (fun id => Z0o id rfl hn h1) (by rw [hl]; exact h)
theorem Zid {b : Bool} [kt : TK P t b 9] {zs : List Value} [z : ZC P t zs] {c1 c2 c3 c4 c5 c6 c7 c8 c9 : AV} (h : ∀ id, AOps P ro ops rest Q ⟨(d, .ptr id 9 0 0) :: T, (id, .rows t 9 [[c1, c2, c3, c4, c5, c6, c7, c8, c9]]) :: H, D, n⟩) (hl : zs.map AV.v = [c1, c2, c3, c4, c5, c6, c7, c8, c9] := by rfl) (hn : zs.length = 9 := by rfl) (h1 : (zs.map AV.v).all one = true := by rfl) (hd : Nat.blt d n = true := by rfl) : AOps P ro ops ({ dst := some d, op := .alloc t, type := ty, pos := po, after := af, guard := none } :: rest) Q ⟨T, H, D, n⟩ := Z0w (w0 rfl) hd (fun id => Z0o id rfl hn h1) (by rw [hl]; exact h)
theorem Zg8 {b : Bool} [kt : TK P t b 10] {zs : List Value} [z : ZC P t zs] {c1 c2 c3 c4 c5 c6 c7 c8 c9 c10 : AV} (h : ∀ id, AOps P ro ops rest Q ⟨(d, .ptr id 10 0 0) :: T, (id, .rows t 10 [[c1, c2, c3, c4, c5, c6, c7, c8, c9, c10]]) :: H, D, n⟩) (hl : zs.map AV.v = [c1, c2, c3, c4, c5, c6, c7, c8, c9, c10] := by rfl) (hn : zs.length = 10 := by rfl) (h1 : (zs.map AV.v).all one = true := by rfl) (hd : Nat.blt d n = true := by rfl) : AOps P ro ops ({ dst := some d, op := .alloc t, type := ty, pos := po, after := af, guard := none } :: rest) Q ⟨T, H, D, n⟩ := Z0w (w0 rfl) hd (fun id => Z0o id rfl hn h1) (by rw [hl]; exact h)
theorem zLd {id sz i c el : Nat} {es : List (List AV)} {ee : List AV} (j : Nat) (h : AOps P ro ops rest Q ⟨(d, x) :: T, H, D, n⟩) (hp : ev T p = some (.ptr id sz i c) := by rfl) (hH : H[j]? = some (id, .rows el sz es) := by rfl) (he : es[i]? = some ee := by rfl) (hl : Ld P t (ee.drop c) x := by first | exact Zm | exact Z6q | exact Zcv | exact Zcw | exact Zcx | exact Zcy) (hd : Nat.blt d n = true := by rfl) : AOps P ro ops ({ dst := some d, op := .load t p, type := ty, pos := po, after := af, guard := none } :: rest) Q ⟨T, H, D, n⟩ := Z0f j (w0 rfl) hd rfl hp hH he hl h
theorem Zds {id sz i c el g gt : Nat} {gb : Bool} {og : Oper} {es : List (List AV)} {ee : List AV} (j : Nat) (h : AOps P ro ops rest Q ⟨(d, x) :: T, H, D, n⟩) (g1 : ops[g]? = some og := by rfl) (g2 : og.dst = some gt := by rfl) (g3 : lk T gt = some (.v (.bool gb)) := by rfl) (hp : ev T p = some (.ptr id sz i c) := by rfl) (hH : H[j]? = some (id, .rows el sz es) := by rfl) (he : es[i]? = some ee := by rfl) (hl : Ld P t (ee.drop c) x := by first | exact Zm | exact Z6q | exact Zcv | exact Zcw | exact Zcx | exact Zcy) (hd : Nat.blt d n = true := by rfl) : AOps P ro ops ({ dst := some d, op := .load t p, type := ty, pos := po, after := af, guard := some (g, gb) } :: rest) Q ⟨T, H, D, n⟩ := Z0f j (wY rfl g1 g2 g3) hd rfl hp hH he hl h
theorem zSt {m id sz i c el : Nat} {b : Bool} {es : List (List AV)} {ee : List AV} {H' : AHeap} (j : Nat) [kt : TK P t b m] (h : AOps P ro ops rest Q ⟨T, H', D, n⟩) (hp : ev T p = some (.ptr id sz i c) := by rfl) (hH : H[j]? = some (id, .rows el sz es) := by rfl) (he : es[i]? = some ee := by rfl) (hq : ev T q = some x := by rfl) (hx : (cellsA x).length = m := by rfl) (h1 : (cellsA x).all one = true := by rfl) (hc : Nat.ble (c + m) sz = true := by rfl) (hh : H.set j (id, .rows el sz (es.set i (ee.take c ++ cellsA x ++ ee.drop (c + (cellsA x).length)))) = H' := by rfl) : AOps P ro ops ({ dst := none, op := .store t p q, type := ty, pos := po, after := af, guard := none } :: rest) Q ⟨T, H, D, n⟩ := by subst hh; exact Z0r j (w0 rfl) rfl rfl hp hH he hq hx h1 hc h
theorem Zc8 {id sz i c el : Nat} {es : List (List AV)} {ee : List AV} (j : Nat) (h : Calm P ops H0 KK (kk + 1) rest M ⟨(d, x) :: T, H, D, n⟩) (hp : ev T p = some (.ptr id sz i c) := by rfl) (hH : H0[j]? = some (id, .rows el sz es) := by rfl) (he : es[i]? = some ee := by rfl) (hl : Ld P t (ee.drop c) x := by first | exact Zm | exact Z6q | exact Zcv | exact Zcw | exact Zcx | exact Zcy) (hd : Nat.blt d n = true := by rfl) : Calm P ops H0 KK kk ({ dst := some d, op := .load t p, type := ty, pos := po, after := af, guard := none } :: rest) M ⟨T, H, D, n⟩ := Zu j (w0 rfl) hd rfl hp hH he hl h
theorem Z8h {id sz i c el g gt : Nat} {gb : Bool} {og : Oper} {es : List (List AV)} {ee : List AV} (j : Nat) (h : Calm P ops H0 KK (kk + 1) rest M ⟨(d, x) :: T, H, D, n⟩) (g1 : ops[g]? = some og := by rfl) (g2 : og.dst = some gt := by rfl) (g3 : lk T gt = some (.v (.bool gb)) := by rfl) (hp : ev T p = some (.ptr id sz i c) := by rfl) (hH : H0[j]? = some (id, .rows el sz es) := by rfl) (he : es[i]? = some ee := by rfl) (hl : Ld P t (ee.drop c) x := by first | exact Zm | exact Z6q | exact Zcv | exact Zcw | exact Zcx | exact Zcy) (hd : Nat.blt d n = true := by rfl) : Calm P ops H0 KK kk ({ dst := some d, op := .load t p, type := ty, pos := po, after := af, guard := some (g, gb) } :: rest) M ⟨T, H, D, n⟩ := Zu j (wY rfl g1 g2 g3) hd rfl hp hH he hl h
theorem Zgb (h : KK ⟨T, H, D, n⟩) : Calm P ops H0 KK kk [] M ⟨T, H, D, n⟩ := .done h
theorem zcD {g gt : Nat} {gb : Bool} {og : Oper} {op : Op} (h : Calm P ops H0 KK (kk + 1) rest M ⟨(d, .v undef) :: T, H, D, n⟩) (g1 : ops[g]? = some og := by rfl) (g2 : og.dst = some gt := by rfl) (g3 : lk T gt = some (.v (.bool (!gb))) := by rfl) (hd : Nat.blt d n = true := by rfl) : Calm P ops H0 KK kk ({ dst := some d, op := op, type := ty, pos := po, after := af, guard := some (g, gb) } :: rest) M ⟨T, H, D, n⟩ := .off (wZ rfl g1 g2 g3) hd h
theorem Zf7 {id : Nat} {l : List Oper} (h : Calm P l.toArray H (AOps P ro l.toArray [] Q) 0 l [] ⟨T, H, D, n⟩) (hm : P.follows .mixedOrders = true := by rfl) (ht : tidyM l.toArray (masksOf l) l.length = true := by kernel_rfl) : AWp P ro (.region id l.toArray true) Q ⟨T, H, D, n⟩ := Z0e (masksOf l) l.length hm (by rw [List.take_length]; exact ht) (by rw [List.take_length, List.drop_length]; exact h)
theorem zN (h : Q .normal ⟨T, H, D, n⟩) : AOps P ro ops [] Q ⟨T, H, D, n⟩ := Z6 h
variable {s : St}
theorem tqR {K : St → Prop} (h : Q .ret s) : thenQ K Q .ret s := h
theorem bqR {i : Nat} (h : Q .ret s) : blockQ i Q .ret s := h
theorem tqN {K : St → Prop} (h : K s) : thenQ K Q .normal s := h
theorem bqN {i : Nat} (h : Q .normal s) : blockQ i Q .normal s := h
theorem tqX {K : St → Prop} {i : Nat} (h : Q (.exit i) s) : thenQ K Q (.exit i) s := h
theorem bqX {i : Nat} (h : Q .normal s) : blockQ i Q (.exit i) s := by simp only [blockQ, if_true]; exact h
theorem qcT {c : Operand} {x y : Code} (h : AWp P ro x Q s) (hc : ev s.T c = some (.v (.bool true)) := by rfl) : AWp P ro (.cond c x y) Q s := Zh hc (fun _ => h) nofun
theorem qcF {c : Operand} {x y : Code} (h : AWp P ro y Q s) (hc : ev s.T c = some (.v (.bool false)) := by rfl) : AWp P ro (.cond c x y) Q s := Zh hc nofun (fun _ => h)
theorem Zgh (h : Q .ret s) : AWp P ro .ret Q s := Z05 h
theorem st0 {c : Code} (h : AWp P ro c Q ⟨[], H, D, n⟩) : AWp P ro c Q ⟨enum [] 0, H, D, n⟩ := h
theorem st1 {x0 : AV} {c : Code} (h : AWp P ro c Q ⟨[(0, x0)], H, D, n⟩) : AWp P ro c Q ⟨enum [x0] 0, H, D, n⟩ := h
theorem st2 {x0 x1 : AV} {c : Code} (h : AWp P ro c Q ⟨[(0, x0), (1, x1)], H, D, n⟩) : AWp P ro c Q ⟨enum [x0, x1] 0, H, D, n⟩ := h
theorem st3 {x0 x1 x2 : AV} {c : Code} (h : AWp P ro c Q ⟨[(0, x0), (1, x1), (2, x2)], H, D, n⟩) : AWp P ro c Q ⟨enum [x0, x1, x2] 0, H, D, n⟩ := h
theorem st4 {x0 x1 x2 x3 : AV} {c : Code} (h : AWp P ro c Q ⟨[(0, x0), (1, x1), (2, x2), (3, x3)], H, D, n⟩) : AWp P ro c Q ⟨enum [x0, x1, x2, x3] 0, H, D, n⟩ := h
theorem st5 {x0 x1 x2 x3 x4 : AV} {c : Code} (h : AWp P ro c Q ⟨[(0, x0), (1, x1), (2, x2), (3, x3), (4, x4)], H, D, n⟩) : AWp P ro c Q ⟨enum [x0, x1, x2, x3, x4] 0, H, D, n⟩ := h
theorem st6 {x0 x1 x2 x3 x4 x5 : AV} {c : Code} (h : AWp P ro c Q ⟨[(0, x0), (1, x1), (2, x2), (3, x3), (4, x4), (5, x5)], H, D, n⟩) : AWp P ro c Q ⟨enum [x0, x1, x2, x3, x4, x5] 0, H, D, n⟩ := h
end
theorem Zdd {P : Program} {f : Nat} {fn : Func} {c : Code} {n : Nat} {xs : List AV} {x : AV} (hf : P.funcs[f]? = some fn) (hb : fn.body = some c := by rfl) (hnm : (fn.name == "runtime.NumGoroutine") = false := by decide +kernel) (hnt : fn.ntmps = n := by rfl) (hn0 : Nat.ble xs.length n = true := by rfl)
 (h : AWp P none c (RetQ P fn (Gives x)) ⟨enum xs 0, [], [], n⟩ := by
  first | refine st0 ?_ | refine st1 ?_ | refine st2 ?_ | refine st3 ?_ | refine st4 ?_ | refine st5 ?_ | refine st6 ?_
  repeat (first | refine qS ?_ | refine qR ?_ | refine zN ?_ | refine tqN ?_ | refine tqR ?_ | refine bqN ?_ | refine bqR ?_ | refine tqX ?_ | refine bqX ?_ | refine qB ?_ | refine qK ?_ | refine qcT ?_ | refine qcF ?_ | refine Zgh ?_ | refine qX ?_ | refine zM ?_ | refine zA ?_ | refine zI ?_ | refine zX ?_ | refine zF ?_ | refine zB1 ?_ | refine zB2 ?_ | refine zB3 ?_ | refine zB4 ?_ | refine zB5 ?_ | refine zB7 ?_ | refine zB9 ?_ | refine Zgj ?_ | refine zPT ?_ | refine zPF ?_ | refine zK ?_ | refine zJ ?_ | refine zP ?_ | refine zL ?_ | refine zNt ?_ | refine zUt ?_ | refine zUf ?_ | refine zU ?_ | refine zNc ?_ | refine zLn ?_ | refine Zgm ?_ | refine Zgl ?_ | refine zEq ?_ | refine zNe ?_ | refine Zgk ?_ | refine zCv ?_ | refine zSx ?_ | refine zC0 ?_ | refine zC1 ?_ | refine zC2 ?_ | refine zC3 ?_ | refine zC4 ?_ | refine Zg4 (fun _ => ?_) | refine Zi8 (fun _ => ?_) | refine Zi9 (fun _ => ?_) | refine Zgi (fun _ => ?_) | refine Zia (fun _ => ?_) | refine Zib (fun _ => ?_) | refine Zic (fun _ => ?_) | refine Zid (fun _ => ?_) | refine Zg8 (fun _ => ?_) | refine zLd 0 ?_ | refine zLd 1 ?_ | refine zLd 2 ?_ | refine zLd 3 ?_ | refine zSt 0 ?_ | refine zSt 1 ?_ | refine zSt 2 ?_ | refine zSt 3 ?_ | refine zD ?_ | refine zgM ?_ | refine zgA ?_ | refine zgI ?_ | refine zgX ?_ | refine zgF ?_ | refine Zhh ?_ | refine Zhi ?_ | refine Zhj ?_ | refine Zhk ?_ | refine Zhl ?_ | refine Zhm ?_ | refine Zhn ?_ | refine Zg0 ?_ | refine Zhz ?_ | refine Zhy ?_ | refine zgK ?_ | refine zgJ ?_ | refine zgP ?_ | refine zgL ?_ | refine Zhx ?_ | refine Zi2 ?_ | refine Zi1 ?_ | refine zgU ?_ | refine Zhv ?_ | refine Zgd ?_ | refine Zg3 ?_ | refine Zg2 ?_ | refine Zhu ?_ | refine Zhw ?_ | refine Zg1 ?_ | refine Zht ?_ | refine Zi0 ?_ | refine Zho ?_ | refine Zhp ?_ | refine Zhq ?_ | refine Zhr ?_ | refine Zhs ?_ | refine Zds 0 ?_ | refine Zds 1 ?_ | refine Zds 2 ?_ | refine Zds 3 ?_ | refine Zf7 ?_ | refine zcM ?_ | refine zcA ?_ | refine zcI ?_ | refine zcX ?_ | refine zcF ?_ | refine Zgn ?_ | refine Zgo ?_ | refine Zg9 ?_ | refine Zgp ?_ | refine Zgq ?_ | refine Zgr ?_ | refine Zgs ?_ | refine Zf9 ?_ | refine Zh3 ?_ | refine Zh2 ?_ | refine zcK ?_ | refine zcJ ?_ | refine zcP ?_ | refine zcL ?_ | refine Zh1 ?_ | refine Zh6 ?_ | refine Zh5 ?_ | refine zcU ?_ | refine Zgc ?_ | refine Zgz ?_ | refine Zfc ?_ | refine Zfb ?_ | refine Zgy ?_ | refine Zh0 ?_ | refine Zfa ?_ | refine Zgx ?_ | refine Zh4 ?_ | refine Zgt ?_ | refine Zga ?_ | refine Zgu ?_ | refine Zgv ?_ | refine Zgw ?_ | refine Zhd ?_ | refine Zh7 ?_ | refine Zh9 ?_ | refine Zhg ?_ | refine Zh8 ?_ | refine Zfd ?_ | refine Zfe ?_ | refine Zff ?_ | refine Zfg ?_ | refine Zfh ?_ | refine Zfi ?_ | refine Zfj ?_ | refine Zdo ?_ | refine Zfw ?_ | refine Zfv ?_ | refine Zhb ?_ | refine Zha ?_ | refine Zhe ?_ | refine Zhc ?_ | refine Zfu ?_ | refine Zfz ?_ | refine Zfy ?_ | refine Zhf ?_ | refine Zfs ?_ | refine Zfr ?_ | refine Zdr ?_ | refine Zdq ?_ | refine Zfq ?_ | refine Zft ?_ | refine Zdp ?_ | refine Zfp ?_ | refine Zfx ?_ | refine Zfk ?_ | refine Zfl ?_ | refine Zfm ?_ | refine Zfn ?_ | refine Zfo ?_ | refine Zc8 0 ?_ | refine Zc8 1 ?_ | refine Zc8 2 ?_ | refine Zc8 3 ?_ | refine Z8h 0 ?_ | refine Z8h 1 ?_ | refine Z8h 2 ?_ | refine Z8h 3 ?_ | refine Zgb ?_ | refine zcD ?_ | refine Z5x 70 ?_ | refine zRd ?_)
  first | exact Z5h rfl (Zt rfl Zq) (gvr rfl) | exact Z5h rfl (Zt rfl (Zt rfl Zq)) (gvr rfl) | exact Z5h rfl (Z6v 0 rfl rfl rfl Z6q Zq) (gvr rfl) | exact Z5h rfl (Z6v 0 rfl rfl rfl Z6q (Zt rfl Zq)) (gvr rfl) | exact Z5h rfl (Z6v 1 rfl rfl rfl Z6q (Zt rfl Zq)) (gvr rfl) | exact Z5h rfl (Zt rfl Zq) (gvr (by simp [mkRes, ceqs, ceq, veq]))) : Con P f xs x := ⟨Zw hf hb hnm hnt hn0 h⟩
theorem wk {A B : Prop} (x : A) (h : Wk A → B := by
 intro h
 repeat (first | refine qS ?_ | refine qR ?_ | refine zN ?_ | refine tqN ?_ | refine tqR ?_ | refine bqN ?_ | refine bqR ?_ | refine tqX ?_ | refine bqX ?_ | refine qB ?_ | refine qK ?_ | refine qcT ?_ | refine qcF ?_ | refine Zgh ?_ | refine qX ?_ | refine zM ?_ | refine zA ?_ | refine zI ?_ | refine zX ?_ | refine zF ?_ | refine zB1 ?_ | refine zB2 ?_ | refine zB3 ?_ | refine zB4 ?_ | refine zB5 ?_ | refine zB7 ?_ | refine zB9 ?_ | refine Zgj ?_ | refine zPT ?_ | refine zPF ?_ | refine zK ?_ | refine zJ ?_ | refine zP ?_ | refine zL ?_ | refine zNt ?_ | refine zUt ?_ | refine zUf ?_ | refine zU ?_ | refine zNc ?_ | refine zLn ?_ | refine Zgm ?_ | refine Zgl ?_ | refine zEq ?_ | refine zNe ?_ | refine Zgk ?_ | refine zCv ?_ | refine zSx ?_ | refine zC0 ?_ | refine zC1 ?_ | refine zC2 ?_ | refine zC3 ?_ | refine zC4 ?_ | refine zLd 0 ?_ | refine zLd 1 ?_ | refine zLd 2 ?_ | refine zLd 3 ?_ | refine zSt 0 ?_ | refine zSt 1 ?_ | refine zSt 2 ?_ | refine zSt 3 ?_ | refine zD ?_ | refine zgM ?_ | refine zgA ?_ | refine zgI ?_ | refine zgX ?_ | refine zgF ?_ | refine Zhh ?_ | refine Zhi ?_ | refine Zhj ?_ | refine Zhk ?_ | refine Zhl ?_ | refine Zhm ?_ | refine Zhn ?_ | refine Zg0 ?_ | refine Zhz ?_ | refine Zhy ?_ | refine zgK ?_ | refine zgJ ?_ | refine zgP ?_ | refine zgL ?_ | refine Zhx ?_ | refine Zi2 ?_ | refine Zi1 ?_ | refine zgU ?_ | refine Zhv ?_ | refine Zgd ?_ | refine Zg3 ?_ | refine Zg2 ?_ | refine Zhu ?_ | refine Zhw ?_ | refine Zg1 ?_ | refine Zht ?_ | refine Zi0 ?_ | refine Zho ?_ | refine Zhp ?_ | refine Zhq ?_ | refine Zhr ?_ | refine Zhs ?_ | refine Zds 0 ?_ | refine Zds 1 ?_ | refine Zds 2 ?_ | refine Zds 3 ?_ | refine Zf7 ?_ | refine zcM ?_ | refine zcA ?_ | refine zcI ?_ | refine zcX ?_ | refine zcF ?_ | refine Zgn ?_ | refine Zgo ?_ | refine Zg9 ?_ | refine Zgp ?_ | refine Zgq ?_ | refine Zgr ?_ | refine Zgs ?_ | refine Zf9 ?_ | refine Zh3 ?_ | refine Zh2 ?_ | refine zcK ?_ | refine zcJ ?_ | refine zcP ?_ | refine zcL ?_ | refine Zh1 ?_ | refine Zh6 ?_ | refine Zh5 ?_ | refine zcU ?_ | refine Zgc ?_ | refine Zgz ?_ | refine Zfc ?_ | refine Zfb ?_ | refine Zgy ?_ | refine Zh0 ?_ | refine Zfa ?_ | refine Zgx ?_ | refine Zh4 ?_ | refine Zgt ?_ | refine Zga ?_ | refine Zgu ?_ | refine Zgv ?_ | refine Zgw ?_ | refine Zhd ?_ | refine Zh7 ?_ | refine Zh9 ?_ | refine Zhg ?_ | refine Zh8 ?_ | refine Zfd ?_ | refine Zfe ?_ | refine Zff ?_ | refine Zfg ?_ | refine Zfh ?_ | refine Zfi ?_ | refine Zfj ?_ | refine Zdo ?_ | refine Zfw ?_ | refine Zfv ?_ | refine Zhb ?_ | refine Zha ?_ | refine Zhe ?_ | refine Zhc ?_ | refine Zfu ?_ | refine Zfz ?_ | refine Zfy ?_ | refine Zhf ?_ | refine Zfs ?_ | refine Zfr ?_ | refine Zdr ?_ | refine Zdq ?_ | refine Zfq ?_ | refine Zft ?_ | refine Zdp ?_ | refine Zfp ?_ | refine Zfx ?_ | refine Zfk ?_ | refine Zfl ?_ | refine Zfm ?_ | refine Zfn ?_ | refine Zfo ?_ | refine Zc8 0 ?_ | refine Zc8 1 ?_ | refine Zc8 2 ?_ | refine Zc8 3 ?_ | refine Z8h 0 ?_ | refine Z8h 1 ?_ | refine Z8h 2 ?_ | refine Z8h 3 ?_ | refine Zgb ?_ | refine zcD ?_)
 exact h.x) : B := h ⟨x⟩
end Go.Sx
namespace Go.Sx
open Go Go.Proofs
def FRef.kv (r : FRef) : List Value := [.string r.cls, .string r.name]
instance frefKey : FKey Tryz.prog 124 FRef.kv [.str, .str] where
 eq := inferInstance
 ck := fun _ => rfl
 inj := fun a b => by
  have h1 : vseq (FRef.kv a) (FRef.kv b) = (beqS a.cls b.cls && beqS a.name b.name) := by simp [FRef.kv, vseq, veq, beqS]
  rw [h1, Bool.eq_iff_iff, Bool.and_eq_true, beqS_iff, beqS_iff, decide_eq_true_iff]
  cases a; cases b
  simp
 chk := fun b a w => by
  unfold kagg FRef.kv
  kernel_rfl
 same := fun a => by
  simp [kagg, FRef.kv, Instr.sameBits, Z6e, Z79]
theorem Zaz {P : Program} {o : Oper} {T : List (Nat × AV)} {Hn : AHeap} {x y : AV} {On : AHeap} (h : Eff P o T Hn x On) (k : ∀ C v, VR C x v → VR C y v) : Eff P o T Hn y On :=
 fun Z C H a w hw hn hv hi hd hz ro next R hk => h Z C H a w hw hn hv hi hd hz ro next R (fun v w1 C1 hv1 => hk v w1 C1 (k C1 v hv1))
def fkd (v : Value) : FRef := match v with | .agg vs => (match vs.toList with | [.string a, .string b] => ⟨a, b⟩ | _ => ⟨⟨#[]⟩, ⟨#[]⟩⟩) | _ => ⟨⟨#[]⟩, ⟨#[]⟩⟩
theorem Zba (a : FRef) : fkd (kagg FRef.kv a) = a := rfl
theorem Zg7 {C : Ctx} {a : FRef} {v : Value} (h : VR C (.v (kagg FRef.kv a)) v) : VR C a.av v := by
 rw [VR.val h]; exact Zc6 (FRef.kv a)
theorem Z7d (es : List (FRef × AV)) (ho : (es.map Prod.fst).Nodup) (i1 q : Nat) : SeqG Tryz.prog 140 [.ptr i1 1 0 0] [(i1, .rows 95 1 [[.map q]]), (q, .mp (fmp FRef.kv es))] (fun s : FRef => [s.av]) (AdmF (es.map Prod.fst)) (FinF (es.map Prod.fst)) := by
 refine ⟨⟨_, Tryz.func140, rfl, by decide +kernel⟩, ?_⟩
 intro id J Jx hY Hj hJ0
 refine Zw (n := 14) Tryz.func140 rfl (by decide +kernel) rfl rfl ?_
 intro Z C0 H0 wz C a w he hs
 obtain ⟨mb, N, ents, clock, hm, hu, hE, hw1, he1⟩ := Zbh (Z := Z) (k := 1) hs.wr rfl
 have hs1 : SR C ⟨enum [.yld id, .ptr i1 1 0 0] 0, [(i1, .rows 95 1 [[.map q]]), (q, .raw (.map ents clock))] ++ Hj, [], 14⟩ a w := ⟨hw1, hs.sl, hs.df, hs.du, hs.sz⟩
 refine wpIn_mono ((?_ : AWpO Z C ([(i1, .rows 95 1 [[.map q]]), (q, .raw (.map ents clock))] ++ Hj) w Tryz.prog none _ (RetQ Tryz.prog Tryz.f140 (SeqGR (FinF (es.map Prod.fst)) J Jx)) _) C a w (.refl ..) hs1) ?_
 rotate_left
 ·rintro e a' w' ⟨h1, C', s', hq, hs', he'⟩
  exact ⟨h1, C', s', hq, hs', (he.trans he1).trans he'⟩
 refine Z1g ?_
 refine Z1d ?_
 refine Z75 [(i1, .rows 95 1 [[.map q]])] (.map q) (w0 rfl) rfl (Z1k rfl rfl ⟨_, _, _, List.mem_cons_self, rfl, rfl⟩ Zm) (fun p hp => by rw [List.mem_singleton.1 hp]; exact List.mem_cons_self) ?_
 refine Z4q 1 (w0 rfl) rfl rfl rfl rfl hm hu (fun it => ?_)
 refine Z1n ?_
 refine Z2r ?_
 refine Z5y (α := List MapEntry × AHeap) (fun x => ⟨[(5, .ptr it 1 0 0), (0, .yld id)], [(it, .raw (.mapIter (some mb) clock (bornsA x.1) clock)), (q, .raw (.map ents clock))] ++ x.2, [], 14⟩)
  (fun x => GotF ents x.1 ∧ J (x.1.map fun e => fkd e.key) x.2) (fun x => (leftOf ents (bornsA x.1)).size) ([], Hj) ⟨.start ents, hJ0⟩ ?_ ?_
 ·exact Z3z (F := [_, _, _]) (F' := [_, _]) (Hj := Hj) [0, 2] ⟨rfl, rfl, trivial⟩ rfl rfl rfl (by decide) rfl rfl
 rintro x ⟨hG, hJx⟩
 refine Z1g ?_
 refine Z1d ?_
 refine Z5w 0 1 (w0 rfl) rfl rfl rfl rfl rfl hm hu hE.born (Nat.le_refl _) (fun hz => ?_) (fun e hem => ?_)
 ·refine Z33 (w0 rfl) rfl (Zo rfl rfl rfl) ?_
  refine Z1n ?_
  refine Z1g ?_
  refine Z3f rfl nofun (fun _ => ?_)
  refine Z42 (Z04 ?_)
  exact Zr rfl Zq (.cons _ (.cons _ (.refl _))) ⟨⟨_, rfl⟩, .inl ⟨_, _, hG.fin Zba hE ho hz, .refl _, hJx⟩⟩
 ·have hk := hE.keyF Zba (mem_left hem).1
  have hG2 := hG.step hem
  have hA : AdmF (es.map Prod.fst) ((x.1.map fun e => fkd e.key) ++ [fkd e.key]) := by have := hG2.keys Zba hE ho; rw [List.map_append] at this; exact this
  refine Z33 (w0 rfl) rfl (Zo rfl rfl rfl) ?_
  refine Z1n ?_
  refine Z1g ?_
  refine Z3f rfl (fun _ => ?_) nofun
  refine Z42 (Zk ?_)
  refine Z2r ?_
  refine Z1g ?_
  refine Z1d ?_
  refine Z4p 0 1 (w0 rfl) rfl rfl rfl rfl rfl hm hu (mem_left hem).1 hE.nd ?_
  refine Z33 (w0 rfl) rfl (Zaz (y := (fkd e.key).av) (Zo rfl rfl rfl) (fun C v h => by rw [hk.1] at h; exact Zg7 h)) ?_
  refine Zca ?_
  refine Z0w (w0 rfl) rfl (fun id => Z0o id rfl rfl rfl) (fun id1 => ?_)
  refine Z0r 0 (w0 rfl) rfl rfl rfl rfl rfl rfl rfl rfl rfl ?_
  refine Z6 ?_
  refine Z42 ?_
  refine Z7 ?_
  refine Z3 ?_
  refine Z2 (w0 rfl) rfl (Z0 rfl rfl) ?_
  refine Z0f 0 (w0 rfl) rfl rfl rfl rfl rfl Z6q ?_
  refine Z4o (J := J) (Jx := Jx) (l := (x.1.map fun e => fkd e.key) ++ [fkd e.key]) [_, _, _] x.2 (w0 rfl) rfl rfl rfl rfl rfl (hY _ _ _ hA hJx) (fun bY Hn hyT hyF => ?_)
  refine Z2 (w0 rfl) rfl (Z0h rfl rfl) ?_
  refine Z6 ?_
  refine Zh rfl ?_ ?_
  ·intro hc
   refine Z05 ?_
   exact Zr rfl Zq (.cons _ (.cons _ (.cons _ (.refl _)))) ⟨⟨_, rfl⟩, .inr ⟨_, _, .refl _, hyF (Z83 hc)⟩⟩
  ·intro hc
   refine Zk ?_
   refine ⟨(x.1 ++ [e], Hn), ⟨hG2, by show J ((x.1 ++ [e]).map fun e => fkd e.key) Hn; rw [List.map_append]; exact hyT (Zbm hc)⟩, GotF.dec hem, ?_⟩
   exact Z3z (F := [_, _, _]) (F' := [_, _]) (Hj := Hn) [1, 2] ⟨rfl, rfl, trivial⟩ rfl rfl (by rw [Z34]) (by decide) rfl rfl
theorem Z7a (g : Nat) (caps : List AV) (Hit : AHeap) (Adm Fin : List FRef → Prop) (hx : ∀ l, Adm l → l.length ≤ 1000) (hseq : SeqG Tryz.prog g caps Hit (fun s : FRef => [s.av]) Adm Fin) :
  ACalls Tryz.prog 238 [.v (.slice none 0 0), .fn (.func g) caps] Hit (GP (fun r : Nat × List FRef => .own r.1 2 0 r.2.length) (fun r => [(r.1, .rows 124 2 (r.2.map FRef.cells))]) (fun r => Fin r.2)) := by
 refine Zw (n := 13) Tryz.func238 rfl (by decide +kernel) rfl rfl ?_
 refine Z7 ?_
 refine Z3 ?_
 refine Z0w (w0 rfl) rfl (fun id => Z4z id rfl rfl rfl rfl rfl) (fun id1 => ?_)
 refine Z2 (w0 rfl) rfl (Z4 rfl rfl) ?_
 refine Z6 ?_
 refine Z7 ?_
 refine Z7 ?_
 refine Z4s 0 (qe := 124) (qs := 2) rfl (fun idq => ?_)
 refine Z3 ?_
 refine Z2 (w0 rfl) rfl (Z0 rfl rfl) ?_
 refine Z6 ?_
 refine Zn ?_
 refine Z5s (fun s : FRef => [s.av]) Adm Fin Hit [_, _] (fun pre Hb => ∃ q, Hb = [(q, .rows 124 2 (pre.map FRef.cells)), (id1, .rows 37 1 [[.own q 2 0 pre.length]])]) (fun _ _ _ => False) rfl (List.perm_append_comm (l₁ := [_, _])) ⟨idq, rfl⟩ (hseq) (fun _ => rfl) (lts rfl) ?_ ?_ ?_
 ·rintro l pre z Hb hA ⟨q, rfl⟩
  have hlz : pre.length < 1001 := by have := hx _ hA; simp at this; omega
  refine Z3 ?_
  refine Z0w (w0 rfl) rfl (fun id => Z0o id rfl rfl rfl) (fun id5 => ?_)
  refine Z0r 0 (w0 rfl) rfl rfl rfl rfl rfl rfl rfl rfl rfl ?_
  refine Z6 ?_
  refine ⟨rfl, ?_⟩
  refine Zn ?_
  refine Z3 ?_
  refine Z0f 2 (w0 rfl) rfl rfl rfl rfl rfl Zm ?_
  refine Z0f 0 (w0 rfl) rfl rfl rfl rfl rfl Z6q ?_
  refine Z0w (w0 rfl) rfl (fun id => Z0l id (ps := [(0, .tmp 9)]) rfl rfl rfl rfl rfl rfl rfl rfl) (fun id2 => ?_)
  refine Z1c 2 (w0 rfl) rfl rfl rfl rfl (by simp) rfl ⟨rfl, _, _, List.mem_of_getElem? (i := 0) rfl, by simp, rfl⟩ (by first | omega | (simp; omega) | (simp [maxLen]; omega) | (simp; done) | (simp [maxLen]; done)) (by first | omega | (simp; omega) | (simp [maxLen]; omega) | (simp; done) | (simp [maxLen]; done)) (fun id3 => ?_)
  refine Z0r 3 (w0 rfl) rfl rfl rfl rfl rfl rfl rfl rfl rfl ?_
  refine Z6 ?_
  exact ⟨⟨[], [_, _], [], 13⟩, Zd [2, 3] trivial rfl (by decide) rfl rfl, id3, by show [(_, AObj.rows _ _ _), (_, AObj.rows _ _ _)] = [(_, AObj.rows _ _ _), (_, AObj.rows _ _ _)]; simp [cellsA, FRef.cells]⟩
 ·rintro im ll Hb hfl ⟨q, rfl⟩
  refine Z7 ?_
  refine Z3 ?_
  refine Z0f 1 (w0 rfl) rfl rfl rfl rfl rfl Zm ?_
  refine Z2 (w0 rfl) rfl (Z4 rfl rfl) ?_
  refine Z6 ?_
  refine Z05 ?_
  exact Zf3 (F := [_, _]) rfl rfl (Zt rfl Zq) (.cons_cons _ (.cons _ .slnil)) (gp (q, ll) hfl rfl rfl)
 ·intro i c pre Hb h; exact h.elim
theorem Z60 (g : Nat) (caps : List AV) (Hit : AHeap) (Adm Fin : List FRef → Prop) (hx : ∀ l, Adm l → l.length ≤ 1000) (hseq : SeqG Tryz.prog g caps Hit (fun s : FRef => [s.av]) Adm Fin) :
  ACalls Tryz.prog 138 [.fn (.func g) caps] Hit (GP (fun r : Nat × List FRef => .own r.1 2 0 r.2.length) (fun r => [(r.1, .rows 124 2 (r.2.map FRef.cells))]) (fun r => Fin r.2)) := by
 refine Zw (n := 5) Tryz.func138 rfl (by decide +kernel) rfl rfl ?_
 refine Z7 ?_
 refine Z3 ?_
 refine Z2 (w0 rfl) rfl (Z4 rfl rfl) ?_
 refine Z6 ?_
 refine Z7 ?_
 refine Z3 ?_
 refine Z2 (w0 rfl) rfl (Z0 rfl rfl) ?_
 refine Ze Hit [] (w0 rfl) rfl rfl rfl rfl (by simp) (Z7a g caps Hit Adm Fin hx hseq) (fun r hr => ?_)
 refine Z2 (w0 rfl) rfl (Z4 rfl rfl) ?_
 refine Z6 ?_
 refine Z05 ?_
 exact Zr rfl (Zt rfl Zq) (.refl _) (gp r hr rfl rfl)
end Go.Sx
