/- YtecfpjokgjdjcaaRaB5: texts of this claim, one behind the other. -/
import Derived.RecoverIn
import Derived.LoopNIn
import Derived.Laws.BytesString
import Derived.Laws.Cells
import Derived.Test.YtecfpjokgjdjcaaRaB4
set_option linter.unusedVariables false
set_option linter.unusedSimpArgs false
set_option linter.unusedSectionVars false
set_option linter.unnecessarySimpa false
namespace Go.Sx
open Go
theorem Zai (id : Nat) {f : Fn} {cs xs : List AV} {d : Deferred} {cv : Array Value} {Z : List Nat} {C : Ctx} {H : AHeap} {w : World} (hw : WR C H w) (hid' : id ∉ C.U) (hZ : id ∉ Z) (ht : d.target = .fn f cv) (hcs : VRs C cs cv) (hxs : VRs C xs d.args) :
  ∃ C', WR C' ((id, .dfr f cs xs) :: H) w ∧ Ext Z C H w C' ((id, .dfr f cs xs) :: H) w ∧ mark C' id = d ∧ id ∈ C'.U := by
 let C' : Ctx := { hp := C.hp, m := fun i => if i = id then none else C.m i, U := id :: C.U, df := fun i => if i = id then some d else C.df i }
 have hm0 : C'.m id = none := if_pos rfl
 have hd0 : C'.df id = some d := if_pos rfl
 have hm : ∀ i, i ≠ id → C'.m i = C.m i := fun i hi => if_neg hi
 have hle : C.Le C' := ⟨fun _ _ h => h, fun i hi => hm i (by rintro rfl; exact hid' hi), fun i hi => List.mem_cons_of_mem _ hi, fun i hi => if_neg (by rintro rfl; exact hid' hi)⟩
 have hother : ∀ i o, (i, o) ∈ H → i ≠ id := by rintro i o hi rfl; exact hid' (hw.ids i o hi).1
 have hblk : ∀ b, blk C' ((id, .dfr f cs xs) :: H) b → blk C H b := by
  rintro b ⟨i, o, N, hi, hmi⟩
  rcases List.mem_cons.1 hi with h2 | h2
  ·cases h2; rw [hm0] at hmi; cases hmi
  ·rw [hm i (hother i o h2)] at hmi; exact ⟨i, o, N, h2, hmi⟩
 refine ⟨C', ⟨hw.hp, ?_, ?_, ?_, fun b hb => hw.dis b (hblk b hb)⟩, ⟨hle, ?_, rfl, rfl, rfl, Nat.le_refl _, fun _ _ _ => rfl, fun _ o h => .inl ⟨o, h⟩, fun b hb => .inl (hblk b hb), ?_⟩, ?_, List.mem_cons_self⟩
 ·simp only [List.map_cons, List.nodup_cons]
  refine ⟨fun hmem => ?_, hw.nd⟩
  obtain ⟨⟨i, o⟩, hi, he⟩ := List.mem_map.1 hmem
  exact hother i o hi he
 ·intro i o hi
  rcases List.mem_cons.1 hi with h2 | h2
  ·cases h2
   exact ⟨List.mem_cons_self, hm0, d, cv, hd0, ht, ⟨hcs.1, fun i x v a b => (hcs.2 i x v a b).mono hle⟩, hxs.1, fun i x v a b => (hxs.2 i x v a b).mono hle⟩
  ·obtain ⟨h3, h4⟩ := hw.ids i o h2
   exact ⟨hle.U i h3, h4.keep hle h3 (fun _ _ _ => rfl)⟩
 ·intro i j o o' b N N' hi hj h2 h3
  rcases List.mem_cons.1 hi with h4 | h4
  ·cases h4; rw [hm0] at h2; cases h2
  ·rcases List.mem_cons.1 hj with h5 | h5
   ·cases h5; rw [hm0] at h3; cases h3
   ·rw [hm i (hother i o h4)] at h2; rw [hm j (hother j o' h5)] at h3
    exact hw.inj i j o o' b N N' h4 h5 h2 h3
 ·intro z hz hzu hmem
  rcases List.mem_cons.1 hmem with h2 | h2
  ·exact hZ (h2 ▸ hz)
  ·exact hzu h2
 ·intro i o hi
  rcases List.mem_cons.1 hi with h2 | h2
  ·cases h2; exact .inr hid'
  ·exact .inl ⟨o, h2⟩
 ·simp [mark, hm0, hd0]
def EPost (k0 : Nat) (C0 : Ctx) (H0 : AHeap) (w0 : World) (x : Exit) (e' : ES) (n : Nat) : Exit → Act → World → Prop :=
 fun x' a' w' => x' = x ∧ ∃ C' Hl', SE C' Hl' e' n a' w' ∧ EX k0 C0 H0 w0 e'.k C' Hl' w'
section
variable {P : Program} {n : Nat}
def evOps (E : Ev) (P : Program) (n : Nat) (inR : Bool) (ops : Array Oper) : List Oper → ES → Option (Exit × ES)
 | [], e => some (.normal, e)
 | o :: r, e => bif dok o.dst n then (match wantG ops e.T o.guard with
  | none => none
  | some false => evOps E P n inR ops r { e with T := putT e.T o.dst (.v undef) }
  | some true => match evStep E P e inR o.op with
   | some (.val x H k) => evOps E P n inR ops r ⟨putT e.T o.dst x, H, e.D, k⟩
   | some (.pan ch H k) => some (.panic ch, ⟨e.T, H, e.D, k⟩)
   | some (.dfr f cs xs) => bif inR then none else bif Nat.blt e.k MM then evOps E P n inR ops r ⟨putT e.T o.dst (.v undef), e.H.put e.k (some (.dfr (.func f) cs xs)), e.k :: e.D, e.k + 1⟩ else none
   | none => none) else none
theorem Z44 {E : Ev} (hE : EvOk P E) {inR : Bool} {ro : Option Nat} (hro : ro ≠ none → inR = true) {ops : Array Oper} {k0 : Nat} {C0 : Ctx} {H0 : AHeap} {w0 : World} {x : Exit} {e' : ES} : ∀ (l : List Oper) (e : ES), evOps E P n inR ops l e = some (x, e') →
  ∀ k, ops.toList.drop k = l → ∀ C Hl a w, SE C Hl e n a w → EX k0 C0 H0 w0 e.k C Hl w → wpOpsIn (Wd ro) 0 P ops (EPost k0 C0 H0 w0 x e' n) (List.range' k l.length) a w
 | [], e, h, k, hk, C, Hl, a, w, hs, hx => by
  simp only [evOps, Option.some.injEq, Prod.mk.injEq] at h
  obtain ⟨rfl, rfl⟩ := h
  simp only [List.length_nil, List.range'_zero, wpOpsIn]
  exact ⟨rfl, C, Hl, hs, hx⟩
 | o :: r, e, h, k, hk, C, Hl, a, w, hs, hx => by
  obtain ⟨h1, h2⟩ := Z08 hk
  have ho : ops[k]? = some o := by rw [← Array.getElem?_toList]; exact h1
  rw [List.length_cons, List.range'_succ, wpOpsIn_cons]
  unfold wpOpIn
  simp only [ho]
  simp only [evOps] at h
  cases hd : dok o.dst n with
  | false => rw [hd] at h; cases h
  | true =>
   rw [hd, cond_true] at h
   split at h
   ·cases h
   ·rename_i hg
    have hw := Z3f hg
    simp only [hs.sr.wanted (s := ⟨e.T.ls, Hl, e.D, n⟩) hw, Bool.false_eq_true, if_false]
    exact ⟨fun _ _ => trivial, Z44 hE hro r _ h (k + 1) h2 C Hl _ w (hs.next hd (.refl C) (.v undef) hs.sr.wr hs.hs hs.fr) hx⟩
   ·rename_i hg
    have hw := Z3f hg
    simp only [hs.sr.wanted (s := ⟨e.T.ls, Hl, e.D, n⟩) hw, if_true]
    refine ⟨fun _ _ => trivial, ?_⟩
    split at h
    ·rename_i x1 H k1 hst
     refine (Z21 hE hst (fun _ _ _ h => by cases h)).2 C Hl n a w hs ro inR _ _ hro ?_
     intro v w1 C1 Hl1 hv hw1 hh hf hx1
     exact Z44 hE hro r _ h (k + 1) h2 C1 Hl1 _ w1 (hs.next hd hx1.le hv hw1 hh hf) (hx.trans hx1)
    ·rename_i ch H k1 hst
     cases h
     refine (Z21 hE hst (fun _ _ _ h => by cases h)).2 C Hl n a w hs ro inR _ _ hro ?_
     intro w1 C1 Hl1 hw1 hh hf hx1
     refine ⟨rfl, C1, Hl1, ⟨⟨hw1, fun t y hy => let ⟨v, a1, a2⟩ := hs.sr.sl t y hy; ⟨v, a1, a2.mono hx1.le⟩, ?_, fun i hi => hx1.le.U i (hs.sr.du i hi), hs.sr.sz⟩, hh, hf⟩, hx.trans hx1⟩
     rw [hs.sr.df]
     exact List.map_congr_left fun i hi => by simp [mark, hx1.le.m i (hs.sr.du i hi), hx1.le.df i (hs.sr.du i hi)]
    ·rename_i f cs xs hst
     cases hin : inR with
     | true => rw [hin] at h; cases h
     | false =>
      rw [hin, cond_false] at h
      cases hk1 : Nat.blt e.k MM with
      | false => rw [hk1] at h; cases h
      | true =>
       rw [hk1, cond_true] at h
       rw [hin] at hst hro
       refine (Z21 hE hst (fun _ _ _ _ => rfl)).2 C Hl n a w hs ro false _ _ hro ?_
       refine ⟨rfl, fun d cv hd1 hd2 hd3 => ?_⟩
       have hlt : e.k < MM := by rwa [Nat.blt_eq] at hk1
       obtain ⟨C1, g1, g2, g3, g4⟩ := Zai (Z := Zx e.k (e.k + 1)) e.k hs.sr.wr (hs.fr e.k (Nat.le_refl _) hlt) (fun h => by have := (mem_Zx.1 h).2; omega) hd1 hd2 hd3
       refine Z44 hE hro r _ h (k + 1) h2 C1 _ _ w ?_ (hx.trans (g2.ex (Nat.le_succ _)))
       refine ⟨⟨g1, ?_, ?_, ?_, ?_⟩, hs.hs.put (hs.hs.free hs.sr.wr hs.fr (Nat.le_refl _) hlt) List.mem_cons_self fun i o' _ h => List.mem_cons_of_mem _ h, (g2.ex (Nat.le_succ _)).fr hs.fr⟩
       ·have hsr := (hs.sr.put g2.le g1 (Z0t hd) (VR.v (C := C1) undef)).lks (T' := (putT e.T o.dst (.v undef)).ls) fun t y hy => Zdc hy
        intro t y hy
        obtain ⟨v, a1, a2⟩ := hsr.sl t y hy
        refine ⟨v, ?_, a2⟩
        rw [← a1]
        cases o.dst <;> rfl
       ·have : ({ a with defers := d :: a.defers }.put o.dst undef).defers = d :: a.defers := by cases o.dst <;> rfl
        rw [this, hs.sr.df]
        simp only [List.map_cons, g3]
        congr 1
        exact List.map_congr_left fun i hi => by simp [mark, g2.le.m i (hs.sr.du i hi), g2.le.df i (hs.sr.du i hi)]
       ·intro i hi
        rcases List.mem_cons.1 hi with rfl | hi
        ·exact g4
        ·exact g2.le.U i (hs.sr.du i hi)
       ·have : ({ a with defers := d :: a.defers }.put o.dst undef).tmps.size = a.tmps.size := by cases o.dst <;> simp [Act.put]
        rw [this]; exact hs.sr.sz
    ·cases h
theorem Z5p {E : Ev} (hE : EvOk P E) {inR : Bool} {ops : Array Oper} {x : Exit} {e' : ES} : ∀ (l : List Oper) (e : ES), evOps E P n inR ops l e = some (x, e') → e'.H.R = e.H.R
 | [], e, h => by simp only [evOps, Option.some.injEq, Prod.mk.injEq] at h; obtain ⟨rfl, rfl⟩ := h; rfl
 | o :: r, e, h => by
  simp only [evOps] at h
  cases hd : dok o.dst n with
  | false => rw [hd] at h; cases h
  | true =>
   rw [hd, cond_true] at h
   split at h
   ·cases h
   ·exact Z5p hE r { e with T := putT e.T o.dst (.v undef) } h
   ·split at h
    ·rename_i x1 H k1 hst
     have h1 := (Z21 hE hst (fun _ _ _ h => by cases h)).1
     exact (Z5p hE r ⟨putT e.T o.dst x1, H, e.D, k1⟩ h).trans h1
    ·rename_i ch H k1 hst
     cases h
     exact (Z21 hE hst (fun _ _ _ h => by cases h)).1
    ·rename_i f cs xs hst
     cases hin : inR with
     | true => rw [hin] at h; cases h
     | false =>
      rw [hin, cond_false] at h
      cases hk1 : Nat.blt e.k MM with
      | false => rw [hk1] at h; cases h
      | true =>
       rw [hk1, cond_true] at h
       exact Z5p hE r ⟨putT e.T o.dst (.v undef), e.H.put e.k (some (.dfr (.func f) cs xs)), e.k :: e.D, e.k + 1⟩ h
    ·cases h
def EOkW (P : Program) (ro : Option Nat) (n : Nat) (c : Code) (e : ES) (x : Exit) (e' : ES) : Prop :=
 ∀ C Hl a w, SE C Hl e n a w → c.wpIn (Wd ro) 0 P (EPost e.k C Hl w x e' n) a w
def EOk (P : Program) (ro : Option Nat) (n : Nat) (c : Code) (e : ES) (x : Exit) (e' : ES) : Prop := e'.H.R = e.H.R ∧ EOkW P ro n c e x e'
theorem EPost.from {k0 k : Nat} {C0 C : Ctx} {H0 Hl : AHeap} {w0 w : World} {x : Exit} {e' : ES} {x' : Exit} {a' : Act} {w' : World} (hx : EX k0 C0 H0 w0 k C Hl w) (h : EPost k C Hl w x e' n x' a' w') : EPost k0 C0 H0 w0 x e' n x' a' w' :=
 let ⟨h1, C', Hl', h2, h3⟩ := h; ⟨h1, C', Hl', h2, hx.trans h3⟩
def evRounds (f : ES → Option (Exit × ES)) : Nat → ES → Option (Exit × ES)
 | 0, _ => none
 | m + 1, e => match f e with
  | some (.normal, e') => evRounds f m e'
  | r => r
def mskOf (ms : List Nat) (o : Oper) : Nat := o.after.foldl (fun m e => bif Region.binds .any e then m ||| (1 <<< e.on) ||| ms.getD e.on 0 else m) 0
def msksOf (l : List Oper) : List Nat := l.foldl (fun ms o => ms ++ [mskOf ms o]) []
theorem Eff.more {o : Oper} {T T' : List (Nat × AV)} {Hn On : AHeap} {x : AV} (h : Eff P o T Hn x On) (ht : ∀ t y, lk T t = some y → lk T' t = some y) : Eff P o T' Hn x On := by
 have hev : ∀ p y, ev T p = some y → ev T' p = some y := by
  intro p y hy
  cases p with
  | tmp t => exact ht t y hy
  | const c => exact hy
  | func f => exact hy
  | global g => exact hy
 intro Z C H a w hw hn hv
 exact h Z C H a w hw hn fun p hp y hy => hv p hp y (hev p y hy)
theorem Wanted.more {ops : Array Oper} {T T' : List (Nat × AV)} {o : Oper} {b : Bool} (h : Wanted ops T o b) (ht : ∀ t y, lk T t = some y → lk T' t = some y) : Wanted ops T' o b := by
 rcases h with h | ⟨g, c, d, og, t, h1, h2, h3, ⟨h4, h5⟩ | ⟨h4, h5⟩⟩
 ·exact .inl h
 ·exact .inr ⟨g, c, d, og, t, h1, h2, h3, .inl ⟨ht _ _ h4, h5⟩⟩
 ·exact .inr ⟨g, c, d, og, t, h1, h2, h3, .inr ⟨ht _ _ h4, h5⟩⟩
def Agree (T : Tr AV) (l : List (Nat × AV)) : Prop := ∀ t y, T.get t = some y → lk l t = some y
theorem Agree.ls {T : Tr AV} {l : List (Nat × AV)} (h : Agree T l) : ∀ t y, lk T.ls t = some y → lk l t = some y := fun t y hy => h t y (by rw [← Tr.lk_ls]; exact hy)
theorem Agree.put {T : Tr AV} {l : List (Nat × AV)} (h : Agree T l) {d : Option Nat} {x : AV} : Agree (putT T d x) (Sx.put l d x) := by
 intro t y hy
 cases d with
 | none => exact h t y hy
 | some d =>
  simp only [Sx.put, lk]
  rcases Tr.put_get hy with ⟨rfl, e⟩ | ⟨hne, e⟩
  ·cases e; simp
  ·have hb : Nat.beq d t = false := by
    cases hb : Nat.beq d t with
    | true => exact absurd (Nat.eq_of_beq_eq_true hb).symm hne
    | false => rfl
   rw [hb, cond_false]; exact h t y e
def putObs (H : Hp) : AHeap → Hp
 | [] => H
 | (i, ob) :: r => putObs (H.put i (some ob)) r
def HatM (ms : List Nat) (i : Nat) (H : Hp) : List (Nat × AHeap) → Hp
 | [] => H
 | (j, obs) :: r => bif bitOf ms i j then putObs (HatM ms i H r) obs else HatM ms i H r
def addM (i : Nat) (obs : AHeap) (k1 : Nat) (M : List (Nat × AHeap)) : List (Nat × AHeap) :=
 bif obs.isEmpty then M else bif obs.all (fun p => Nat.blt p.1 k1 && (plainOb p.2 && nmOb (fun i => Nat.blt i k1) p.2)) then (i, obs) :: M else M
def confl (ops : Array Oper) (i : Nat) : Option Nat → Bool
 | none => false
 | some t => (List.range i).any fun j => match ops[j]? with
  | some o => o.dst == some t || (o.looksAt ops).contains t
  | none => false
def evCalm (E : Ev) (P : Program) (n : Nat) (ops : Array Oper) (ms : List Nat) (H0 : Hp) : Nat → List (Nat × AHeap) → List Oper → ES → Option (ES × List (AV × AHeap) × List Oper)
 | _, _, [], e => some (e, [], [])
 | i, M, o :: r, e => bif dok o.dst n then (bif confl ops i o.dst then some (e, [], o :: r) else match wantG ops e.T o.guard with
  | none => none
  | some false => match evCalm E P n ops ms H0 (i + 1) M r { e with T := putT e.T o.dst (.v undef) } with
   | some (e', rs, tl) => some (e', (.v undef, []) :: rs, tl)
   | none => none
  | some true => match evPureL P e.T (HatM ms i H0 M) o.op with
   | some x => match evCalm E P n ops ms H0 (i + 1) M r { e with T := putT e.T o.dst x } with
    | some (e', rs, tl) => some (e', (x, []) :: rs, tl)
    | none => none
   | none => match evNew P e.T e.k o.op with
    | some (x, ob) => bif Nat.blt e.k MM then (match evCalm E P n ops ms H0 (i + 1) (addM i [(e.k, ob)] (e.k + 1) M) r ⟨putT e.T o.dst x, e.H.put e.k (some ob), e.D, e.k + 1⟩ with
     | some (e', rs, tl) => some (e', (x, [(e.k, ob)]) :: rs, tl)
     | none => none) else none
    | none => match evCallC E e.T e.k (HatM ms i H0 M) o.op with
     | some (x, obs, k') => match evCalm E P n ops ms H0 (i + 1) (addM i obs k' M) r ⟨putT e.T o.dst x, putObs e.H obs, e.D, k'⟩ with
      | some (e', rs, tl) => some (e', (x, obs) :: rs, tl)
      | none => none
     | none => some (e, [], o :: r)) else none
theorem Hp.put_get' {H : Hp} {i a : Nat} {v : Option AObj} {ob : AObj} (h : (H.put i v).get a = some ob) : (a = i ∧ v = some ob) ∨ H.get a = some ob := by
 unfold Hp.get Hp.put at h
 unfold Hp.get
 simp only at h
 split at h
 ·rename_i o hg; exact .inr h
 ·rename_i hg
  rcases Tr.put_get h with ⟨rfl, e⟩ | ⟨_, e⟩
  ·exact .inl ⟨rfl, e⟩
  ·exact .inr e
theorem Z73 {a : Nat} {ob : AObj} : ∀ (l : AHeap) {H : Hp}, (putObs H l).get a = some ob → (a, ob) ∈ l ∨ H.get a = some ob
 | [], _, h => .inr h
 | (i, o) :: r, H, h => by
  rcases Z73 r h with h | h
  ·exact .inl (List.mem_cons_of_mem _ h)
  ·rcases Hp.put_get' h with ⟨rfl, e⟩ | h
   ·cases e; exact .inl List.mem_cons_self
   ·exact .inr h
theorem Z4w {ms : List Nat} {i a : Nat} {H : Hp} {ob : AObj} : ∀ (M : List (Nat × AHeap)), (HatM ms i H M).get a = some ob → H.get a = some ob ∨ ∃ j obs, (j, obs) ∈ M ∧ bitOf ms i j = true ∧ (a, ob) ∈ obs
 | [], h => .inl h
 | (j, obs) :: r, h => by
  simp only [HatM] at h
  cases hb : bitOf ms i j with
  | true =>
   rw [hb, cond_true] at h
   rcases Z73 obs h with h | h
   ·exact .inr ⟨j, obs, List.mem_cons_self, hb, h⟩
   ·rcases Z4w r h with h | ⟨j', o', h1, h2, h3⟩
    ·exact .inl h
    ·exact .inr ⟨j', o', List.mem_cons_of_mem _ h1, h2, h3⟩
  | false =>
   rw [hb, cond_false] at h
   rcases Z4w r h with h | ⟨j', o', h1, h2, h3⟩
   ·exact .inl h
   ·exact .inr ⟨j', o', List.mem_cons_of_mem _ h1, h2, h3⟩
theorem Zb1 {i k1 : Nat} {obs : AHeap} {M : List (Nat × AHeap)} {p : Nat × AHeap} (h : p ∈ addM i obs k1 M) : p ∈ M ∨ (p = (i, obs) ∧ ∀ q, q ∈ obs → q.1 < k1 ∧ plainOb q.2 = true ∧ nmOb (fun i => Nat.blt i k1) q.2 = true) := by
 unfold addM at h
 cases he : obs.isEmpty with
 | true => rw [he] at h; exact .inl h
 | false =>
  rw [he, cond_false] at h
  cases ha : obs.all (fun p => Nat.blt p.1 k1 && (plainOb p.2 && nmOb (fun i => Nat.blt i k1) p.2)) with
  | false => rw [ha] at h; exact .inl h
  | true =>
   rw [ha, cond_true] at h
   rcases List.mem_cons.1 h with h | h
   ·refine .inr ⟨h, fun q hq => ?_⟩
    have := List.all_eq_true.1 ha q hq
    rw [Bool.and_eq_true, Bool.and_eq_true, Nat.blt_eq] at this
    exact this
   ·exact .inl h
def rsX (rs : List (AV × AHeap)) (i : Nat) : AV := ((rs[i]?).map Prod.fst).getD (.v undef)
def rsO (rs : List (AV × AHeap)) (i : Nat) : AHeap := ((rs[i]?).map Prod.snd).getD []
theorem Z9r {T T' : List (Nat × AV)} (ht : ∀ t y, lk T t = some y → lk T' t = some y) {q : Operand} {y : AV} (h : ev T q = some y) : ev T' q = some y := by
 cases q with
 | tmp t => exact ht t y h
 | const c => exact h
 | func f => exact h
 | global g => exact h
def LookP (P : Program) (ops : Array Oper) (xs : Nat → AV) (os : Nat → AHeap) (T0 : List (Nat × AV)) (Hl : AHeap) (i : Nat) (o : Oper) (q : Operand) : Prop :=
 os i = [] ∧ ∃ y, ev (TT ops xs T0 i) q = some y ∧ ∃ Hn : AHeap, Eff P o (TT ops xs T0 i) Hn (xs i) [] ∧ (∀ p, p ∈ Hn → p ∈ Hl ∨ ∃ j, j < i ∧ p ∈ os j) ∧ ∀ p, p ∈ Hn → ∃ sz i' c, y = .ptr p.1 sz i' c
structure CalmOk (P : Program) (n : Nat) (ops : Array Oper) (xs : Nat → AV) (os : Nat → AHeap) (T0 : List (Nat × AV)) (Hl : AHeap) (k m k0 : Nat) (e' : ES) (D : List Nat) (R0 : List (Tr AObj)) (tl : List Oper) : Prop where
 good : ∀ i, k ≤ i → i < m → Good P ops n xs os T0 Hl i
 nms : ∀ i p, k ≤ i → i < m → p ∈ os i → k0 ≤ p.1 ∧ p.1 < e'.k ∧ p.1 < MM
 nd : ∀ i, k ≤ i → i < m → ((os i).map Prod.fst).Nodup
 lt : ∀ i j p q, k ≤ i → i < j → j < m → p ∈ os i → q ∈ os j → p.1 < q.1
 ag : Agree e'.T (TT ops xs T0 m)
 sub : SubH e'.H (HH os Hl m)
 le : k0 ≤ e'.k
 hD : e'.D = D
 hR : e'.H.R = R0
 tail : ops.toList.drop m = tl
 mv : ∀ i o, k ≤ i → i < m → ops[i]? = some o → looseOp o.op = true → o.guard = none → Eff P o (TT ops xs T0 i) [] (xs i) [] ∧ os i = []
 ml : ∀ i o t q, k ≤ i → i < m → ops[i]? = some o → o.op = .load t q → o.guard = none → LookP P ops xs os T0 Hl i o q
theorem Z7s : ∀ (l : AHeap) (H : Hp), (putObs H l).R = H.R
 | [], _ => rfl
 | (i, ob) :: r, H => Z7s r (H.put i (some ob))
theorem SubH.putObs : ∀ (l : AHeap) {H : Hp} {Hl : AHeap}, SubH H Hl → (∀ p, p ∈ l → getR H.R p.1 = none) → (∀ p, p ∈ l → p ∈ Hl) → SubH (Sx.putObs H l) Hl
 | [], _, _, h, _, _ => h
 | (i, ob) :: r, H, Hl, h, h1, h2 => SubH.putObs r (H := H.put i (some ob)) (h.put (h1 _ List.mem_cons_self) (h2 _ List.mem_cons_self) fun _ _ _ h => h) (fun p hp => h1 p (List.mem_cons_of_mem _ hp)) (fun p hp => h2 p (List.mem_cons_of_mem _ hp))
theorem Z8i {E : Ev} (hE : EvOk P E) {ops : Array Oper} {ms : List Nat} (hbit : ∀ i j, i < ops.size → j < i → bitOf ms i j = true → anc ops i i j = true) {H0 : Hp} {Hl : AHeap} (hs0 : SubH H0 Hl) {T0 : List (Nat × AV)} {xs : Nat → AV} {os : Nat → AHeap} {e' : ES} {tl : List Oper} : ∀ (l : List Oper) (e : ES) (k : Nat) (rs : List (AV × AHeap)) (M : List (Nat × AHeap)), evCalm E P n ops ms H0 k M l e = some (e', rs, tl) →
  ops.toList.drop k = l → (∀ j, j < rs.length → xs (k + j) = rsX rs j ∧ os (k + j) = rsO rs j) → Agree e.T (TT ops xs T0 k) → SubH e.H (HH os Hl k) → (∀ i, e.k ≤ i → i < MM → getR e.H.R i = none) → (∀ i ob, H0.get i = some ob → plainOb ob = true → nmOb (fun i => Nat.blt i MM) ob = true → i < MM → i < e.k ∧ nmOb (fun i => Nat.blt i e.k) ob = true) → (∀ j obs, (j, obs) ∈ M → j < k ∧ os j = obs ∧ ∀ p, p ∈ obs → p.1 < e.k ∧ plainOb p.2 = true ∧ nmOb (fun i => Nat.blt i e.k) p.2 = true) → CalmOk P n ops xs os T0 Hl k (k + rs.length) e.k e' e.D e.H.R tl
 | [], e, k, rs, M, h, hk, hrs, hag, hsub, hfree, hold, hM => by
  simp only [evCalm, Option.some.injEq, Prod.mk.injEq] at h
  obtain ⟨rfl, rfl, rfl⟩ := h
  exact ⟨fun i h1 h2 => absurd h2 (by simp; omega), fun i p h1 h2 => absurd h2 (by simp; omega), fun i h1 h2 => absurd h2 (by simp; omega), fun i j p q h1 h2 h3 => absurd h3 (by simp; omega), hag, hsub, Nat.le_refl _, rfl, rfl, hk, fun i o h1 h2 => absurd h2 (by simp; omega), fun i o t q h1 h2 => absurd h2 (by simp; omega)⟩
 | o :: r, e, k, rs, M, h, hk, hrs, hag, hsub, hfree, hold, hM => by
  obtain ⟨h1, h2⟩ := Z08 hk
  have ho : ops[k]? = some o := by rw [← Array.getElem?_toList]; exact h1
  simp only [evCalm] at h
  have hlt : k < ops.size := (Array.getElem?_eq_some_iff.1 ho).1
  have hHat : ∀ p : Nat × AObj, (HatM ms k H0 M).get p.1 = some p.2 → p ∈ Hl ∨ ∃ j, j < k ∧ p ∈ os j ∧ anc ops k k j = true := by
   intro p hp
   rcases Z4w M hp with h1 | ⟨j, obs, h1, h2, h3⟩
   ·exact .inl (hs0 p.1 p.2 h1)
   ·obtain ⟨g1, g2, _⟩ := hM j obs h1
    exact .inr ⟨j, g1, by rw [g2]; exact h3, hbit k j hlt g1 h2⟩
  have holdH : okTabs ((HatM ms k H0 M).R ++ [(HatM ms k H0 M).H]) = true → ∀ i ob, getR ((HatM ms k H0 M).R ++ [(HatM ms k H0 M).H]) i = some ob → i < e.k ∧ nmOb (fun i => Nat.blt i e.k) ob = true := by
   intro h1 i ob h2
   obtain ⟨g1, g2, g3⟩ := Z3a _ i ob h1 h2
   rcases Z4w M (Hp.get_tab h2) with h4 | ⟨j, obs, h4, _, h5⟩
   ·exact hold i ob h4 g1 g2 g3
   ·exact ⟨((hM j obs h4).2.2 (i, ob) h5).1, ((hM j obs h4).2.2 (i, ob) h5).2.2⟩
  -- one that is gone through
  have step : ∀ (x : AV) (obs : AHeap) (e1 : ES) (rs' : List (AV × AHeap)) (M' : List (Nat × AHeap)), (∀ p, p ∈ M' → p ∈ M ∨ (p = (k, obs) ∧ ∀ q, q ∈ obs → q.1 < e1.k ∧ plainOb q.2 = true ∧ nmOb (fun i => Nat.blt i e1.k) q.2 = true)) → rs = (x, obs) :: rs' → evCalm E P n ops ms H0 (k + 1) M' r e1 = some (e', rs', tl) → e1.T = putT e.T o.dst x → e1.D = e.D → e1.H.R = e.H.R → e.k ≤ e1.k →
    (∀ p, p ∈ obs → e.k ≤ p.1 ∧ p.1 < e1.k ∧ p.1 < MM) → (obs.map Prod.fst).Nodup → SubH e1.H (obs ++ HH os Hl k) → (xs k = x → os k = obs → Good P ops n xs os T0 Hl k) → (looseOp o.op = true → o.guard = none → Eff P o (TT ops xs T0 k) [] x [] ∧ obs = []) → (∀ t q, o.op = .load t q → o.guard = none → xs k = x → os k = obs → LookP P ops xs os T0 Hl k o q) → CalmOk P n ops xs os T0 Hl k (k + rs.length) e.k e' e.D e.H.R tl := by
   intro x obs e1 rs' M' hMM hr hcalm hT hD hR hle hob hnd hsb hgood hmv hml
   subst hr
   have h0 := hrs 0 (by simp)
   simp only [Nat.add_zero, rsX, rsO, List.getElem?_cons_zero, Option.map_some, Option.getD_some] at h0
   have hTT : TT ops xs T0 (k + 1) = put (TT ops xs T0 k) o.dst x := by
    show put (TT ops xs T0 k) ((ops[k]?).bind (·.dst)) (xs k) = _
    rw [ho, h0.1]; rfl
   have hHH : HH os Hl (k + 1) = obs ++ HH os Hl k := by
    show os k ++ HH os Hl k = _
    rw [h0.2]
   have ih := Z8i (tl := tl) hE hbit hs0 (T0 := T0) (xs := xs) (os := os) (e' := e') r e1 (k + 1) rs' M' hcalm h2 (fun j hj => by
    have := hrs (j + 1) (by simpa using hj)
    rw [show k + (j + 1) = k + 1 + j from by omega] at this
    simpa [rsX, rsO] using this) (by rw [hTT, hT]; exact hag.put) (by rw [hHH]; exact hsb) (fun i h1 h2 => by rw [hR]; exact hfree i (Nat.le_trans hle h1) h2)
    (fun i ob h2 p1 p2 p3 => by
     obtain ⟨g1, g2⟩ := hold i ob h2 p1 p2 p3
     exact ⟨Nat.lt_of_lt_of_le g1 hle, Z8u (fun j hj => by rw [Nat.blt_eq] at hj ⊢; omega) p1 g2⟩)
    (fun j obs' hj => by
     rcases hMM _ hj with h3 | ⟨h3, h4⟩
     ·obtain ⟨g1, g2, g3⟩ := hM j obs' h3
      refine ⟨by omega, g2, fun p hp => ?_⟩
      obtain ⟨g4, g5, g6⟩ := g3 p hp
      exact ⟨Nat.lt_of_lt_of_le g4 hle, g5, Z8u (fun j hj => by rw [Nat.blt_eq] at hj ⊢; omega) g5 g6⟩
     ·cases h3
      exact ⟨Nat.lt_succ_self _, h0.2, h4⟩)
   have hlen : k + ((x, obs) :: rs').length = k + 1 + rs'.length := by simp; omega
   rw [hlen]
   refine ⟨?_, ?_, ?_, ?_, ih.ag, ih.sub, Nat.le_trans hle ih.le, ih.hD.trans hD, ih.hR.trans hR, ih.tail, ?_, ?_⟩
   ·intro i hi hi2
    rcases Nat.eq_or_lt_of_le hi with rfl | hi
    ·exact hgood h0.1 h0.2
    ·exact ih.good i hi hi2
   ·intro i p hi hi2 hp
    rcases Nat.eq_or_lt_of_le hi with rfl | hi
    ·rw [h0.2] at hp
     have := hob p hp
     exact ⟨this.1, Nat.lt_of_lt_of_le this.2.1 ih.le, this.2.2⟩
    ·have := ih.nms i p hi hi2 hp
     exact ⟨Nat.le_trans hle this.1, this.2.1, this.2.2⟩
   ·intro i hi hi2
    rcases Nat.eq_or_lt_of_le hi with rfl | hi
    ·rw [h0.2]; exact hnd
    ·exact ih.nd i hi hi2
   ·intro i j p q hi hij hj hp hq
    rcases Nat.eq_or_lt_of_le hi with rfl | hi
    ·rw [h0.2] at hp
     have h3 := hob p hp
     have h4 := ih.nms j q hij hj hq
     omega
    ·exact ih.lt i j p q hi hij hj hp hq
   ·intro i o' hi hi2 ho' hop hgd
    rcases Nat.eq_or_lt_of_le hi with rfl | hi
    ·rw [ho] at ho'; cases ho'
     obtain ⟨m1, m2⟩ := hmv hop hgd
     exact ⟨by rw [h0.1]; exact m1, by rw [h0.2]; exact m2⟩
    ·exact ih.mv i o' hi hi2 ho' hop hgd
   ·intro i o' t q hi hi2 ho' hop hgd
    rcases Nat.eq_or_lt_of_le hi with rfl | hi
    ·rw [ho] at ho'; cases ho'
     exact hml t q hop hgd h0.1 h0.2
    ·exact ih.ml i o' t q hi hi2 ho' hop hgd
  cases hd : dok o.dst n with
  | false => rw [hd] at h; cases h
  | true =>
   rw [hd, cond_true] at h
   cases hcf : confl ops k o.dst with
   | true =>
    rw [hcf, cond_true] at h
    simp only [Option.some.injEq, Prod.mk.injEq] at h
    obtain ⟨rfl, h3, h4⟩ := h
    subst h3
    exact ⟨fun i h1 h2 => absurd h2 (by simp; omega), fun i p h1 h2 => absurd h2 (by simp; omega), fun i h1 h2 => absurd h2 (by simp; omega), fun i j p q h1 h2 h3 => absurd h3 (by simp; omega), hag, hsub, Nat.le_refl _, rfl, rfl, (by rw [List.length_nil, Nat.add_zero, hk, h4]), fun i o h1 h2 => absurd h2 (by simp; omega), fun i o t q h1 h2 => absurd h2 (by simp; omega)⟩
   | false =>
   rw [hcf, cond_false] at h
   split at h
   ·cases h
   ·rename_i hg
    split at h
    ·rename_i e1 rs' tl' hc
     simp only [Option.some.injEq, Prod.mk.injEq] at h
     obtain ⟨rfl, h3, rfl⟩ := h
     exact step _ [] _ rs' M (fun p hp => .inl hp) h3.symm hc rfl rfl rfl (Nat.le_refl _) nofun List.nodup_nil hsub (fun e1 e2 => ⟨o, ho, hd, .inl ⟨(Z3f hg).more hag.ls, e1, e2⟩⟩) (fun _ hgd => by rw [hgd] at hg; simp [wantG] at hg) (fun _ _ _ hgd => by rw [hgd] at hg; simp [wantG] at hg)
    ·cases h
   ·rename_i hg
    have hw := (Z3f hg).more hag.ls
    split at h
    ·rename_i x hx
     split at h
     ·rename_i e1 rs' tl' hc
      simp only [Option.some.injEq, Prod.mk.injEq] at h
      obtain ⟨rfl, h3, rfl⟩ := h
      obtain ⟨Hn, g1, g2⟩ := Z9p hx
      exact step x [] _ rs' M (fun p hp => .inl hp) h3.symm hc rfl rfl rfl (Nat.le_refl _) nofun List.nodup_nil hsub (fun e1 e2 => ⟨o, ho, hd, .inr ⟨hw, Hn, by rw [e1, e2]; exact g1.more hag.ls, fun p hp => hHat p (g2 p hp)⟩⟩) (fun hop _ => ⟨(Zde hop hx).more hag.ls, rfl⟩) (fun t q hop _ e1 e2 => by
       obtain ⟨y, hy, Hn', k1, k2⟩ := Zdd hop hx
       exact ⟨e2, y, Z9r hag.ls (by rw [Z0k]; exact hy), Hn', by rw [e1]; exact k1.more hag.ls, fun p hp => (hHat p (k2 p hp).1).imp (fun z => z) (fun ⟨j, a, b, _⟩ => ⟨j, a, b⟩), fun p hp => (k2 p hp).2⟩)
     ·cases h
    ·split at h
     ·rename_i x ob hx
      cases hk1 : Nat.blt e.k MM with
      | false => rw [hk1] at h; cases h
      | true =>
       rw [hk1, cond_true] at h
       split at h
       ·rename_i e1 rs' tl' hc
        simp only [Option.some.injEq, Prod.mk.injEq] at h
        obtain ⟨rfl, h3, rfl⟩ := h
        refine step x [(e.k, ob)] ⟨putT e.T o.dst x, e.H.put e.k (some ob), e.D, e.k + 1⟩ rs' _ (fun p hp => Zb1 (k1 := e.k + 1) hp) h3.symm hc rfl rfl rfl (Nat.le_succ _) (fun p hp => by rw [List.mem_singleton.1 hp]; exact ⟨Nat.le_refl _, Nat.lt_succ_self _, by rwa [Nat.blt_eq] at hk1⟩) (List.nodup_cons.2 ⟨List.not_mem_nil, List.nodup_nil⟩) (hsub.put (hfree _ (Nat.le_refl _) (by rwa [Nat.blt_eq] at hk1)) List.mem_cons_self fun i o' _ h => List.mem_cons_of_mem _ h)
         (fun e1 e2 => ⟨o, ho, hd, .inr ⟨hw, [], by rw [e1, e2]; exact (Z8k hx).more hag.ls, nofun⟩⟩) (fun hop _ => by revert hop hx; cases o.op <;> simp [looseOp, evNew]) (fun t q hop _ _ _ => by rw [hop] at hx; simp [evNew] at hx)
       ·cases h
     ·split at h
      ·rename_i x obs k1 hx
       obtain ⟨Hn, g1, g2, g3, g4, g5⟩ := Zbs hE hx holdH
       split at h
       ·rename_i e1 rs' tl' hc
        simp only [Option.some.injEq, Prod.mk.injEq] at h
        obtain ⟨rfl, h3, rfl⟩ := h
        refine step x obs ⟨putT e.T o.dst x, putObs e.H obs, e.D, k1⟩ rs' _ (fun p hp => Zb1 (k1 := k1) hp) h3.symm hc rfl rfl (Z7s obs e.H) g5 g3 g4 ?_
         (fun e1 e2 => ⟨o, ho, hd, .inr ⟨hw, Hn, by rw [e1, e2]; exact g1.more hag.ls, fun p hp => hHat p (g2 p hp)⟩⟩) (fun hop _ => by revert hop hx; cases o.op <;> simp [looseOp, evCallC]) (fun t q hop _ _ _ => by rw [hop] at hx; simp [evCallC] at hx)
        exact SubH.putObs obs (fun i o' h => List.mem_append_right _ (hsub i o' h)) (fun p hp => hfree p.1 (g3 p hp).1 (g3 p hp).2.2) (fun p hp => List.mem_append_left _ hp)
       ·cases h
      ·simp only [Option.some.injEq, Prod.mk.injEq] at h
       obtain ⟨rfl, h3, h4⟩ := h
       subst h3
       exact ⟨fun i h1 h2 => absurd h2 (by simp; omega), fun i p h1 h2 => absurd h2 (by simp; omega), fun i h1 h2 => absurd h2 (by simp; omega), fun i j p q h1 h2 h3 => absurd h3 (by simp; omega), hag, hsub, Nat.le_refl _, rfl, rfl, (by rw [List.length_nil, Nat.add_zero, hk, h4]), fun i o h1 h2 => absurd h2 (by simp; omega), fun i o t q h1 h2 => absurd h2 (by simp; omega)⟩
theorem Z42 {E : Ev} {ops : Array Oper} {ms : List Nat} {H0 : Hp} {e' : ES} {tl : List Oper} : ∀ (l : List Oper) (e : ES) (rs : List (AV × AHeap)) (i : Nat) (M : List (Nat × AHeap)), evCalm E P n ops ms H0 i M l e = some (e', rs, tl) → e'.H.R = e.H.R
 | [], e, rs, i, M, h => by simp only [evCalm, Option.some.injEq, Prod.mk.injEq] at h; obtain ⟨rfl, rfl, rfl⟩ := h; rfl
 | o :: r, e, rs, i, M, h => by
  simp only [evCalm] at h
  cases hd : dok o.dst n with
  | false => rw [hd] at h; cases h
  | true =>
   rw [hd, cond_true] at h
   cases hcf : confl ops i o.dst with
   | true =>
    rw [hcf, cond_true] at h
    simp only [Option.some.injEq, Prod.mk.injEq] at h
    obtain ⟨rfl, _, _⟩ := h
    rfl
   | false =>
   rw [hcf, cond_false] at h
   split at h
   ·cases h
   ·split at h
    ·rename_i e1 rs' tl' hc
     simp only [Option.some.injEq, Prod.mk.injEq] at h
     obtain ⟨rfl, _, rfl⟩ := h
     exact Z42 r { e with T := putT e.T o.dst (.v undef) } rs' _ _ hc
    ·cases h
   ·split at h
    ·rename_i x hx
     split at h
     ·rename_i e1 rs' tl' hc
      simp only [Option.some.injEq, Prod.mk.injEq] at h
      obtain ⟨rfl, _, rfl⟩ := h
      exact Z42 r { e with T := putT e.T o.dst x } rs' _ _ hc
     ·cases h
    ·split at h
     ·rename_i x ob hx
      cases hk1 : Nat.blt e.k MM with
      | false => rw [hk1] at h; cases h
      | true =>
       rw [hk1, cond_true] at h
       split at h
       ·rename_i e1 rs' tl' hc
        simp only [Option.some.injEq, Prod.mk.injEq] at h
        obtain ⟨rfl, _, rfl⟩ := h
        exact Z42 r ⟨putT e.T o.dst x, e.H.put e.k (some ob), e.D, e.k + 1⟩ rs' _ _ hc
       ·cases h
     ·split at h
      ·rename_i x obs k1 hx
       split at h
       ·rename_i e1 rs' tl' hc
        simp only [Option.some.injEq, Prod.mk.injEq] at h
        obtain ⟨rfl, _, rfl⟩ := h
        exact (Z42 r ⟨putT e.T o.dst x, putObs e.H obs, e.D, k1⟩ rs' _ _ hc).trans (Z7s obs e.H)
       ·cases h
      ·simp only [Option.some.injEq, Prod.mk.injEq] at h
       obtain ⟨rfl, _, _⟩ := h
       rfl
def eraseT (T : Tr AV) (l : List Nat) : Tr AV := l.foldl (fun T d => T.put d none) T
theorem Z6w {t : Nat} {y : AV} : ∀ (l : List Nat) (T : Tr AV), (eraseT T l).get t = some y → T.get t = some y ∧ t ∉ l
 | [], T, h => ⟨h, nofun⟩
 | d :: l, T, h => by
  obtain ⟨h1, h2⟩ := Z6w l (T.put d none) h
  rcases Tr.put_get h1 with ⟨_, e⟩ | ⟨hne, e⟩
  ·cases e
  ·exact ⟨e, fun hm => by rcases List.mem_cons.1 hm with h3 | h3; exact hne h3; exact h2 h3⟩
def isLoad : Op → Bool
 | .load _ _ => true
 | _ => false
def otherB (T : Tr AV) (op : Op) (id : Nat) : Bool := match op with
 | .store _ p _ => match evT T p with
  | some (.ptr i _ _ _) => !Nat.beq id i
  | _ => false
 | _ => false
theorem Z8n {E : Ev} {e : ES} {inR : Bool} {op : Op} {x : AV} {H : Hp} {k id : Nat} {b : AObj} (h : evStep E P e inR op = some (.val x H k)) (ho : otherB e.T op id = true) (hb : H.get id = some b) : e.H.get id = some b := by
 unfold otherB at ho
 split at ho
 ·rename_i t p q
  split at ho
  ·rename_i i sz i' c hp
   have hne : id ≠ i := by
    intro hi
    subst hi
    rw [Nat.beq_refl] at ho
    cases ho
   simp only [evStep] at h
   split at h
   ·rename_i y H2 k2 hs
    cases h
    have h1 : ∃ H3, evStore P e t p q = some H3 ∧ H = H3 := by
     have h2 : evMut P e (.store t p q) = some (x, H, k) := by
      revert hs
      unfold evOp
      simp [evPure, evNew]
     unfold evMut at h2
     simp only at h2
     split at h2
     ·rename_i H3 h3
      cases h2
      exact ⟨_, h3, rfl⟩
     ·cases h2
    obtain ⟨H3, h3, rfl⟩ := h1
    unfold evStore at h3
    rw [hp] at h3
    split at h3
    ·rename_i b1 n1 id1 sz1 i1 c1 x1 q1 q2 q3
     cases q2
     split at h3
     ·split at h3
      ·split at h3
       ·cases hc : (Nat.beq (cellsA x1).length n1 && (cellsA x1).all one && Nat.ble (c + n1) sz) with
        | false => rw [hc] at h3; cases h3
        | true =>
         rw [hc] at h3
         cases h3
         unfold Hp.get Hp.put at hb
         unfold Hp.get
         simp only at hb
         split at hb
         ·exact hb
         ·rcases Tr.put_get hb with ⟨e1, _⟩ | ⟨_, e1⟩
          ·exact absurd e1 hne
          ·exact e1
       ·cases h3
      ·cases h3
     ·cases h3
    ·cases h3
   ·cases h
  ·cases ho
 ·cases ho
def sameAt (ops : Array Oper) (ms : List Nat) (np : Nat) (T T2 : Tr AV) (op : Op) (H H2 : Hp) (j : Nat) : Bool := bif bitOf ms np j then true else match ops[j]? with
 | some o => match o.op with
  | .load _ q => match evT T q with
   | some (.ptr id _ _ _) => (match H.get id, H2.get id with
    | some a, some b => bif otherB T2 op id then true else eqOb a b
    | _, _ => false)
   | some (.elt _ _ _) => true
   | _ => false
  | _ => true
 | none => false
def looseB (ops : Array Oper) (j : Nat) : Bool := match ops[j]? with
 | some o => (looseOp o.op || isLoad o.op) && o.guard.isNone
 | none => false
def frDsts (ops : Array Oper) (ms : List Nat) (np : Nat) : List Nat := (List.range np).filterMap fun j => bif bitOf ms np j then none else (ops[j]?).bind (·.dst)
def mB (ops : Array Oper) (ms : List Nat) (np n : Nat) (om : Oper) : Bool :=
 Nat.blt np ops.size && ((List.range np).all (fun j => bitOf ms np j || looseB ops j) && ((List.range (ops.size - (np + 1))).all (fun d => bitOf ms (np + 1 + d) np) && (om.guard.isNone && (dok om.dst n && okDst ops (np + 1)))))
def evSegs (E : Ev) (P : Program) (n : Nat) (inR : Bool) (ops : Array Oper) (ms : List Nat) : Nat → Nat → ES → List Oper → Option (Exit × ES)
 | 0, _, _, _ => none
 | f + 1, i, e, l => match evCalm E P n ops ms e.H i [] l e with
  | some (e1, rs, tl) => bif Nat.ble (i + rs.length) ops.size && (okDst ops (i + rs.length) && okLooksM ops ms (i + rs.length)) then
    bif okTailM ops ms (i + rs.length) then evOps E P n inR ops tl e1 else (match tl with
     | [] => none
     | om :: tl' => bif mB ops ms (i + rs.length) n om then (match evStep E P { e1 with T := eraseT e1.T (frDsts ops ms (i + rs.length)) } inR om.op with
      | some (.val x H k) => bif (List.range (i + rs.length)).all (sameAt ops ms (i + rs.length) e1.T (eraseT e1.T (frDsts ops ms (i + rs.length))) om.op e1.H H) then evSegs E P n inR ops ms f (i + rs.length + 1) ⟨putT e1.T om.dst x, H, e1.D, k⟩ tl' else none
      | _ => none) else none)
   else none
  | none => none
def evDraw (E : Ev) (P : Program) (n : Nat) (inR : Bool) (ops : Array Oper) (e : ES) : Option (Exit × ES) :=
 bif okEdges ops && okCert ops (msksOf ops.toList) then evSegs E P n inR ops (msksOf ops.toList) (ops.size + 1) 0 e ops.toList else none
theorem Zao {E : Ev} (hE : EvOk P E) {inR : Bool} {ops : Array Oper} {ms : List Nat} {e' : ES} {x : Exit} : ∀ (f i : Nat) (e : ES) (l : List Oper), evSegs E P n inR ops ms f i e l = some (x, e') → e'.H.R = e.H.R
 | 0, _, _, _, h => by simp [evSegs] at h
 | f + 1, i, e, l, h => by
  simp only [evSegs] at h
  split at h
  ·rename_i e1 rs tl hc
   have hR := Z42 l e rs _ _ hc
   cases h1 : (Nat.ble (i + rs.length) ops.size && (okDst ops (i + rs.length) && okLooksM ops ms (i + rs.length))) with
   | false => rw [h1] at h; cases h
   | true =>
   rw [h1, cond_true] at h
   cases h2 : okTailM ops ms (i + rs.length) with
   | true => rw [h2, cond_true] at h; exact (Z5p hE tl e1 h).trans hR
   | false =>
   rw [h2, cond_false] at h
   split at h
   ·cases h
   ·rename_i om tl'
    cases h3 : mB ops ms (i + rs.length) n om with
    | false => rw [h3] at h; cases h
    | true =>
    rw [h3, cond_true] at h
    split at h
    ·rename_i y H k hst
     cases hsm : (List.range (i + rs.length)).all (sameAt ops ms (i + rs.length) e1.T (eraseT e1.T (frDsts ops ms (i + rs.length))) om.op e1.H H) with
     | false => rw [hsm] at h; cases h
     | true =>
     rw [hsm, cond_true] at h
     exact ((Zao hE f _ _ _ h).trans (Z21 (o := om) hE hst (fun _ _ _ h => by cases h)).1).trans hR
    ·cases h
  ·cases h
theorem Zfy {ps : Nat → AHeap} {H : AHeap} : ∀ (i : Nat), (∀ j, j < i → ps j = []) → HH ps H i = H
 | 0, _ => rfl
 | i + 1, h => by
  show ps i ++ HH ps H i = H
  rw [h i (Nat.lt_succ_self _), Zfy i (fun j hj => h j (by omega)), List.nil_append]
def LooseA (P : Program) (ops : Array Oper) (n : Nat) (ys : Nat → AV) (T0 : List (Nat × AV)) (Hl : AHeap) (j : Nat) : Prop :=
 ∃ o, ops[j]? = some o ∧ o.guard = none ∧ dok o.dst n = true ∧ ∃ Hn : AHeap, Eff P o (TT ops ys T0 j) Hn (ys j) [] ∧ (∀ p, p ∈ Hn → p ∈ Hl) ∧ ∀ p, p ∈ Hn → ∃ t q sz i c, o.op = .load t q ∧ ev (TT ops ys T0 j) q = some (.ptr p.1 sz i c)
theorem LooseA.congr {ops : Array Oper} {ys zs : Nat → AV} {T0 : List (Nat × AV)} {Hl : AHeap} {j : Nat} (h : LooseA P ops n ys T0 Hl j) (hy : ∀ i, i ≤ j → ys i = zs i) : LooseA P ops n zs T0 Hl j := by
 obtain ⟨o, h1, h3, h4, Hn, h5, h6, h7⟩ := h
 have e1 := Z0p (ops := ops) (T0 := T0) j (fun i hi => hy i (by omega))
 rw [e1, hy j (Nat.le_refl _)] at h5
 rw [e1] at h7
 exact ⟨o, h1, h3, h4, Hn, h5, h6, h7⟩
theorem LooseA.heap {ops : Array Oper} {ys : Nat → AV} {T0 : List (Nat × AV)} {Hl H2 : AHeap} {j : Nat} (h : LooseA P ops n ys T0 Hl j) (hh : ∀ p, p ∈ Hl → p ∈ H2) : LooseA P ops n ys T0 H2 j := by
 obtain ⟨o, h1, h3, h4, Hn, h5, h6, h7⟩ := h
 exact ⟨o, h1, h3, h4, Hn, h5, fun p hp => hh p (h6 p hp), h7⟩
theorem LooseA.good {ops : Array Oper} {ys : Nat → AV} {T0 : List (Nat × AV)} {j : Nat} {ps : Nat → AHeap} {H : AHeap} (h : LooseA P ops n ys T0 H j) (hp : ps j = []) : Good P ops n ys ps T0 H j := by
 obtain ⟨o, h1, h3, h4, Hn, h5, h6, h7⟩ := h
 exact ⟨o, h1, h4, .inr ⟨.inl ⟨h3, rfl⟩, Hn, by rw [hp]; exact h5, fun p hp => .inl (h6 p hp)⟩⟩
theorem Zb0 {os : Nat → AHeap} {H : AHeap} {p : Nat × AObj} : ∀ (i : Nat), (p ∈ H ∨ ∃ j, j < i ∧ p ∈ os j) → p ∈ HH os H i
 | 0, h => by
  rcases h with h | ⟨j, hj, _⟩
  ·exact h
  ·omega
 | i + 1, h => by
  show p ∈ os i ++ HH os H i
  rcases h with h | ⟨j, hj, h⟩
  ·exact List.mem_append_right _ (Zb0 i (.inl h))
  ·rcases Nat.eq_or_lt_of_le (Nat.le_of_lt_succ hj) with rfl | h2
   ·exact List.mem_append_left _ h
   ·exact List.mem_append_right _ (Zb0 i (.inr ⟨j, h2, h⟩))
theorem Z7x {ops : Array Oper} {xs : Nat → AV} {T0 : List (Nat × AV)} {t j : Nat} : ∀ (m : Nat), j ≤ m → (∀ j2, j ≤ j2 → j2 < m → (ops[j2]?).bind (·.dst) ≠ some t) → lk (TT ops xs T0 m) t = lk (TT ops xs T0 j) t
 | 0, h, _ => by
  have : j = 0 := by omega
  subst this; rfl
 | m + 1, h, hno => by
  rcases Nat.eq_or_lt_of_le h with rfl | h2
  ·rfl
  ·rw [← Z7x m (by omega) (fun j2 h3 h4 => hno j2 h3 (by omega))]
   show lk (put (TT ops xs T0 m) ((ops[m]?).bind (·.dst)) (xs m)) t = _
   have hd := hno m (by omega) (Nat.lt_succ_self _)
   cases hb : (ops[m]?).bind (·.dst) with
   | none => rfl
   | some d =>
    rw [hb] at hd
    have hne : Nat.beq d t = false := by
     cases hx : Nat.beq d t with
     | true => exact absurd (by rw [Nat.eq_of_beq_eq_true hx]) hd
     | false => rfl
    simp only [Sx.put, lk, hne, cond_false]
theorem Z70 {α : Type} : ∀ {l : List (Nat × α)}, (l.map Prod.fst).Nodup → ∀ {p q : Nat × α}, p ∈ l → q ∈ l → p.1 = q.1 → p = q
 | a :: r, h, p, q, hp, hq, he => by
  simp only [List.map_cons, List.nodup_cons] at h
  rcases List.mem_cons.1 hp with h1 | h1
  ·rcases List.mem_cons.1 hq with h2 | h2
   ·rw [h1, h2]
   ·exact absurd (List.mem_map.2 ⟨q, h2, by rw [← he, h1]⟩) h.1
  ·rcases List.mem_cons.1 hq with h2 | h2
   ·exact absurd (List.mem_map.2 ⟨p, h1, by rw [he, h2]⟩) h.1
   ·exact Z70 h.2 h1 h2 he
theorem Z8m {E : Ev} (hE : EvOk P E) {inR : Bool} {ro : Option Nat} (hro : ro ≠ none → inR = true) {ops : Array Oper} {ms : List Nat} (hed : okEdges ops = true) (hce : okCert ops ms = true) {k0 : Nat} {C0 : Ctx} {H0 : AHeap} {w0 : World} {x : Exit} {e' : ES} {T0 : List (Nat × AV)} {D : List Nat} :
  ∀ (f i : Nat) (e : ES) (l : List Oper), evSegs E P n inR ops ms f i e l = some (x, e') → ops.toList.drop i = l → ∀ (ys : Nat → AV) (C : Ctx) (Hl : AHeap) (w : World) (a : Act) (listed : Array Bool) (fuel : Nat),
   Agree e.T (TT ops ys T0 i) → e.D = D → SubH e.H Hl → Fr e.k C → EX k0 C0 H0 w0 e.k C Hl w → WR C Hl w → listed.size = ops.size → left ops listed = fuel → (∀ j, i ≤ j → j < ops.size → listed.getD j false = false) →
   (∀ j, j < i → listed.getD j false = false → LooseA P ops n ys T0 Hl j) →
   (∀ t y, lk T0 t = some y → (∀ j, j < i → (ops[j]?).bind (·.dst) ≠ some t) → ∃ v, a.tmps[t]? = some v ∧ VR C y v) →
   (∀ j t, j < i → listed.getD j false = true → (ops[j]?).bind (·.dst) = some t → ∃ v, a.tmps[t]? = some v ∧ VR C (ys j) v) →
   a.defers = D.map (mark C) → (∀ j, j ∈ D → j ∈ C.U) → a.tmps.size = n →
   (∀ j o, ops[j]? = some o → listed.getD j false = true → ∀ e, e ∈ o.after → Region.binds .any e = true → listed.getD e.on false = true) →
   wpAnyIn (Wd ro) 0 P .any ops (EPost k0 C0 H0 w0 x e' n) fuel listed a w
 | 0, _, _, _, h => by simp [evSegs] at h
 | f + 1, i, e, l, h => by
  intro hdrop ys C Hl w a listed fuel hag hD hsub hfr hex hwr hls hleft hun hlo hsl0 hsl1 hdf hdu hsz hdn
  subst hD
  simp only [evSegs] at h
  split at h
  case h_2 => cases h
  rename_i e1 rs tl hc
  cases h1 : (Nat.ble (i + rs.length) ops.size && (okDst ops (i + rs.length) && okLooksM ops ms (i + rs.length))) with
  | false => rw [h1] at h; cases h
  | true =>
  rw [h1, cond_true] at h
  rw [Bool.and_eq_true, Bool.and_eq_true] at h1
  obtain ⟨hnp, hDs, hLm⟩ := h1
  have hnp := Nat.le_of_ble_eq_true hnp
  generalize hnpe : i + rs.length = np at *
  have hbit : ∀ i j, i < ops.size → j < i → bitOf ms i j = true → anc ops i i j = true := fun i j hi hj hb => Z4z hed hce i hi j hj hb
  have hLk : okLooks ops np = true := by
   refine List.all_eq_true.2 fun i hi => ?_
   have h7 := List.all_eq_true.1 hLm i hi
   have hi' : i < ops.size := by have := List.mem_range.1 hi; omega
   rw [Array.getElem?_eq_getElem hi'] at h7 ⊢
   refine List.all_eq_true.2 fun t ht => List.all_eq_true.2 fun j hj => ?_
   have h8 := List.all_eq_true.1 (List.all_eq_true.1 h7 t ht) j hj
   simp only [Bool.or_eq_true, Bool.and_eq_true] at h8 ⊢
   exact h8.imp (fun z => z) fun h9 => ⟨h9.1, hbit i j hi' (Nat.blt_eq ▸ h9.1) h9.2⟩
  let ys' : Nat → AV := fun j => if j < i then ys j else rsX rs (j - i)
  let ps' : Nat → AHeap := fun j => if j < i then [] else rsO rs (j - i)
  have hys : ∀ j, j < i → ys j = ys' j := fun j hj => (if_pos hj).symm
  have hps : ∀ j, j < i → ps' j = [] := fun j hj => if_pos hj
  have hok : CalmOk P n ops ys' ps' T0 Hl i np e.k e1 e.D e.H.R tl := by
   have := Z8i (P := P) (n := n) hE (ms := ms) hbit hsub (T0 := T0) (xs := ys') (os := ps') l e i rs [] hc hdrop
    (fun j _ => by
     have h1 : ¬ (i + j < i) := by omega
     have h2 : i + j - i = j := by omega
     exact ⟨by show (if i + j < i then ys (i + j) else rsX rs (i + j - i)) = _; rw [if_neg h1, h2], by show (if i + j < i then [] else rsO rs (i + j - i)) = _; rw [if_neg h1, h2]⟩)
    (by rw [← Z0p (ops := ops) (T0 := T0) i (fun j hj => hys j hj)]; exact hag) (by rw [Zfy i hps]; exact hsub) (fun j h1 h2 => hsub.free hwr hfr h1 h2) (fun j ob h2 g1 g2 g3 => by
     obtain ⟨g4, g5⟩ := hwr.ids j ob (hsub j ob h2)
     have below : ∀ j, j ∈ C.U → Nat.blt j MM = true → Nat.blt j e.k = true := fun j hj hm => by
      rw [Nat.blt_eq] at hm ⊢
      rcases Nat.lt_or_ge j e.k with h3 | h3
      ·exact h3
      ·exact absurd hj (hfr j h3 hm)
     refine ⟨?_, Zhr g5 g1 below g2⟩
     have := below j g4 (by rw [Nat.blt_eq]; exact g3)
     rwa [Nat.blt_eq] at this) nofun
   rwa [hnpe] at this
  have hle : i ≤ np := by omega
  -- what the first part needs
  have hg : ∀ j, j < np → (j < i → LooseA P ops n ys T0 Hl j) → Good P ops n ys' ps' T0 Hl j := by
   intro j hj hU
   rcases Nat.lt_or_ge j i with h2 | h2
   ·exact ((hU h2).congr fun i' hi' => hys i' (by omega)).good (hps j h2)
   ·exact hok.good j h2 hj
  have hZ : ∀ j p, j < np → p ∈ ps' j → p.1 ∉ Zx e.k e1.k := by
   intro j p hj hp hz
   rcases Nat.lt_or_ge j i with h2 | h2
   ·rw [hps j h2] at hp; cases hp
   ·have h3 := hok.nms j p h2 hj hp
    have h4 := (mem_Zx.1 hz).2
    omega
  have hij : ∀ j1 j2 p q, j1 < np → j2 < np → p ∈ ps' j1 → q ∈ ps' j2 → p.1 = q.1 → j1 = j2 := by
   intro j1 j2 p q hj1 hj2 hp hq hpq
   have g1 : i ≤ j1 := by
    rcases Nat.lt_or_ge j1 i with h2 | h2
    ·rw [hps j1 h2] at hp; cases hp
    ·exact h2
   have g2 : i ≤ j2 := by
    rcases Nat.lt_or_ge j2 i with h2 | h2
    ·rw [hps j2 h2] at hq; cases hq
    ·exact h2
   rcases Nat.lt_trichotomy j1 j2 with h1 | h1 | h1
   ·have := hok.lt j1 j2 p q g1 h1 hj2 hp hq; omega
   ·exact h1
   ·have := hok.lt j2 j1 q p g2 h1 hj1 hq hp; omega
  have hnd : ∀ j, j < np → ((ps' j).map Prod.fst).Nodup := by
   intro j hj
   rcases Nat.lt_or_ge j i with h2 | h2
   ·rw [hps j h2]; exact List.nodup_nil
   ·exact hok.nd j h2 hj
  have hflat : (List.range np).flatMap (fun j => if listed.getD j false = true then ps' j else []) = [] := by
   rw [List.flatMap_eq_nil_iff]
   intro j hj
   have hj := List.mem_range.1 hj
   split
   ·rename_i hl
    rcases Nat.lt_or_ge j i with h2 | h2
    ·exact hps j h2
    ·rw [hun j h2 (by omega)] at hl; cases hl
   ·rfl
  have hI : Inv P ops np ys' ps' ⟨T0, Hl, e.D, n⟩ (Zx e.k e1.k) C Hl w listed a w C := by
   refine ⟨by rw [hflat]; exact hwr, ?_, ?_, hdf, hdu, hsz, ?_, by rw [hflat]; exact .refl .., hdn⟩
   ·intro t y hy hno
    exact hsl0 t y hy fun j hj => hno j (by omega)
   ·intro j t hj hl ht
    have h2 : j < i := by
     rcases Nat.lt_or_ge j i with h2 | h2
     ·exact h2
     ·rw [hun j h2 (by omega)] at hl; cases hl
    rw [← hys j h2]
    exact hsl1 j t h2 hl ht
   ·intro j p hj _ hp hu
    rcases Nat.lt_or_ge j i with h2 | h2
    ·rw [hps j h2] at hp; cases hp
    ·have h1 := hok.nms j p h2 hj hp
     exact hfr p.1 h1.1 h1.2.2 hu
  have hUl : ∀ j, j < np → listed.getD j false = false → j < i → LooseA P ops n ys T0 Hl j := fun j _ hl h2 => hlo j h2 hl
  have hun' : ∀ j, np ≤ j → j < ops.size → listed.getD j false = false := fun j h1 h2 => hun j (by omega) h2
  cases h2 : okTailM ops ms np with
  | true =>
   rw [h2, cond_true] at h
   have hT : okTail ops np = true := by
    refine List.all_eq_true.2 fun d hd => List.all_eq_true.2 fun i hi => ?_
    have h7 := List.all_eq_true.1 (List.all_eq_true.1 h2 d hd) i hi
    have hd' := List.mem_range.1 hd
    exact hbit (np + d) i (by omega) (List.mem_range.1 hi) h7
   have htd : tidy ops np = true := by
    simp only [tidy, Bool.and_eq_true]
    exact ⟨⟨⟨⟨by rw [Nat.ble_eq]; exact hnp, hed⟩, hDs⟩, hLk⟩, hT⟩
   refine Zdp (s := ⟨T0, Hl, e.D, n⟩) htd hok.tail ?_ hg hZ hij hnd fuel listed a w C hls hleft hun' hUl hI
   intro C' a' w' hx hsr
   have hxx := hx.ex hok.le
   have hs1 : SE C' (HH ps' Hl np) e1 n a' w' := by
    refine ⟨?_, hok.sub, hxx.fr hfr⟩
    have := hsr.lks (T' := e1.T.ls) hok.ag.ls
    exact ⟨this.wr, this.sl, by rw [this.df]; show List.map (mark C') e.D = _; rw [← hok.hD], by show ∀ i, i ∈ e1.D → _; rw [hok.hD]; exact this.du, this.sz⟩
   exact Z44 hE hro (C0 := C0) (H0 := H0) (w0 := w0) tl e1 h np hok.tail C' _ a' w' hs1 (hex.trans hxx)
  | false =>
  rw [h2, cond_false] at h
  have htail := hok.tail
  cases tl with
  | nil => simp at h
  | cons om tl' =>
  simp only at h
  cases h3 : mB ops ms np n om with
  | false => rw [h3] at h; cases h
  | true =>
  rw [h3, cond_true] at h
  simp only [mB, Bool.and_eq_true, Nat.blt_eq] at h3
  obtain ⟨hlt0, hA, hB, hgm, hdm, hDm⟩ := h3
  obtain ⟨hd1, hd2⟩ := Z08 htail
  have hom : ops[np]? = some om := by rw [← Array.getElem?_toList]; exact hd1
  have hgm : om.guard = none := by simpa using hgm
  split at h
  case h_2 => cases h
  rename_i y H2 k2 hst
  cases hsm : (List.range np).all (sameAt ops ms np e1.T (eraseT e1.T (frDsts ops ms np)) om.op e1.H H2) with
  | false => rw [hsm] at h; cases h
  | true =>
  rw [hsm, cond_true] at h
  refine Zgl (U := fun j => j < i → LooseA P ops n ys T0 Hl j) (s := ⟨T0, Hl, e.D, n⟩) hnp hed hDs hLk hg hZ hij hnd (fun _ _ _ _ h => by omega) ?_ fuel listed a w C hls hleft hun' hUl hI
  intro fuel1 listed1 a1 w1 C1 i1 hls1 hleft1 hun1 hUl1 hI1 hin1 hi1
  obtain ⟨q3, o, ho, hdeps⟩ := mem_ready.1 hi1
  have hlt : i1 < ops.size := (Array.getElem?_eq_some_iff.1 ho).1
  have hi' : i1 = np := by
   rcases Nat.lt_or_ge np i1 with h4 | h4
   ·have h7 := List.all_eq_true.1 hB (i1 - (np + 1)) (List.mem_range.2 (by omega))
    rw [show np + 1 + (i1 - (np + 1)) = i1 from by omega] at h7
    have := Z1i hI1.dn i1 i1 np o ho hdeps (hbit i1 np hlt h4 h7)
    rw [hun1 np (Nat.le_refl _) hlt0] at this; cases this
   ·omega
  subst hi'
  rw [hom] at ho; cases ho
  have hlA : ∀ j, j < i1 → bitOf ms i1 j = true → listed1.getD j false = true := fun j hj hb => Z1i hI1.dn i1 i1 j om hom hdeps (hbit i1 j hlt hj hb)
  have hloose : ∀ j, j < i1 → listed1.getD j false = false → LooseA P ops n ys' T0 (HH ps' Hl i1) j ∧ ps' j = [] ∧ bitOf ms i1 j = false := by
   intro j hj hl
   have hnb : bitOf ms i1 j = false := by
    cases hb : bitOf ms i1 j with
    | false => rfl
    | true => rw [hlA j hj hb] at hl; cases hl
   rcases Nat.lt_or_ge j i with h4 | h4
   ·exact ⟨((hUl1 j hj hl h4).congr fun i' hi' => hys i' (by omega)).heap (fun p hp => Zb0 i1 (.inl hp)), hps j h4, hnb⟩
   ·have := List.all_eq_true.1 hA j (List.mem_range.2 hj)
    rw [hnb, Bool.false_or] at this
    unfold looseB at this
    split at this
    ·rename_i oj hoj
     rw [Bool.and_eq_true] at this
     have g2 : oj.guard = none := by simpa using this.2
     obtain ⟨o', ho', hdk, _⟩ := hok.good j h4 hj
     rw [hoj] at ho'; cases ho'
     rcases Bool.or_eq_true _ _ ▸ this.1 with h5 | h5
     ·obtain ⟨m1, m2⟩ := hok.mv j oj h4 hj hoj h5 g2
      exact ⟨⟨oj, hoj, g2, hdk, [], m1, nofun, nofun⟩, m2, hnb⟩
     ·unfold isLoad at h5
      split at h5
      ·rename_i lt lq hop
       obtain ⟨m2, yy, m3, Hn, m4, m5, m6⟩ := hok.ml j oj lt lq h4 hj hoj hop g2
       refine ⟨⟨oj, hoj, g2, hdk, Hn, m4, fun p hp => Zb0 i1 ((m5 p hp).imp (fun z => z) (fun ⟨j2, a, b⟩ => ⟨j2, by omega, b⟩)), fun p hp => ?_⟩, m2, hnb⟩
       obtain ⟨sz, i', c, hyy⟩ := m6 p hp
       exact ⟨lt, lq, sz, i', c, hop, by rw [m3, hyy]⟩
      ·cases h5
    ·cases this
  have hp' : ((List.range i1).flatMap (fun j => if listed1.getD j false = true then ps' j else []) ++ Hl).Perm (HH ps' Hl i1) := by
   refine List.Perm.trans ?_ (Z9a ps' Hl i1).symm
   refine List.Perm.append_right _ ?_
   have : ∀ l : List Nat, (∀ j, j ∈ l → j < i1) → l.flatMap (fun j => if listed1.getD j false = true then ps' j else []) = l.flatMap ps' := by
    intro l
    induction l with
    | nil => intro _; rfl
    | cons x l ih =>
     intro h
     simp only [List.flatMap_cons]
     rw [ih (fun j hj => h j (List.mem_cons_of_mem _ hj))]
     congr 1
     cases hl : listed1.getD x false with
     | true => rw [if_pos rfl]
     | false => rw [(hloose x (h x List.mem_cons_self) hl).2.1]; simp
   rw [this _ (fun j hj => List.mem_range.1 hj)]
  have hset : ∀ j, (listed1.setIfInBounds i1 true).getD j false = if j = i1 then true else listed1.getD j false := by
   intro j
   by_cases e : j = i1
   ·subst e; have : j < listed1.size := by omega
    simp [this]
   ·rw [if_neg e, getD_set_ne _ (Ne.symm e)]
  unfold wpOpIn
  simp only [hom]
  rw [show Region.wanted om (yielded ops a1.tmps) = true by simp [Region.wanted, hgm]]
  simp only [if_true]
  refine ⟨fun _ _ => trivial, ?_⟩
  have hxx := (hI1.ext.permR hp').ex hok.le
  have hs1 : SE C1 (HH ps' Hl i1) { e1 with T := eraseT e1.T (frDsts ops ms i1) } n a1 w1 := by
   refine ⟨⟨hI1.wr.perm hp', ?_, by rw [hI1.df]; show List.map (mark C1) e.D = _; rw [← hok.hD], by show ∀ i, i ∈ e1.D → _; rw [hok.hD]; exact hI1.du, hI1.sz⟩, hok.sub, hxx.fr hfr⟩
   intro t y hy
   rw [Tr.lk_ls] at hy
   obtain ⟨g1, g2⟩ := Z6w _ _ hy
   rcases Z3j i1 (hok.ag t y g1) with ⟨j, q1, q2, rfl⟩ | ⟨q1, q2⟩
   ·refine hI1.sl1 j t q1 (hlA j q1 ?_) q2
    cases hb : bitOf ms i1 j with
    | true => rfl
    | false => exact absurd (List.mem_filterMap.2 ⟨j, List.mem_range.2 q1, by rw [hb, cond_false]; exact q2⟩) g2
   ·exact hI1.sl0 t y q1 q2
  refine (Z21 (o := om) hE hst (fun _ _ _ h => by cases h)).2 C1 _ n a1 w1 hs1 ro inR _ _ hro ?_
  intro v w2 C2 Hl2 hv hw2 hh hfr2 hx2
  have hput : ∀ t', om.dst ≠ some t' → (a1.put om.dst v).tmps[t']? = a1.tmps[t']? := by
   intro t' hne
   cases hd : om.dst with
   | none => rfl
   | some d =>
    have hne' : d ≠ t' := by rintro rfl; exact hne hd
    simp [Act.put, Array.getElem?_setIfInBounds_ne hne']
  have hdd : ∀ j t, j < i1 → (ops[j]?).bind (·.dst) = some t → om.dst ≠ some t := by
   intro j t hj hjt hmt
   have h5 := List.all_eq_true.1 (List.all_eq_true.1 hDm i1 (List.mem_range.2 (Nat.lt_succ_self _))) j (List.mem_range.2 hj)
   have hb : (ops[i1]?).bind (·.dst) = some t := by rw [hom]; exact hmt
   rw [hb, hjt] at h5; simp at h5
  let ys2 : Nat → AV := fun j => if j = i1 then y else ys' j
  have hys2 : ∀ j, j < i1 → ys' j = ys2 j := fun j hj => (if_neg (by omega)).symm
  have hys3 : ys2 i1 = y := if_pos rfl
  refine Z8m hE hro hed hce (T0 := T0) (D := e.D) f (i1 + 1) _ _ h hd2 ys2 C2 Hl2 w2 (a1.put om.dst v) (listed1.setIfInBounds i1 true) fuel1 ?_ hok.hD hh hfr2 ((hex.trans hxx).trans hx2) hw2 (by simpa using hls1) (by have := Z47 hlt hls1 (hun1 i1 (Nat.le_refl _) hlt); omega) ?_ ?_ ?_ ?_ ?_ (fun j hj => hx2.le.U j (hI1.du j hj)) ?_ ?_
  ·have e1 : TT ops ys2 T0 (i1 + 1) = put (TT ops ys' T0 i1) om.dst y := by
    show put (TT ops ys2 T0 i1) ((ops[i1]?).bind (·.dst)) (ys2 i1) = _
    rw [hom, hys3, Z0p (ops := ops) (T0 := T0) i1 (fun j hj => (hys2 j hj).symm)]; rfl
   rw [e1]; exact hok.ag.put
  ·intro j hj hj2
   rw [hset, if_neg (by omega)]; exact hun1 j (by omega) hj2
  ·intro j hj hl
   rw [hset] at hl
   split at hl
   ·cases hl
   ·rename_i hne
    have hji : j < i1 := by omega
    obtain ⟨⟨oj, q1, q2, q3, Hn, q4, q5, q6⟩, _, hnb⟩ := hloose j hji hl
    refine LooseA.congr (ys := ys') ⟨oj, q1, q2, q3, Hn, q4, fun p hp => ?_, q6⟩ fun i' hi' => hys2 i' (by omega)
    obtain ⟨lt, lq, sz, i', c, hop, hev⟩ := q6 p hp
    have hsj := List.all_eq_true.1 hsm j (List.mem_range.2 hji)
    unfold sameAt at hsj
    rw [hnb, cond_false, q1] at hsj
    simp only [hop] at hsj
    have hst2 : ev (TT ops ys' T0 i1) lq = some (.ptr p.1 sz i' c) := by
     cases lq with
     | tmp t =>
      show lk (TT ops ys' T0 i1) t = _
      rw [Z7x (j := j) i1 (by omega) ?_]; exact hev
      intro j2 h8 h9 hjd
      have h7 := List.all_eq_true.1 hLk j (List.mem_range.2 hji)
      rw [q1] at h7
      have h10 := List.all_eq_true.1 (List.all_eq_true.1 h7 t (Z5w (by rw [hop]; simp [Op.operands]))) j2 (List.mem_range.2 h9)
      rw [hjd] at h10
      simp only [beq_self_eq_true, Bool.not_true, Bool.false_or, Bool.and_eq_true, Nat.blt_eq] at h10
      omega
     | const v => exact hev
     | func v => exact hev
     | global v => exact hev
    split at hsj
    ·rename_i id sz2 i2 c2 hy2
     have h11 := Z9r hok.ag.ls (show ev e1.T.ls lq = _ by rw [Z0k]; exact hy2)
     rw [hst2] at h11
     cases h11
     split at hsj
     ·rename_i a b ha hb
      have hab : e1.H.get p.1 = some b := by
       cases hot : otherB (eraseT e1.T (frDsts ops ms i1)) om.op p.1 with
       | true => exact Z8n (e := { e1 with T := eraseT e1.T (frDsts ops ms i1) }) hst hot hb
       | false => rw [hot, cond_false] at hsj; rw [ha, Zcz hsj]
      have hab := hab.symm.trans ha
      cases hab
      have h12 := Z70 (hI1.wr.perm hp').nd (hok.sub _ _ ha) (q5 p hp) rfl
      have h13 := hh _ _ hb
      rw [h12] at h13
      exact h13
     ·cases hsj
    ·rename_i hy2
     have h11 := Z9r hok.ag.ls (show ev e1.T.ls lq = _ by rw [Z0k]; exact hy2)
     rw [hst2] at h11
     cases h11
    ·cases hsj
  ·intro t z hz hno
   have hmt : om.dst ≠ some t := fun hmt => hno i1 (Nat.lt_succ_self _) (by rw [hom]; exact hmt)
   obtain ⟨u, q1, q2⟩ := hI1.sl0 t z hz fun j hj => hno j (by omega)
   exact ⟨u, by rw [hput t hmt]; exact q1, q2.mono hx2.le⟩
  ·intro j t hj hl hjt
   by_cases hji : j = i1
   ·subst hji
    have hmt : om.dst = some t := by rw [hom] at hjt; exact hjt
    refine ⟨v, ?_, by rw [hys3]; exact hv⟩
    have hlt1 : t < a1.tmps.size := by rw [hI1.sz]; exact Z0t hdm t hmt
    simp [Act.put, hmt, hlt1]
   ·rw [hset, if_neg hji] at hl
    obtain ⟨u, q1, q2⟩ := hI1.sl1 j t (by omega) hl hjt
    exact ⟨u, by rw [hput t (hdd j t (by omega) hjt)]; exact q1, by rw [← hys2 j (by omega)]; exact q2.mono hx2.le⟩
  ·have e1 : (a1.put om.dst v).defers = a1.defers := by cases om.dst <;> rfl
   rw [e1, hI1.df]
   exact List.map_congr_left fun j hj => by simp [mark, hx2.le.m j (hI1.du j hj), hx2.le.df j (hI1.du j hj)]
  ·have e1 : (a1.put om.dst v).tmps.size = a1.tmps.size := by cases om.dst <;> simp [Act.put]
   rw [e1]; exact hI1.sz
  ·intro j o2 ho2 hlj e he hb
   rw [hset]
   split
   ·rfl
   ·by_cases e2 : j = i1
    ·subst e2; rw [hom] at ho2; cases ho2; exact hdeps e he hb
    ·rw [hset, if_neg e2] at hlj; exact hI1.dn j o2 ho2 hlj e he hb
theorem Zan {E : Ev} (hE : EvOk P E) {inR : Bool} {ops : Array Oper} {e e' : ES} {x : Exit} (h : evDraw E P n inR ops e = some (x, e')) : e'.H.R = e.H.R := by
 unfold evDraw at h
 cases hec : (okEdges ops && okCert ops (msksOf ops.toList)) with
 | false => rw [hec] at h; cases h
 | true => rw [hec, cond_true] at h; exact Zao hE _ _ _ _ h
theorem Zd5 {E : Ev} (hE : EvOk P E) {inR : Bool} {ro : Option Nat} (hro : ro ≠ none → inR = true) {id : Nat} {ops : Array Oper} {e e' : ES} {x : Exit} (hm : P.follows .mixedOrders = true) (h : evDraw E P n inR ops e = some (x, e')) : EOk P ro n (.region id ops true) e x e' := by
 refine ⟨Zan hE h, ?_⟩
 intro C Hl a w hs
 unfold evDraw at h
 cases hec : (okEdges ops && okCert ops (msksOf ops.toList)) with
 | false => rw [hec] at h; cases h
 | true =>
 rw [hec, cond_true] at h
 rw [Bool.and_eq_true] at hec
 refine wpIn_region_any hm ?_
 have hw1 : WR C Hl { w with drawn := w.drawn + 1 } := ⟨hs.sr.wr.hp, hs.sr.wr.nd, fun i o hi => ⟨(hs.sr.wr.ids i o hi).1, (hs.sr.wr.ids i o hi).2.keep (.refl C) (hs.sr.wr.ids i o hi).1 (fun _ _ _ => rfl)⟩, hs.sr.wr.inj, hs.sr.wr.dis⟩
 have he1 : Ext [] C Hl w C Hl { w with drawn := w.drawn + 1 } := ⟨.refl C, fun _ _ h => h, rfl, rfl, rfl, Nat.le_refl _, fun _ _ _ => rfl, fun _ o h => .inl ⟨o, h⟩, fun b h => .inl h, fun i o h => .inl ⟨o, h⟩⟩
 have hf : ∀ i, (Array.replicate ops.size false).getD i false = false := by
  intro i
  rw [Array.getD_eq_getD_getElem?, Array.getElem?_replicate]
  split <;> rfl
 refine Z8m hE hro hec.1 hec.2 (T0 := e.T.ls) (D := e.D) (ops.size + 1) 0 e ops.toList h (by simp) (fun _ => .v undef) C Hl _ a _ ops.size (fun t y hy => by show lk e.T.ls t = some y; rw [Tr.lk_ls]; exact hy) rfl hs.hs hs.fr he1.same hw1 (by simp) ?_ (fun i _ _ => hf i) (fun j hj => absurd hj (Nat.not_lt_zero _)) (fun t y hy _ => hs.sr.sl t y hy) (fun j t hj => absurd hj (Nat.not_lt_zero _)) hs.sr.df hs.sr.du hs.sr.sz (fun i o _ hi => (by rw [hf] at hi; cases hi))
 unfold left
 rw [List.filter_eq_self.2 (fun i _ => by rw [hf]; rfl), List.length_range]
end
end Go.Sx
namespace Go.Sx
open Go
def Tr.toLF {α : Type} : Nat → Tr α → List (Nat × α)
 | 0, _ => []
 | _ + 1, .lf => []
 | f + 1, .nd l x r => (match x with | some v => [(0, v)] | none => []) ++ ((toLF f l).map fun p => (2 * p.1 + 1, p.2)) ++ ((toLF f r).map fun p => (2 * p.1 + 2, p.2))
theorem Tr.mem_toLF {α : Type} : ∀ (f : Nat) (t : Tr α) (k : Nat) (x : α), (k, x) ∈ Tr.toLF f t → Tr.getF f t k = some x
 | 0, t, k, x, h => by simp [Tr.toLF] at h
 | f + 1, .lf, k, x, h => by simp [Tr.toLF] at h
 | f + 1, .nd l y r, k, x, h => by
  simp only [Tr.toLF, List.mem_append, List.mem_map] at h
  rcases h with (h | ⟨p, h1, h2⟩) | ⟨p, h1, h2⟩
  ·cases y with
   | none => simp at h
   | some v => simp at h; obtain ⟨rfl, rfl⟩ := h; rfl
  ·cases h2
   have ih := Tr.mem_toLF f l p.1 p.2 h1
   have h3 : Nat.beq ((2 * p.1) % 2) 0 = true := by rw [show 2 * p.1 % 2 = 0 from by omega]; rfl
   have h4 : 2 * p.1 / 2 = p.1 := by omega
   simp only [Tr.getF, h3, h4, cond_true, ih]
  ·cases h2
   have ih := Tr.mem_toLF f r p.1 p.2 h1
   have h3 : Nat.beq ((2 * p.1 + 1) % 2) 0 = false := by rw [show (2 * p.1 + 1) % 2 = 1 from by omega]; rfl
   have h4 : (2 * p.1 + 1) / 2 = p.1 := by omega
   simp only [Tr.getF, h3, h4, cond_false, ih]
def Tr.toL (t : Tr AV) : List (Nat × AV) := Tr.toLF 40 t
theorem Zgg : ∀ (l : List (Nat × AV)) (k : Nat) (x : AV), lk l k = some x → (k, x) ∈ l
 | [], k, x, h => by simp [lk] at h
 | (a, y) :: r, k, x, h => by
  simp only [lk] at h
  cases hb : Nat.beq a k with
  | true => rw [hb] at h; simp at h; subst h; have := Nat.eq_of_beq_eq_true hb; subst this; exact List.mem_cons_self
  | false => rw [hb] at h; exact List.mem_cons_of_mem _ (Zgg r k x h)
theorem Tr.lk_toL {t : Tr AV} {k : Nat} {x : AV} (h : lk t.toL k = some x) : t.get k = some x := Tr.mem_toLF 40 t k x (Zgg _ _ _ h)
def Tr.ofL : List (Nat × AV) → Tr AV
 | [] => .lf
 | (k, x) :: r => (Tr.ofL r).put k (some x)
theorem Tr.ofL_get : ∀ (l : List (Nat × AV)) (k : Nat) (x : AV), (Tr.ofL l).get k = some x → lk l k = some x
 | [], k, x, h => by simp [Tr.ofL, Tr.get, Tr.getF_lf] at h
 | (a, y) :: r, k, x, h => by
  simp only [Tr.ofL] at h
  simp only [lk]
  rcases Tr.put_get h with ⟨rfl, e⟩ | ⟨hne, e⟩
  ·cases e; simp
  ·have hb : Nat.beq a k = false := by
    cases hb : Nat.beq a k with
    | true => exact absurd (Nat.eq_of_beq_eq_true hb).symm hne
    | false => rfl
   rw [hb, cond_false]; exact Tr.ofL_get r k x e
def Tr.prm (T : Tr AV) : List Tmp → List AV → Tr AV
 | p :: ps, x :: xs => Tr.prm (T.put p (some x)) ps xs
 | _, _ => T
theorem Tr.prm_agree : ∀ (ps : List Tmp) (xs : List AV) (T : Tr AV) (l : List (Nat × AV)), Agree T l → Agree (T.prm ps xs) (Sx.prm l ps xs)
 | [], xs, T, l, h => by cases xs <;> exact h
 | p :: ps, [], T, l, h => h
 | p :: ps, x :: xs, T, l, h => by
  simp only [Tr.prm, Sx.prm]
  exact Tr.prm_agree ps xs _ _ (h.put (d := some p) (x := x))
section
variable {P : Program} {n : Nat}
def codeExit : Code → Option Exit
 | .exit i => some (.exit i)
 | .goto i => some (.goto i)
 | .ret => some .ret
 | _ => none
def evC (E : Ev) (P : Program) (n : Nat) (inR : Bool) (L : Nat) : Code → ES → Option (Exit × ES)
 | .skip, e => some (.normal, e)
 | .label _, e => some (.normal, e)
 | .exit i, e => some (.exit i, e)
 | .goto i, e => some (.goto i, e)
 | .ret, e => some (.ret, e)
 | .refuse _, _ => none
 | .seq a b, e => match evC E P n inR L a e with
  | some (.normal, e') => evC E P n inR L b e'
  | r => r
 | .cond c a b, e => match evT e.T c with
  | some (.v (.bool true)) => evC E P n inR L a e
  | some (.v (.bool false)) => evC E P n inR L b e
  | _ => none
 | .block id c, e => match evC E P n inR L c e with
  | some (.exit i, e') => some (if i = id then .normal else .exit i, e')
  | r => r
 | .scope c, e => match evC E P n inR L c e with
  | some (.goto _, _) => none
  | r => r
 | .loop c, e => evRounds (fun e => evC E P n inR L c e) L e
 | .region _ ops false, e => evOps E P n inR ops ops.toList e
 | .region _ ops true, e => evDraw E P n inR ops e
 | .rangeFunc g ps assign body, e => bif inR then none else match evT e.T g with
  | some (.fn (.func gf) caps) => bif Nat.blt (e.k + 1) MM && ps.all (fun t => Nat.blt t n) then (match E.call gf (.yld (e.k + 1) :: caps) ((e.H.put e.k (some (.raw (.deferred (some []))))).put (e.k + 1) (some (.loop e.T.toL n ps assign body .ready none))) (e.k + 2) with
   | some (.ret _, H', k') => match H'.get (e.k + 1) with
    | some (.loop _ _ _ _ _ .ready none) => some (.normal, ⟨e.T, H'.put (e.k + 1) none, e.k :: e.D, k'⟩)
    | some (.loop _ _ _ _ _ .done (some c)) => match codeExit c with
     | some x => some (x, ⟨e.T, H'.put (e.k + 1) none, e.k :: e.D, k'⟩)
     | none => none
    | _ => none
   | _ => none) else none
  | _ => none
theorem Z9g {ro : Option Nat} {c : Code} {x : Exit} {e : ES} (h : codeExit c = some x) : EOkW P ro n c e x e := by
 intro C Hl a w hs
 unfold codeExit at h
 split at h
 ·cases h; exact wpIn_exit ⟨rfl, C, Hl, hs, .refl ..⟩
 ·cases h; exact wpIn_goto ⟨rfl, C, Hl, hs, .refl ..⟩
 ·cases h; exact wpIn_ret ⟨rfl, C, Hl, hs, .refl ..⟩
 ·cases h
theorem Z7q {Z : List Nat} {C : Ctx} {Hl : AHeap} {w : World} {j id l N : Nat} {r : Loop} {T : List (Nat × AV)} {n : Nat} {ps : Array Tmp} {assign body : Code} {st st' : LoopState} {pend pend' : Option Code}
  (hw : WR C Hl w) (hj : Hl[j]? = some (id, .loop T n ps assign body st pend)) (hm : C.m id = some (l, N)) (hr : w.heap[l]? = some (.loop r)) :
  WR C (Hl.set j (id, .loop T n ps assign body st' pend')) (w.putObj l (.loop { r with state := st', pending := pend' })) ∧
   Ext Z C Hl w C (Hl.set j (id, .loop T n ps assign body st' pend')) (w.putObj l (.loop { r with state := st', pending := pend' })) := by
 obtain ⟨hu, hor⟩ := hw.ids _ _ (List.mem_of_getElem? hj)
 obtain ⟨r', h1, h2, h3, h4, h5, h6, h7, h8⟩ := Z5x hor hm
 rw [hr] at h1; cases h1
 refine Z1h hw hj (.refl C) rfl (.inl rfl) hu (fun _ _ h => h) rfl rfl rfl (by simp) (fun b N' h => .inl ⟨N', h⟩) (fun b hb hne => World.putObj_heap_other (by rintro rfl; exact hne N hm)) ?_
 exact ⟨l, N, _, hm, World.putObj_heap_same (Array.getElem?_eq_some_iff.1 hr).1, rfl, rfl, h4, h5, h6, h7, h8⟩
theorem SubH.set {C : Ctx} {Hl : AHeap} {w : World} {H : Hp} {j id : Nat} {ob ob' : AObj} (hw : WR C Hl w) (hs : SubH H Hl) (hf : getR H.R id = none) (hj : Hl[j]? = some (id, ob)) : SubH (H.put id (some ob')) (Hl.set j (id, ob')) := by
 refine hs.put hf (Z2f hj) ?_
 intro i o' hne hm
 obtain ⟨m, hm⟩ := Z28 hm
 exact Z1w hm (Z4m hw hj hm hne)
theorem SubH.setE {C : Ctx} {Hl : AHeap} {w : World} {H : Hp} {j id : Nat} {ob ob' : AObj} (hw : WR C Hl w) (hs : SubH H Hl) (hf : getR H.R id = none) (hj : Hl[j]? = some (id, ob)) : SubH (H.put id none) (Hl.set j (id, ob')) := by
 intro i o hg
 obtain ⟨hne, e2⟩ := Z8q hf hg
 obtain ⟨m, hm⟩ := Z28 (hs i o e2)
 exact Z1w hm (Z4m hw hj hm hne)
theorem Zbv {E : Ev} (hE : EvOk P E) {L : Nat} {g : Operand} {ps : Array Tmp} {assign body : Code} {e : ES} {x : Exit} {e' : ES} (h : evC E P n false L (.rangeFunc g ps assign body) e = some (x, e')) : EOkW P none n (.rangeFunc g ps assign body) e x e' := by
 simp only [evC, cond_false] at h
 split at h
 ·rename_i gf caps hg
  cases hc : (Nat.blt (e.k + 1) MM && ps.all (fun t => Nat.blt t n)) with
  | false => rw [hc] at h; cases h
  | true =>
   rw [hc, cond_true] at h
   rw [Bool.and_eq_true, Nat.blt_eq] at hc
   split at h
   ·rename_i rx H' k' hcall
    have hcl := hE.call _ _ _ _ _ _ _ hcall
    intro C Hl a w hs
    refine wpIn_rangeFunc (F := Wd none) (n := 0) (fun fn _ => ?_)
    have f1 := hs.fr e.k (Nat.le_refl _) (by omega)
    have hZ : ∀ j, e.k ≤ j → j < e.k + 2 → j ∉ Zx e.k (e.k + 2) := fun j hj0 hj h => by have := (mem_Zx.1 h).2; omega
    have hd1 : OR (C.bind e.k w.heap.size 0) e.k (w.alloc (.deferred (some []))) (.raw (.deferred (some []))) := ⟨_, 0, Ctx.bind_m .., heap_alloc_new w _⟩
    obtain ⟨hw1, he1⟩ := Z64 (Z := Zx e.k (e.k + 2)) hs.sr.wr f1 (hZ _ (by omega) (by omega)) hd1
    have f2 : e.k + 1 ∉ (C.bind e.k w.heap.size 0).U := by
     intro h
     rcases List.mem_cons.1 h with h | h
     ·omega
     ·exact hs.fr (e.k + 1) (by omega) hc.1 h
    let rec0 : Loop := { state := .ready, pending := none, fn := fn, tmps := a.tmps, params := ps, assign := assign, body := body, defers := w.heap.size }
    let C2 := (C.bind e.k w.heap.size 0).bind (e.k + 1) (w.alloc (.deferred (some []))).heap.size 0
    let w2 := (w.alloc (.deferred (some []))).alloc (.loop rec0)
    have hsz1 : (w.alloc (.deferred (some []))).heap.size = w.heap.size + 1 := by simp
    have hl2 : OR C2 (e.k + 1) w2 (.loop e.T.toL n ps assign body .ready none) := by
     refine ⟨_, 0, rec0, Ctx.bind_m .., heap_alloc_new _ _, rfl, rfl, rfl, rfl, rfl, hs.sr.sz, fun t x ht => ?_⟩
     obtain ⟨v, h1, h2⟩ := hs.sr.sl t x (by rw [Tr.lk_ls]; exact Tr.lk_toL ht)
     exact ⟨v, h1, (h2.mono he1.le).mono (Ctx.le_bind f2)⟩
    obtain ⟨hw2, he2⟩ := Z64 (Z := Zx e.k (e.k + 2)) hw1 f2 (hZ _ (by omega) (by omega)) hl2
    have he12 := he1.trans he2
    have hm2 : C2.m (e.k + 1) = some (w.heap.size + 1, 0) := by rw [← hsz1]; exact Ctx.bind_m ..
    have hm1 : C2.m e.k = some (w.heap.size, 0) := by rw [he2.le.m e.k List.mem_cons_self]; exact Ctx.bind_m ..
    have hgv := hs.sr.ev (show ev e.T.ls g = some (.fn (.func gf) caps) by rw [Z0k]; exact hg)
    generalize hge : a.eval g = gv at hgv
    cases hgv with
    | fn _ _ vcaps hcl1 hcv =>
     refine ⟨w.heap.size + 1, [{ target := .collected w.heap.size, args := #[] }], w2, { target := .fn (.func gf) vcaps, args := #[.func (.yield (w.heap.size + 1)) #[] #[]] }, w2, gf, #[.func (.yield (w.heap.size + 1)) #[] #[]] ++ vcaps, w2, run_enterLoop_outer fn a.tmps ps assign body, ?_, fun _ _ => trivial, ?_, nofun, ?_⟩
     ·simp only [resolve, rangeCall, Deferred.ofValue, hge, Sem.run_pure]
      simp [Act.eval]
     ·simp only [invoke]; exact Z58 hcl.1 _ w2
     have hvs : VRs C2 (.yld (e.k + 1) :: caps) (#[.func (.yield (w.heap.size + 1)) #[] #[]] ++ vcaps) := by
      have h1 : VRs C2 [.yld (e.k + 1)] #[.func (.yield (w.heap.size + 1)) #[] #[]] := ⟨rfl, by
       intro i x v hx hv
       cases i with
       | zero => simp at hx hv; subst hx; subst hv; exact .yld (e.k + 1) _ 0 hm2 List.mem_cons_self
       | succ i => simp at hx⟩
      exact h1.append ⟨hcl1, fun i x v hx hv => ((hcv i x v hx hv).mono he1.le).mono he2.le⟩
     have hsub : SubH ((e.H.put e.k (some (.raw (.deferred (some []))))).put (e.k + 1) (some (.loop e.T.toL n ps assign body .ready none))) ((e.k + 1, .loop e.T.toL n ps assign body .ready none) :: (e.k, .raw (.deferred (some []))) :: Hl) :=
      (hs.hs.put (hs.hs.free hs.sr.wr hs.fr (Nat.le_refl _) (by omega)) List.mem_cons_self (fun i o _ h => List.mem_cons_of_mem _ h)).put (hs.hs.free hs.sr.wr hs.fr (Nat.le_succ _) (by omega)) List.mem_cons_self (fun i o _ h => List.mem_cons_of_mem _ h)
     have hx12 := he12.ex (by omega : e.k ≤ e.k + 2)
     have hfr2 : Fr (e.k + 2) C2 := hx12.fr hs.fr
     refine (hcl.2.2 C2 _ w2 _ hw2 hsub hfr2 hvs).mono ?_
     rintro en w3 ⟨C3, Hl3, x1, hw3, hh3, hf3, he3⟩
     have hm3 : C3.m (e.k + 1) = some (w.heap.size + 1, 0) := by rw [he3.le.m (e.k + 1) List.mem_cons_self]; exact hm2
     have fin : ∀ (T0 : List (Nat × AV)) (n0 : Nat) (ps0 : Array Tmp) (a0 b0 : Code) (st : LoopState) (pend : Option Code), H'.get (e.k + 1) = some (.loop T0 n0 ps0 a0 b0 st pend) → st ≠ .busy →
       ∃ w4 Hl4, (Instr.endLoop (w.heap.size + 1)).run P w3 = .ok pend w4 ∧ SE C3 Hl4 ⟨e.T, H'.put (e.k + 1) none, e.k :: e.D, k'⟩ n { a with defers := [{ target := .collected w.heap.size, args := #[] }] ++ a.defers } w4 ∧
        EX e.k C Hl w k' C3 Hl4 w4 := by
      intro T0 n0 ps0 a0 b0 st pend hget hst
      obtain ⟨j, hj⟩ := Z28 (hh3 _ _ hget)
      obtain ⟨_, hor⟩ := hw3.ids _ _ (List.mem_of_getElem? hj)
      obtain ⟨r, g1, g2, g3, _⟩ := Z5x hor hm3
      obtain ⟨ht1, ht2⟩ := Z7q (Z := []) (st' := .exhausted) (pend' := r.pending) hw3 hj hm3 g1
      refine ⟨_, _, by rw [← g3]; exact run_endLoop g1 (by rw [g2]; exact hst), ⟨⟨ht1, fun t x ht => ?_, ?_, ?_, hs.sr.sz⟩, hh3.setE hw3 (by rw [hcl.2.1]; exact hs.hs.free hs.sr.wr hs.fr (Nat.le_succ _) hc.1) hj, hf3⟩, ?_⟩
      ·obtain ⟨v, h1, h2⟩ := hs.sr.sl t x ht
       exact ⟨v, h1, (h2.mono he12.le).mono he3.le⟩
      ·simp only [List.map_cons, List.cons_append, List.nil_append]
       have e1 : mark C3 e.k = { target := .collected w.heap.size, args := #[] } := by
        simp [mark, he3.le.m e.k (List.mem_cons_of_mem _ List.mem_cons_self), hm1]
       rw [e1, hs.sr.df]
       congr 1
       exact List.map_congr_left fun i hi => by
        have e2 : C3.m i = C.m i := (he3.le.m i (he12.le.U i (hs.sr.du i hi))).trans (he12.le.m i (hs.sr.du i hi))
        have e3 : C3.df i = C.df i := (he3.le.df i (he12.le.U i (hs.sr.du i hi))).trans (he12.le.df i (hs.sr.du i hi))
        simp only [mark, e2, e3]
      ·intro i hi
       rcases List.mem_cons.1 hi with rfl | hi
       ·exact he3.le.U _ (List.mem_cons_of_mem _ List.mem_cons_self)
       ·exact he3.le.U i (he12.le.U i (hs.sr.du i hi))
      ·exact (hx12.trans he3).trans ht2.same
     cases en with
     | returned v' =>
      split at h
      ·rename_i T0 n0 ps0 a0 b0 hget
       cases h
       obtain ⟨w4, Hl4, h1, h2, h3⟩ := fin _ _ _ _ _ .ready none hget nofun
       exact ⟨none, w4, h1, rfl, C3, Hl4, h2, h3⟩
      ·rename_i T0 n0 ps0 a0 b0 c hget
       split at h
       ·rename_i y hy
        cases h
        obtain ⟨w4, Hl4, h1, h2, h3⟩ := fin _ _ _ _ _ .done (some c) hget nofun
        exact ⟨some c, w4, h1, wpIn_mono (Z9g hy C3 Hl4 _ w4 h2) fun x' a' w' hq => hq.from h3⟩
       ·cases h
      ·cases h
     | panicked ch => exact x1.elim
     | outgrown => exact x1.elim
   ·cases h
 ·cases h
theorem Z5q {ro : Option Nat} {f : ES → Option (Exit × ES)} {c : Code} {k0 : Nat} {C0 : Ctx} {H0 : AHeap} {w0 : World} (hf : ∀ e x e', f e = some (x, e') → EOkW P ro n c e x e') : ∀ (m : Nat) (e : ES) (x : Exit) (e' : ES), evRounds f m e = some (x, e') →
  ∀ C Hl a w, SE C Hl e n a w → EX k0 C0 H0 w0 e.k C Hl w → Code.roundsIn (Wd ro) 0 P c (EPost k0 C0 H0 w0 x e' n) m a w
 | 0, e, x, e', h, C, Hl, a, w, hs, hx => by simp [evRounds] at h
 | m + 1, e, x, e', h, C, Hl, a, w, hs, hx => by
  simp only [evRounds] at h
  rw [roundsIn_succ]
  split at h
  ·rename_i e1 h1
   refine wpIn_mono (hf _ _ _ h1 C Hl a w hs) ?_
   rintro x' a' w' ⟨rfl, C', Hl', hs', hx'⟩
   exact Z5q hf m e1 x e' h C' Hl' a' w' hs' (hx.trans hx')
  ·rename_i r hr
   refine wpIn_mono (hf _ _ _ h C Hl a w hs) ?_
   rintro x' a' w' ⟨rfl, q⟩
   have hq : EPost k0 C0 H0 w0 x' e' n x' a' w' := EPost.from hx ⟨rfl, q⟩
   cases x' with
   | normal => exact (hr e' h).elim
   | _ => exact hq
theorem Zhj {E : Ev} (hE : EvOk P E) {inR : Bool} {ro : Option Nat} (hro : ro ≠ none → inR = true) (hro2 : inR = false → ro = none) (hm : P.follows .mixedOrders = true) {L : Nat} : ∀ (c : Code) (e : ES) (x : Exit) (e' : ES), evC E P n inR L c e = some (x, e') → EOkW P ro n c e x e' := by
 intro c
 induction c with
 | skip => intro e x e' h C Hl a w hs; simp only [evC, Option.some.injEq, Prod.mk.injEq] at h; obtain ⟨rfl, rfl⟩ := h; exact wpIn_skip ⟨rfl, C, Hl, hs, .refl ..⟩
 | label l => intro e x e' h C Hl a w hs; simp only [evC, Option.some.injEq, Prod.mk.injEq] at h; obtain ⟨rfl, rfl⟩ := h; exact wpIn_label ⟨rfl, C, Hl, hs, .refl ..⟩
 | exit i => intro e x e' h C Hl a w hs; simp only [evC, Option.some.injEq, Prod.mk.injEq] at h; obtain ⟨rfl, rfl⟩ := h; exact wpIn_exit ⟨rfl, C, Hl, hs, .refl ..⟩
 | goto i => intro e x e' h C Hl a w hs; simp only [evC, Option.some.injEq, Prod.mk.injEq] at h; obtain ⟨rfl, rfl⟩ := h; exact wpIn_goto ⟨rfl, C, Hl, hs, .refl ..⟩
 | ret => intro e x e' h C Hl a w hs; simp only [evC, Option.some.injEq, Prod.mk.injEq] at h; obtain ⟨rfl, rfl⟩ := h; exact wpIn_ret ⟨rfl, C, Hl, hs, .refl ..⟩
 | refuse s => intro e x e' h; simp [evC] at h
 | seq a b iha ihb =>
  intro e x e' h C Hl ac w hs
  simp only [evC] at h
  refine wpIn_seq ?_
  split at h
  ·rename_i e1 h1
   refine wpIn_mono (iha _ _ _ h1 C Hl ac w hs) ?_
   rintro x' a' w' ⟨rfl, C', Hl', hs', hx'⟩
   exact wpIn_mono (ihb _ _ _ h C' Hl' a' w' hs') fun x2 a2 w2 hq => hq.from hx'
  ·rename_i r hr
   refine wpIn_mono (iha _ _ _ h C Hl ac w hs) ?_
   rintro x' a' w' ⟨rfl, q⟩
   cases x' with
   | normal => exact (hr e' h).elim
   | _ => exact ⟨rfl, q⟩
 | cond c a b iha ihb =>
  intro e x e' h C Hl ac w hs
  simp only [evC] at h
  split at h
  ·rename_i hc
   have := VR.val (hs.sr.ev (show ev e.T.ls c = some (.v (.bool true)) by rw [Z0k]; exact hc))
   exact wpIn_cond_split (t := true) this (fun _ => iha _ _ _ h C Hl ac w hs) nofun
  ·rename_i hc
   have := VR.val (hs.sr.ev (show ev e.T.ls c = some (.v (.bool false)) by rw [Z0k]; exact hc))
   exact wpIn_cond_split (t := false) this nofun (fun _ => ihb _ _ _ h C Hl ac w hs)
  ·cases h
 | block id c ih =>
  intro e x e' h C Hl ac w hs
  simp only [evC] at h
  refine wpIn_block ?_
  split at h
  ·rename_i i e1 h1
   simp only [Option.some.injEq, Prod.mk.injEq] at h
   obtain ⟨h2, rfl⟩ := h
   refine wpIn_mono (ih _ _ _ h1 C Hl ac w hs) ?_
   rintro x' a' w' ⟨rfl, q⟩
   subst h2
   by_cases hi : i = id
   ·simp only [Exit.inBlock, hi, if_true]; exact ⟨rfl, q⟩
   ·simp only [Exit.inBlock, hi, if_false]; exact ⟨rfl, q⟩
  ·rename_i r hr
   refine wpIn_mono (ih _ _ _ h C Hl ac w hs) ?_
   rintro x' a' w' ⟨rfl, q⟩
   cases x' with
   | exit i => exact (hr i e' h).elim
   | _ => exact ⟨rfl, q⟩
 | scope c ih =>
  intro e x e' h C Hl ac w hs
  simp only [evC] at h
  refine Z77 ?_
  split at h
  ·cases h
  ·rename_i r hr
   refine wpIn_mono (ih _ _ _ h C Hl ac w hs) ?_
   rintro x' a' w' ⟨rfl, q⟩
   cases x' with
   | goto i => exact (hr i e' h).elim
   | _ => exact ⟨rfl, q⟩
 | loop c ih =>
  intro e x e' h C Hl ac w hs
  simp only [evC] at h
  exact wpIn_loop_rounds L (Z5q ih L e x e' h C Hl ac w hs (.refl ..))
 | region id ops d =>
  intro e x e' h
  cases d with
  | false =>
   intro C Hl a w hs
   simp only [evC] at h
   refine wpIn_region ?_
   have := Z44 hE hro (C0 := C) (H0 := Hl) (w0 := w) ops.toList e h 0 (by simp) C Hl a w hs (.refl ..)
   rw [List.range_eq_range']
   simpa using this
  | true =>
   simp only [evC] at h
   exact (Zd5 hE hro hm h).2
 | rangeFunc g ps assign body _ _ =>
  intro e x e' h
  cases inR with
  | true => simp [evC] at h
  | false =>
   have := hro2 rfl
   subst this
   exact Zbv hE h
theorem Z6y {f : ES → Option (Exit × ES)} (hf : ∀ e x e', f e = some (x, e') → e'.H.R = e.H.R) : ∀ (m : Nat) (e : ES) (x : Exit) (e' : ES), evRounds f m e = some (x, e') → e'.H.R = e.H.R
 | 0, e, x, e', h => by simp [evRounds] at h
 | m + 1, e, x, e', h => by
  simp only [evRounds] at h
  split at h
  ·rename_i e1 h1; exact (Z6y hf m e1 x e' h).trans (hf _ _ _ h1)
  ·exact hf _ _ _ h
theorem Zd2 {E : Ev} (hE : EvOk P E) {inR : Bool} (hm : P.follows .mixedOrders = true) {L : Nat} : ∀ (c : Code) (e : ES) (x : Exit) (e' : ES), evC E P n inR L c e = some (x, e') → e'.H.R = e.H.R := by
 intro c
 induction c with
 | skip => intro e x e' h; simp only [evC, Option.some.injEq, Prod.mk.injEq] at h; obtain ⟨rfl, rfl⟩ := h; rfl
 | label l => intro e x e' h; simp only [evC, Option.some.injEq, Prod.mk.injEq] at h; obtain ⟨rfl, rfl⟩ := h; rfl
 | exit i => intro e x e' h; simp only [evC, Option.some.injEq, Prod.mk.injEq] at h; obtain ⟨rfl, rfl⟩ := h; rfl
 | goto i => intro e x e' h; simp only [evC, Option.some.injEq, Prod.mk.injEq] at h; obtain ⟨rfl, rfl⟩ := h; rfl
 | ret => intro e x e' h; simp only [evC, Option.some.injEq, Prod.mk.injEq] at h; obtain ⟨rfl, rfl⟩ := h; rfl
 | refuse s => intro e x e' h; simp [evC] at h
 | seq a b iha ihb =>
  intro e x e' h
  simp only [evC] at h
  split at h
  ·rename_i e1 h1; exact (ihb _ _ _ h).trans (iha _ _ _ h1)
  ·exact iha _ _ _ h
 | cond c a b iha ihb =>
  intro e x e' h
  simp only [evC] at h
  split at h
  ·exact iha _ _ _ h
  ·exact ihb _ _ _ h
  ·cases h
 | block id c ih =>
  intro e x e' h
  simp only [evC] at h
  split at h
  ·rename_i i e1 h1
   simp only [Option.some.injEq, Prod.mk.injEq] at h
   obtain ⟨h2, rfl⟩ := h
   exact ih _ _ _ h1
  ·exact ih _ _ _ h
 | scope c ih =>
  intro e x e' h
  simp only [evC] at h
  split at h
  ·cases h
  ·exact ih _ _ _ h
 | loop c ih =>
  intro e x e' h
  simp only [evC] at h
  exact Z6y ih L e x e' h
 | region id ops d =>
  intro e x e' h
  cases d with
  | false => simp only [evC] at h; exact Z5p hE ops.toList e h
  | true => simp only [evC] at h; exact Zan hE h
 | rangeFunc g ps assign body _ _ =>
  intro e x e' h
  simp only [evC] at h
  cases inR with
  | true => cases h
  | false =>
   rw [cond_false] at h
   split at h
   ·rename_i gf caps hg
    cases hc : (Nat.blt (e.k + 1) MM && ps.all (fun t => Nat.blt t n)) with
    | false => rw [hc] at h; cases h
    | true =>
     rw [hc, cond_true] at h
     split at h
     ·rename_i rx H' k' hcall
      have hR := (hE.call _ _ _ _ _ _ _ hcall).2.1
      split at h
      ·cases h; exact hR
      ·split at h
       ·cases h; exact hR
       ·cases h
      ·cases h
     ·cases h
   ·cases h
theorem Zam {E : Ev} (hE : EvOk P E) {inR : Bool} {ro : Option Nat} (hro : ro ≠ none → inR = true) (hro2 : inR = false → ro = none) (hm : P.follows .mixedOrders = true) {L : Nat} (c : Code) (e : ES) (x : Exit) (e' : ES) (h : evC E P n inR L c e = some (x, e')) : EOk P ro n c e x e' :=
 ⟨Zd2 hE hm c e x e' h, Zhj hE hro hro2 hm c e x e' h⟩
end
end Go.Sx
namespace Go.Sx
open Go
section
variable {P : Program} {n : Nat}
def evRes (P : Program) (T : Tr AV) (H : Hp) : List ResultVar → Option (List AV)
 | [] => some []
 | .tmp t :: r => match T.get t, evRes P T H r with
  | some x, some xs => some (x :: xs)
  | _, _ => none
 | .cell a t :: r => match T.get a, evRes P T H r with
  | some p, some xs => match evLoad P H t p with
   | some x => some (x :: xs)
   | none => none
  | _, _ => none
theorem Z51 {T : Tr AV} {H : Hp} {Hl : AHeap} (hs : SubH H Hl) : ∀ (rs : List ResultVar) (xs : List AV), evRes P T H rs = some xs → Res P T.ls Hl rs xs
 | [], xs, h => by simp only [evRes, Option.some.injEq] at h; subst h; trivial
 | .tmp t :: r, xs, h => by
  simp only [evRes] at h
  split at h
  ·rename_i x ys h1 h2
   cases h
   exact ⟨by rw [Tr.lk_ls]; exact h1, Z51 hs r ys h2⟩
  ·cases h
 | .cell a t :: r, xs, h => by
  simp only [evRes] at h
  split at h
  ·rename_i p ys h1 h2
   split at h
   ·rename_i x hx
    cases h
    refine ⟨⟨p, ?_⟩, Z51 hs r ys h2⟩
    unfold evLoad at hx
    split at hx
    ·rename_i id sz i c
     split at hx
     ·rename_i el sz' es hg
      split at hx
      ·rename_i e; subst e
       split at hx
       ·rename_i e he
        exact ⟨e.drop c, by rw [Tr.lk_ls]; exact h1, ⟨el, es, e, hs _ _ hg, he, rfl⟩, Z39 hx⟩
       ·cases hx
      ·cases hx
     ·cases hx
    ·rename_i es i c
     split at hx
     ·rename_i e he
      exact ⟨e.drop c, by rw [Tr.lk_ls]; exact h1, ⟨e, he, rfl⟩, Z39 hx⟩
     ·cases hx
    ·cases hx
   ·cases h
  ·cases h
def isRec : Op → Bool
 | .call ⟨.builtin .recover, _, _⟩ => true
 | _ => false
def recV : FrameMode → Value × FrameMode
 | .panicking ({ v, recovered := false, goexit := false } :: older) => (v, .panicking ({ v, recovered := true } :: older))
 | u => (.nilIface, u)
def evAsgs (n : Nat) : List Oper → Tr AV → Option (Tr AV)
 | [], T => some T
 | o :: r, T => match o.guard, o.dst, o.op with
  | none, some t, .assign p => bif Nat.blt t n then (match evT T p with
   | some x => evAsgs n r (T.put t (some x))
   | none => none) else none
  | _, _, _ => none
theorem Z5n {ops : Array Oper} {D : List Nat} {H : Hp} {k0 : Nat} {C : Ctx} {Hl : AHeap} {w : World} {cs : List Frame} {T' : Tr AV} {Q : Exit → Act → List Frame → World → Prop} : ∀ (l : List Oper) (T : Tr AV) (k : Nat), evAsgs n l T = some T' → ops.toList.drop k = l →
  ∀ a, SE C Hl ⟨T, H, D, k0⟩ n a w → (∀ a', SE C Hl ⟨T', H, D, k0⟩ n a' w → Q .normal a' cs w) → wpOpsSIn (Wd none) 0 P ops Q (List.range' k l.length) a cs w
 | [], T, k, h, hk, a, hs, hq => by
  simp only [evAsgs, Option.some.injEq] at h
  subst h
  simp only [List.length_nil, List.range'_zero, wpOpsSIn]
  exact hq a hs
 | o :: r, T, k, h, hk, a, hs, hq => by
  obtain ⟨h1, h2⟩ := Z08 hk
  have ho : ops[k]? = some o := by rw [← Array.getElem?_toList]; exact h1
  simp only [evAsgs] at h
  split at h
  ·rename_i t p hg hd hop
   cases hb : Nat.blt t n with
   | false => rw [hb] at h; cases h
   | true =>
    rw [hb, cond_true] at h
    split at h
    ·rename_i x hx
     rw [List.length_cons, List.range'_succ]
     simp only [wpOpsSIn, ho]
     have hw : Region.wanted o (yielded ops a.tmps) = true := by simp [Region.wanted, hg]
     have hrun : (execOp a.eval o).run P w = .ok (.value (a.eval p)) w := by simp [execOp, hop]
     refine ⟨fun _ _ => trivial, ?_⟩
     rw [if_pos hw, hrun]
     simp only
     refine Z5n r _ (k + 1) h h2 _ ?_ hq
     have hv := hs.sr.ev (show ev T.ls p = some x by rw [Z0k]; exact hx)
     have := hs.next (d := o.dst) (x := x) (v := a.eval p) (H' := H) (k' := k0) (by rw [hd]; exact hb) (.refl C) hv hs.sr.wr hs.hs hs.fr
     rw [hd] at this ⊢
     exact this
    ·cases h
  ·cases h
def evS (E : Ev) (P : Program) (n L : Nat) : Code → FrameMode → ES → Option (Exit × FrameMode × ES)
 | .seq a b, u, e => match evS E P n L a u e with
  | some (.normal, u', e') => evS E P n L b u' e'
  | r => r
 | .cond c a b, u, e => match evT e.T c with
  | some (.v (.bool true)) => evS E P n L a u e
  | some (.v (.bool false)) => evS E P n L b u e
  | _ => none
 | .region id ops d, u, e => match d, ops.toList with
  | false, o :: r => bif isRec o.op then (match o.guard, o.dst with
    | none, some t => bif Nat.blt t n then (match evAsgs n r (e.T.put t (some (.v (recV u).1))) with
     | some T' => some (.normal, (recV u).2, { e with T := T' })
     | none => none) else none
    | _, _ => none)
   else (match evC E P n false L (.region id ops d) e with
    | some (x, e') => some (x, u, e')
    | none => none)
  | _, _ => match evC E P n false L (.region id ops d) e with
    | some (x, e') => some (x, u, e')
    | none => none
 | c, u, e => match evC E P n false L c e with
  | some (x, e') => some (x, u, e')
  | none => none
def SPost (k0 : Nat) (C0 : Ctx) (H0 : AHeap) (w0 : World) (x : Exit) (u' : FrameMode) (e' : ES) (n : Nat) (c0 : Frame) (cs : List Frame) : Exit → Act → List Frame → World → Prop :=
 fun x' a' cs' w' => cs' = { c0 with mode := u' } :: cs ∧ EPost k0 C0 H0 w0 x e' n x' a' w'
theorem Zdr {c0 : Frame} {cs : List Frame} {u : FrameMode} (hu : c0.mode = u) : (recoverD (c0 :: cs) = some ((recV u).1, { c0 with mode := (recV u).2 } :: cs)) ∨ (recoverD (c0 :: cs) = none ∧ recV u = (.nilIface, u)) := by
 subst hu
 simp only [recoverD, recV]
 split
 ·rename_i v older h
  left
  simp only [h]
 ·rename_i h
  refine .inr ⟨rfl, ?_⟩
  split
  ·rename_i v older h2; exact (h v older h2).elim
  ·rfl
theorem Zip {E : Ev} (hE : EvOk P E) (hm : P.follows .mixedOrders = true) {L : Nat} {k0 : Nat} {C0 : Ctx} {H0 : AHeap} {w0 : World} : ∀ (c : Code) (u : FrameMode) (e : ES) (x : Exit) (u' : FrameMode) (e' : ES), evS E P n L c u e = some (x, u', e') →
  ∀ C Hl a w, SE C Hl e n a w → EX k0 C0 H0 w0 e.k C Hl w → ∀ c0 cs, c0.mode = u → c.wpSIn (Wd none) 0 P (SPost k0 C0 H0 w0 x u' e' n c0 cs) a (c0 :: cs) w := by
 have plain : ∀ (c : Code) (u : FrameMode) (e : ES) (x : Exit) (u' : FrameMode) (e' : ES), (match evC E P n false L c e with | some (x, e') => some (x, u, e') | none => none) = some (x, u', e') →
  ∀ C Hl a w, SE C Hl e n a w → EX k0 C0 H0 w0 e.k C Hl w → ∀ c0 cs, c0.mode = u → c.wpSIn (Wd none) 0 P (SPost k0 C0 H0 w0 x u' e' n c0 cs) a (c0 :: cs) w := by
  intro c u e x u' e' h C Hl a w hs hx c0 cs hu
  split at h
  ·rename_i y e1 h1
   cases h
   subst hu
   refine wpSIn_of_wpIn rfl (wpIn_mono ((Zam hE nofun (fun _ => rfl) hm c e x e' h1).2 C Hl a w hs) ?_)
   intro x2 a2 w2 hq
   exact ⟨rfl, hq.from hx⟩
  ·cases h
 intro c
 induction c with
 | seq a b iha ihb =>
  intro u e x u' e' h C Hl ac w hs hx c0 cs hu
  simp only [evS] at h
  refine wpSIn_seq ?_
  split at h
  ·rename_i u1 e1 h1
   have := iha _ _ _ _ _ h1 C Hl ac w hs hx c0 cs hu
   intro b0 k hb hr hF hroom
   obtain ⟨x2, a2, cs2, w2, hl, ⟨rfl, rfl, C2, Hl2, hs2, hx2⟩, harr⟩ := this b0 k hb hr hF hroom
   exact ⟨.normal, a2, _, w2, hl, ihb _ _ _ _ _ h C2 Hl2 a2 w2 hs2 hx2 { c0 with mode := u1 } cs rfl, harr⟩
  ·rename_i r hr
   have := iha _ _ _ _ _ h C Hl ac w hs hx c0 cs hu
   intro b0 k hb hr' hF hroom
   obtain ⟨x2, a2, cs2, w2, hl, ⟨hc, rfl, q⟩, harr⟩ := this b0 k hb hr' hF hroom
   refine ⟨x2, a2, cs2, w2, hl, ?_, harr⟩
   cases x2 with
   | normal => exact (hr u' e' h).elim
   | _ => exact ⟨hc, rfl, q⟩
 | cond c a b iha ihb =>
  intro u e x u' e' h C Hl ac w hs hx c0 cs hu
  simp only [evS] at h
  split at h
  ·rename_i hc
   have := VR.val (hs.sr.ev (show ev e.T.ls c = some (.v (.bool true)) by rw [Z0k]; exact hc))
   exact wpSIn_cond (t := true) this (iha _ _ _ _ _ h C Hl ac w hs hx c0 cs hu)
  ·rename_i hc
   have := VR.val (hs.sr.ev (show ev e.T.ls c = some (.v (.bool false)) by rw [Z0k]; exact hc))
   exact wpSIn_cond (t := false) this (ihb _ _ _ _ _ h C Hl ac w hs hx c0 cs hu)
  ·cases h
 | region id ops d =>
  intro u e x u' e' h C Hl ac w hs hx c0 cs hu
  simp only [evS] at h
  split at h
  ·rename_i o r ho
   cases hr : isRec o.op with
   | false => rw [hr] at h; exact plain _ _ _ _ _ _ h C Hl ac w hs hx c0 cs hu
   | true =>
    rw [hr, cond_true] at h
    split at h
    ·rename_i t hg hd
     cases hb : Nat.blt t n with
     | false => rw [hb] at h; cases h
     | true =>
      rw [hb, cond_true] at h
      split at h
      ·rename_i T' hT
       simp only [Option.some.injEq, Prod.mk.injEq] at h
       obtain ⟨rfl, rfl, rfl⟩ := h
       refine wpSIn_region ?_
       have hsz : ops.size = r.length + 1 := by rw [← Array.length_toList, ho]; rfl
       have h0 : ops[0]? = some o := by rw [← Array.getElem?_toList, ho]; rfl
       have hdr : ops.toList.drop 1 = r := by rw [ho]; rfl
       rw [hsz, List.range_eq_range', List.range'_succ]
       simp only [wpOpsSIn, h0]
       have hrec : (execOp ac.eval o).run P w = .ok .recover w := by
        unfold isRec at hr
        split at hr
        ·rename_i args ats hop
         simp [execOp, hop, resolve, invoke, builtin, Sem.run_bind, Sem.run_pure, Result.andThen]
        ·cases hr
       have hw : Region.wanted o (yielded ops ac.tmps) = true := by simp [Region.wanted, hg]
       refine ⟨fun _ _ => trivial, ?_⟩
       rw [if_pos hw, hrec]
       simp only
       have hnext : ∀ v, SE C Hl { e with T := e.T.put t (some (.v v)) } n (ac.put o.dst v) w := by
        intro v
        have := hs.next (d := o.dst) (x := .v v) (v := v) (H' := e.H) (k' := e.k) (by rw [hd]; exact hb) (.refl C) (.v v) hs.sr.wr hs.hs hs.fr
        rw [hd] at this ⊢
        exact this
       rcases Zdr (cs := cs) hu with h1 | ⟨h1, h2⟩
       ·rw [h1]; exact Z5n r _ (0 + 1) hT hdr _ (hnext _) fun a' hs' => ⟨rfl, rfl, C, Hl, hs', hx⟩
       ·rw [h1]
        rw [h2] at hT ⊢
        refine Z5n r _ (0 + 1) hT hdr _ (hnext _) fun a' hs' => ⟨?_, rfl, C, Hl, hs', hx⟩
        subst hu; rfl
      ·cases h
    ·cases h
  ·exact plain _ _ _ _ _ _ h C Hl ac w hs hx c0 cs hu
 | _ => intro u e x u' e' h C Hl ac w hs hx c0 cs hu; simp only [evS] at h; exact plain _ _ _ _ _ _ h C Hl ac w hs hx c0 cs hu
theorem Zhl {E : Ev} (hE : EvOk P E) (hm : P.follows .mixedOrders = true) {L : Nat} : ∀ (c : Code) (u : FrameMode) (e : ES) (x : Exit) (u' : FrameMode) (e' : ES), evS E P n L c u e = some (x, u', e') → e'.H.R = e.H.R := by
 have plain : ∀ (c : Code) (u : FrameMode) (e : ES) (x : Exit) (u' : FrameMode) (e' : ES), (match evC E P n false L c e with | some (x, e') => some (x, u, e') | none => none) = some (x, u', e') → e'.H.R = e.H.R := by
  intro c u e x u' e' h
  split at h
  ·rename_i y e1 h1; cases h; exact Zd2 hE hm c e x e' h1
  ·cases h
 intro c
 induction c with
 | seq a b iha ihb =>
  intro u e x u' e' h
  simp only [evS] at h
  split at h
  ·rename_i u1 e1 h1; exact (ihb _ _ _ _ _ h).trans (iha _ _ _ _ _ h1)
  ·exact iha _ _ _ _ _ h
 | cond c a b iha ihb =>
  intro u e x u' e' h
  simp only [evS] at h
  split at h
  ·exact iha _ _ _ _ _ h
  ·exact ihb _ _ _ _ _ h
  ·cases h
 | region id ops d =>
  intro u e x u' e' h
  simp only [evS] at h
  split at h
  ·rename_i o r ho
   cases hr : isRec o.op with
   | false => rw [hr] at h; exact plain _ _ _ _ _ _ h
   | true =>
    rw [hr, cond_true] at h
    split at h
    ·rename_i t hg hd
     cases hb : Nat.blt t n with
     | false => rw [hb] at h; cases h
     | true =>
      rw [hb, cond_true] at h
      split at h
      ·simp only [Option.some.injEq, Prod.mk.injEq] at h
       obtain ⟨rfl, rfl, rfl⟩ := h
       rfl
      ·cases h
    ·cases h
  ·exact plain _ _ _ _ _ _ h
 | _ =>
  intro u e x u' e' h
  simp only [evS] at h
  first | exact plain .skip u e x u' e' h | exact plain .ret u e x u' e' h | exact plain (.label _) u e x u' e' h | exact plain (.exit _) u e x u' e' h | exact plain (.goto _) u e x u' e' h | (simp [evC] at h; done) | exact plain (.block _ _) u e x u' e' h | exact plain (.scope _) u e x u' e' h | exact plain (.loop _) u e x u' e' h | exact plain (.rangeFunc _ _ _ _) u e x u' e' h
abbrev DcF := Nat → List AV → FrameMode → Hp → Nat → Option (FrameMode × Hp × Nat)
def EDCall (P : Program) (f : Nat) (xs : List AV) (u : FrameMode) (H : Hp) (k : Nat) (u2 : FrameMode) (H' : Hp) (k' : Nat) : Prop :=
 Callable P f ∧ H'.R = H.R ∧ ∀ C Hl w vs, WR C Hl w → SubH H Hl → Fr k C → VRs C xs vs →
  CallsDIn (Wd none) 0 P f vs u w (fun en u' w' => ∃ C' Hl', (match en with | .returned _ => settle u' = u2 | .panicked ch => raised u' ch = u2 | .outgrown => False) ∧ WR C' Hl' w' ∧ SubH H' Hl' ∧ Fr k' C' ∧ EX k C Hl w k' C' Hl' w')
def evLeave (dc : DcF) : List Nat → FrameMode → Hp → Nat → Option (FrameMode × Hp × Nat)
 | [], u, H, k => some (u, H, k)
 | i :: D, u, H, k => match H.own i with
  | some (.raw (.deferred (some []))) => evLeave dc D u (H.put i none) k
  | some (.dfr (.func f) cs xs) => match dc f (xs ++ cs) u (H.put i none) k with
   | some (.run, _, _) => none
   | some (u', H', k') => evLeave dc D u' H' k'
   | none => none
  | _ => none
theorem Z43 {dc : DcF} (hdc : ∀ f xs u H k u' H' k', dc f xs u H k = some (u', H', k') → H'.R = H.R) {u2 : FrameMode} {H2 : Hp} {k2 : Nat} : ∀ (D : List Nat) (u : FrameMode) (H : Hp) (k : Nat), evLeave dc D u H k = some (u2, H2, k2) → H2.R = H.R
 | [], u, H, k, h => by simp only [evLeave, Option.some.injEq, Prod.mk.injEq] at h; obtain ⟨rfl, rfl, rfl⟩ := h; rfl
 | i :: D, u, H, k, h => by
  simp only [evLeave] at h
  split at h
  ·exact Z43 hdc D u (H.put i none) k h
  ·split at h
   ·cases h
   ·rename_i u' H' k' _ hd; exact (Z43 hdc D u' H' k' h).trans (hdc _ _ _ (H.put i none) _ _ _ _ hd)
   ·cases h
  ·cases h
theorem Z4l {dc : DcF} (hdc : ∀ f xs u H k u' H' k', dc f xs u H k = some (u', H', k') → EDCall P f xs u H k u' H' k') {fn : Func} {tmps : Array Value} {T : Tr AV} {R : Ending → World → Prop} {k0 : Nat} {C0 : Ctx} {H0 : AHeap} {w0 : World}
  {u2 : FrameMode} {H2 : Hp} {k2 : Nat} (hfin : ∀ C Hl w, (∀ t x, T.get t = some x → ∃ v, tmps[t]? = some v ∧ VR C x v) → WR C Hl w → SubH H2 Hl → Fr k2 C → EX k0 C0 H0 w0 k2 C Hl w → LeavesInM (Wd none) 0 P fn tmps R [] u2 w) :
  ∀ (D : List Nat) (u : FrameMode) (H : Hp) (k : Nat), u ≠ .run → evLeave dc D u H k = some (u2, H2, k2) → ∀ C Hl w, (∀ t x, T.get t = some x → ∃ v, tmps[t]? = some v ∧ VR C x v) → (∀ i, i ∈ D → i ∈ C.U) → WR C Hl w → SubH H Hl → Fr k C → EX k0 C0 H0 w0 k C Hl w →
   LeavesInM (Wd none) 0 P fn tmps R (D.map (mark C)) u w
 | [], u, H, k, hu, h, C, Hl, w, hT, hD, hw, hs, hf, hx => by
  simp only [evLeave, Option.some.injEq, Prod.mk.injEq] at h
  obtain ⟨rfl, rfl, rfl⟩ := h
  exact hfin C Hl w hT hw hs hf hx
 | i :: D, u, H, k, hu, h, C, Hl, w, hT, hD, hw, hs, hf, hx => by
  simp only [evLeave] at h
  simp only [List.map_cons, LeavesInM]
  refine ⟨hu, ?_⟩
  split at h
  ·rename_i hg0
   obtain ⟨hfree, hg⟩ := Hp.own_spec hg0
   left
   obtain ⟨hiu, b, N, hm, hh⟩ := hw.ids i _ (hs i _ hg)
   obtain ⟨j, hj⟩ := Z28 (hs i _ hg)
   obtain ⟨hw1, he1⟩ := Z1h (Z := []) (C' := C) (id' := i) (o' := .raw (.deferred none)) (w' := w.putObj b (.deferred none)) hw hj (.refl C) rfl (.inl rfl) hiu (fun _ _ h => h) rfl rfl rfl (by simp)
    (fun b' N' h => .inl ⟨N', h⟩) (fun b' hb hne => World.putObj_heap_other (by rintro rfl; exact hne N hm)) ⟨b, N, hm, World.putObj_heap_same (Array.getElem?_eq_some_iff.1 hh).1⟩
   refine ⟨b, w.putObj b (.deferred none), by simp [mark, hm], run_takeDeferred hh, ?_⟩
   exact Z4l hdc hfin D u _ k hu h C _ _ hT (fun i hi => hD i (List.mem_cons_of_mem _ hi)) hw1 (hs.setE hw hfree hj) hf (hx.trans he1.same)
  ·rename_i f cs xs hg0
   obtain ⟨hfree, hg⟩ := Hp.own_spec hg0
   right
   refine ⟨nofun, ?_⟩
   split at h
   ·cases h
   ·rename_i u' H' k' hne hd
    obtain ⟨hiu, hm, d, cv, hdf, ht, hcs, hxs⟩ := hw.ids i _ (hs i _ hg)
    have hmk : mark C i = d := by simp [mark, hm, hdf]
    have hcall := hdc _ _ _ _ _ _ _ _ hd
    have hvs : VRs C (xs ++ cs) (d.args ++ cv) := VRs.append hxs hcs
    refine ⟨.func f, cv, f, d.args ++ cv, by rw [hmk]; exact ht, ?_, fun _ _ => trivial, ?_⟩
    ·rw [hmk, ht]
     simp only [invoke]
     exact Z58 hcall.1 _ w
    ·refine CallsDIn.mono (hcall.2.2 C Hl w _ hw hs.erase hf hvs) ?_
     rintro en u1 w1 ⟨C1, Hl1, hen, hw1, hs1, hf1, hx1⟩
     have hT1 : ∀ t x, T.get t = some x → ∃ v, tmps[t]? = some v ∧ VR C1 x v := fun t x ht => let ⟨v, a, b⟩ := hT t x ht; ⟨v, a, b.mono hx1.le⟩
     have hmap : D.map (mark C) = D.map (mark C1) := List.map_congr_left fun j hj => by
      have := hD j (List.mem_cons_of_mem _ hj)
      simp [mark, hx1.le.m j this, hx1.le.df j this]
     have go : ∀ u3, u3 = u' → LeavesInM (Wd none) 0 P fn tmps R (D.map (mark C)) u3 w1 := by
      rintro u3 rfl
      rw [hmap]
      exact Z4l hdc hfin D u3 H' k' hne h C1 Hl1 w1 hT1 (fun j hj => hx1.le.U j (hD j (List.mem_cons_of_mem _ hj))) hw1 hs1 hf1 (hx.trans hx1)
     cases en with
     | returned v => exact go _ hen
     | panicked ch => exact go _ hen
     | outgrown => exact hen.elim
   ·cases h
  ·cases h
def argT (xs : List AV) : Tr AV := Tr.ofL (enum xs 0)
def evDc (E : Ev) (P : Program) (L : Nat) : DcF := fun f xs u H k => match P.funcs[f]? with
 | some fn => match fn.body with
  | some c => bif Nat.ble xs.length fn.ntmps then (match evS E P fn.ntmps L c u ⟨argT xs, H, [], k⟩ with
   | some (.normal, u', e') => match e'.D, evRes P e'.T e'.H fn.results.toList with
    | [], some _ => some (settle u', e'.H, e'.k)
    | _, _ => none
   | some (.ret, u', e') => match e'.D, evRes P e'.T e'.H fn.results.toList with
    | [], some _ => some (settle u', e'.H, e'.k)
    | _, _ => none
   | some (.panic ch, u', e') => match e'.D with
    | [] => some (raised u' ch, e'.H, e'.k)
    | _ => none
   | _ => none) else none
  | none => none
 | none => none
def NamesOk (P : Program) : Prop := ∀ (f : Nat) (fn : Func), P.funcs[f]? = some fn → (fn.name == "runtime.NumGoroutine") = false
theorem SE.enter {fn : Func} {xs : List AV} {vs : Array Value} {C : Ctx} {Hl : AHeap} {w : World} {H : Hp} {k : Nat} (hn0 : Nat.ble xs.length fn.ntmps = true) (hw : WR C Hl w) (hs : SubH H Hl) (hf : Fr k C) (hv : VRs C xs vs) :
  SE C Hl ⟨argT xs, H, [], k⟩ fn.ntmps { tmps := vs ++ Array.replicate (fn.ntmps - vs.size) undef, defers := [] } w := by
 have hn : xs.length ≤ fn.ntmps := Nat.le_of_ble_eq_true hn0
 refine ⟨⟨hw, ?_, rfl, nofun, ?_⟩, hs, hf⟩
 ·intro t x hx
  rw [Tr.lk_ls] at hx
  obtain ⟨i, rfl, hi⟩ := Z7p xs 0 t x (Tr.ofL_get _ _ _ hx)
  rw [Nat.zero_add]
  have hlt : i < vs.size := by rw [← hv.1]; exact (List.getElem?_eq_some_iff.1 hi).1
  have hvi : vs[i]? = some vs[i] := Array.getElem?_eq_getElem hlt
  exact ⟨vs[i], by rw [Array.getElem?_append_left hlt]; exact hvi, hv.2 i x _ hi hvi⟩
 ·have := hv.1
  simp only [Array.size_append, Array.size_replicate]
  omega
theorem Zd4 {E : Ev} (hE : EvOk P E) (hm : P.follows .mixedOrders = true) {L : Nat} : ∀ f xs u H k u' H' k', evDc E P L f xs u H k = some (u', H', k') → H'.R = H.R := by
 intro f xs u H k u' H' k' h
 unfold evDc at h
 split at h
 ·rename_i fn hfn
  split at h
  ·rename_i c hc
   cases hn0 : Nat.ble xs.length fn.ntmps with
   | false => rw [hn0] at h; cases h
   | true =>
    rw [hn0, cond_true] at h
    split at h
    ·rename_i u1 e1 he
     split at h
     ·cases h; exact Zhl hE hm c u _ _ u1 e1 he
     ·cases h
    ·rename_i u1 e1 he
     split at h
     ·cases h; exact Zhl hE hm c u _ _ u1 e1 he
     ·cases h
    ·rename_i ch u1 e1 he
     split at h
     ·cases h; exact Zhl hE hm c u _ _ u1 e1 he
     ·cases h
    ·cases h
  ·cases h
 ·cases h
theorem Z7l {E : Ev} (hE : EvOk P E) (hm : P.follows .mixedOrders = true) (hnm : NamesOk P) {L : Nat} : ∀ f xs u H k u' H' k', evDc E P L f xs u H k = some (u', H', k') → EDCall P f xs u H k u' H' k' := by
 intro f xs u H k u' H' k' h
 have hRR := Zd4 hE hm f xs u H k u' H' k' h
 unfold evDc at h
 split at h
 ·rename_i fn hfn
  split at h
  ·rename_i c hc
   cases hn0 : Nat.ble xs.length fn.ntmps with
   | false => rw [hn0] at h; cases h
   | true =>
    rw [hn0, cond_true] at h
    refine ⟨⟨fn, hfn, by rw [hc]; rfl, hnm f fn hfn⟩, hRR, fun C Hl w vs hw hs hf hv => ?_⟩
    refine callsDIn_of_wpSIn hfn hc trivial fun c0 cs hu => ?_
    have hS := SE.enter (fn := fn) hn0 hw hs hf hv
    have run : ∀ x u1 e1, evS E P fn.ntmps L c u ⟨argT xs, H, [], k⟩ = some (x, u1, e1) → ∀ (Rr : Ending → FrameMode → World → Prop),
      (∀ C1 Hl1 a1 w1, SE C1 Hl1 e1 fn.ntmps a1 w1 → EX k C Hl w e1.k C1 Hl1 w1 → bodyPostS P fn c0 cs Rr x a1 ({ c0 with mode := u1 } :: cs) w1) →
      c.wpSIn (Wd none) 0 P (bodyPostS P fn c0 cs Rr) { tmps := vs ++ Array.replicate (fn.ntmps - vs.size) undef, defers := [] } (c0 :: cs) w := by
     intro x u1 e1 he Rr hk b kk hb hr hF hroom
     obtain ⟨x2, a2, cs2, w2, hl, ⟨hcs, rfl, C2, Hl2, hs2, hx2⟩, harr⟩ := Zip hE hm c u _ x u1 e1 he C Hl _ w hS (.refl ..) c0 cs hu b kk hb hr hF hroom
     subst hcs
     exact ⟨x2, a2, _, w2, hl, hk C2 Hl2 a2 w2 hs2 hx2, harr⟩
    have ret : ∀ x u1 e1, (x = .normal ∨ x = .ret) → evS E P fn.ntmps L c u ⟨argT xs, H, [], k⟩ = some (x, u1, e1) → (match e1.D, evRes P e1.T e1.H fn.results.toList with | [], some _ => some (settle u1, e1.H, e1.k) | _, _ => none) = some (u', H', k') →
      c.wpSIn (Wd none) 0 P (bodyPostS P fn c0 cs (fun en u1 w' => ∃ C' Hl', (match en with | .returned _ => settle u1 = u' | .panicked ch => raised u1 ch = u' | .outgrown => False) ∧ WR C' Hl' w' ∧ SubH H' Hl' ∧ Fr k' C' ∧ EX k C Hl w k' C' Hl' w')) { tmps := vs ++ Array.replicate (fn.ntmps - vs.size) undef, defers := [] } (c0 :: cs) w := by
     intro x u1 e1 hx he hh
     split at hh
     ·rename_i ys hD hr
      cases hh
      refine run x u1 e1 he _ fun C1 Hl1 a1 w1 hs1 hx1 => ?_
      have hd : a1.defers = [] := by rw [hs1.sr.df]; show List.map (mark C1) e1.D = []; rw [hD]; rfl
      obtain ⟨v, g1, g2⟩ := Z2q (s := ⟨e1.T.ls, Hl1, e1.D, fn.ntmps⟩) (fn := fn) hs1.sr.wr hs1.sr.sl (Z51 hs1.hs _ _ hr)
      rcases hx with rfl | rfl <;> exact ⟨hd, u1, rfl, v, g1, C1, Hl1, rfl, hs1.sr.wr, hs1.hs, hs1.fr, hx1⟩
     ·cases hh
    split at h
    ·rename_i u1 e1 he; exact ret _ u1 e1 (.inl rfl) he h
    ·rename_i u1 e1 he; exact ret _ u1 e1 (.inr rfl) he h
    ·rename_i ch u1 e1 he
     split at h
     ·rename_i hD
      cases h
      refine run _ u1 e1 he _ fun C1 Hl1 a1 w1 hs1 hx1 => ?_
      have hd : a1.defers = [] := by rw [hs1.sr.df]; show List.map (mark C1) e1.D = []; rw [hD]; rfl
      exact ⟨hd, u1, rfl, C1, Hl1, rfl, hs1.sr.wr, hs1.hs, hs1.fr, hx1⟩
     ·cases h
    ·cases h
  ·cases h
 ·cases h
def evFun (E : Ev) (P : Program) (L : Nat) : CallF := fun f xs H k => match P.funcs[f]? with
 | some fn => match fn.body with
  | some c => bif Nat.ble xs.length fn.ntmps then (match evC E P fn.ntmps false L c ⟨argT xs, H, [], k⟩ with
   | some (x, e') => match (match x with | .normal => some FrameMode.returning | .ret => some .returning | .panic ch => some (.panicking ch) | _ => none) with
    | some u => match evLeave (evDc E P L) e'.D u e'.H e'.k with
     | some (.returning, H2, k2) => match evRes P e'.T H2 fn.results.toList with
      | some ys => some (.ret (mkRes ys), H2, k2)
      | none => none
     | some (.panicking ch, H2, k2) => some (.panic ch, H2, k2)
     | _ => none
    | none => none
   | none => none) else none
  | none => none
 | none => none
theorem Zf1 {E : Ev} (hE : EvOk P E) (hm : P.follows .mixedOrders = true) (hnm : NamesOk P) {L : Nat} : ∀ f xs H k r H' k', evFun E P L f xs H k = some (r, H', k') → ECall P f xs H k r H' k' := by
 intro f xs H k r H' k' h
 unfold evFun at h
 split at h
 ·rename_i fn hfn
  split at h
  ·rename_i c hc
   cases hn0 : Nat.ble xs.length fn.ntmps with
   | false => rw [hn0] at h; cases h
   | true =>
    rw [hn0, cond_true] at h
    split at h
    ·rename_i x e1 he
     split at h
     ·rename_i u hu
      have hRR : H'.R = H.R := by
       have h1 := Zd2 hE hm c _ x e1 he
       split at h
       ·rename_i H2 k2 hl
        split at h
        ·cases h; exact (Z43 (Zd4 hE hm) _ _ _ _ hl).trans h1
        ·cases h
       ·rename_i ch H2 k2 hl
        cases h; exact (Z43 (Zd4 hE hm) _ _ _ _ hl).trans h1
       ·cases h
      refine ⟨⟨fn, hfn, by rw [hc]; rfl, hnm f fn hfn⟩, hRR, fun C Hl w vs hw hs hf hv => ?_⟩
      refine callsIn_of_wp_marks hfn hc trivial ?_ rfl
      have hS := SE.enter (fn := fn) hn0 hw hs hf hv
      refine wpIn_mono ((Zam hE nofun (fun _ => rfl) hm c _ x e1 he).2 C Hl _ w hS) ?_
      rintro x' a1 w1 ⟨rfl, C1, Hl1, hs1, hx1⟩
      have hne : u ≠ .run := by rintro rfl; cases x' <;> cases hu
      have key : ∀ (u2 : FrameMode) (H2 : Hp) (k2 : Nat), evLeave (evDc E P L) e1.D u e1.H e1.k = some (u2, H2, k2) → (∀ C2 Hl2 w2, (∀ t x, e1.T.get t = some x → ∃ v, a1.tmps[t]? = some v ∧ VR C2 x v) → WR C2 Hl2 w2 → SubH H2 Hl2 → Fr k2 C2 → EX k C Hl w k2 C2 Hl2 w2 →
        LeavesInM (Wd none) 0 P fn a1.tmps (fun en w' => ∃ C' Hl', ER C' r en ∧ WR C' Hl' w' ∧ SubH H' Hl' ∧ Fr k' C' ∧ EX k C Hl w k' C' Hl' w') [] u2 w2) →
        LeavesInM (Wd none) 0 P fn a1.tmps (fun en w' => ∃ C' Hl', ER C' r en ∧ WR C' Hl' w' ∧ SubH H' Hl' ∧ Fr k' C' ∧ EX k C Hl w k' C' Hl' w') a1.defers u w1 := by
       intro u2 H2 k2 hl hfin
       rw [hs1.sr.df]
       exact Z4l (Z7l hE hm hnm) hfin e1.D u e1.H e1.k hne hl C1 Hl1 w1 (fun t x ht => hs1.sr.sl t x (by rw [Tr.lk_ls]; exact ht)) hs1.sr.du hs1.sr.wr hs1.hs hs1.fr hx1
      have all : LeavesInM (Wd none) 0 P fn a1.tmps (fun en w' => ∃ C' Hl', ER C' r en ∧ WR C' Hl' w' ∧ SubH H' Hl' ∧ Fr k' C' ∧ EX k C Hl w k' C' Hl' w') a1.defers u w1 := by
       split at h
       ·rename_i H2 k2 hl
        split at h
        ·rename_i ys hr
         cases h
         refine key _ _ _ hl fun C2 Hl2 w2 hT hw2 hs2 hf2 hx2 => ?_
         simp only [LeavesInM, LeavesIn]
         obtain ⟨v, g1, g2⟩ := Z2q (s := ⟨e1.T.ls, Hl2, [], fn.ntmps⟩) (a := ⟨a1.tmps, []⟩) (fn := fn) hw2 (fun t x ht => hT t x (by rw [← Tr.lk_ls]; exact ht)) (Z51 hs2 _ _ hr)
         exact ⟨v, g1, C2, Hl2, g2, hw2, hs2, hf2, hx2⟩
        ·cases h
       ·rename_i ch H2 k2 hl
        cases h
        refine key _ _ _ hl fun C2 Hl2 w2 hT hw2 hs2 hf2 hx2 => ?_
        simp only [LeavesInM, LeavesIn]
        exact ⟨C2, Hl2, rfl, hw2, hs2, hf2, hx2⟩
       ·cases h
      cases x' with
      | normal => cases hu; exact all
      | ret => cases hu; exact all
      | panic ch => cases hu; exact all
      | _ => cases hu
     ·cases h
    ·cases h
  ·cases h
 ·cases h
end
end Go.Sx
namespace Go.Sx
open Go
section
variable {P : Program}
def exitCode : Exit → Option (Option Code)
 | .normal => some none
 | .ret => some (some .ret)
 | .exit i => some (some (.exit i))
 | .goto i => some (some (.goto i))
 | _ => none
def evRnd (E : Ev) (P : Program) (L : Nat) : CallF := fun id xs H k => match H.own id with
 | some (.loop T nn ps assign body .ready none) => bif Nat.beq ps.size xs.length && ps.all (fun t => Nat.blt t nn) then (match evC E P nn true L assign ⟨(Tr.ofL T).prm ps.toList xs, H, [], k⟩ with
  | some (.normal, e1) => match e1.H.get id with
   | some (.loop T1 n1 ps1 as1 b1 .ready none) => match e1.D, evC E P nn true L body ⟨e1.T, e1.H.put id (some (.loop T1 n1 ps1 as1 b1 .busy none)), [], e1.k⟩ with
    | [], some (x, e2) => match exitCode x, e2.H.get id with
     | some j, some (.loop T2 n2 ps2 as2 b2 _ _) => some (.ret (.v (.bool j.isNone)), e2.H.put id (some (.loop T2 n2 ps2 as2 b2 (if j.isNone then .ready else .done) j)), e2.k)
     | _, _ => none
    | _, _ => none
   | _ => none
  | _ => none) else none
 | _ => none
theorem Zf3 {E : Ev} (hE : EvOk P E) (hm : P.follows .mixedOrders = true) {L : Nat} : ∀ id xs H k r H' k', evRnd E P L id xs H k = some (r, H', k') → ERound P id xs H k r H' k' := by
 intro id xs H k r H' k' h
 unfold evRnd at h
 split at h
 ·rename_i T nn ps assign body hg0
  obtain ⟨hfree, hg⟩ := Hp.own_spec hg0
  cases hc : (Nat.beq ps.size xs.length && ps.all (fun t => Nat.blt t nn)) with
  | false => rw [hc] at h; cases h
  | true =>
   rw [hc, cond_true] at h
   rw [Bool.and_eq_true] at hc
   have hps := Nat.eq_of_beq_eq_true hc.1
   split at h
   ·rename_i e1 he1
    split at h
    ·rename_i T1 n1 ps1 as1 b1 hg1
     split at h
     ·rename_i x e2 hD1 he2
      split at h
      ·rename_i j T2 n2 ps2 as2 b2 st2 pd2 hj hg2
       cases h
       have hR1 := Zd2 hE hm assign _ _ _ he1
       have hR2 := Zd2 hE hm body _ _ _ he2
       have f1 : getR e1.H.R id = none := by rw [hR1]; exact hfree
       have f2 : getR e2.H.R id = none := by rw [hR2]; exact f1
       refine ⟨hR2.trans hR1, ?_⟩
       intro C Hl w vs l N hml hw hs hf hv
       obtain ⟨hu, hor⟩ := hw.ids _ _ (hs _ _ hg)
       obtain ⟨r0, h1, h2, h3, h4, h5, h6, h7, h8⟩ := Z5x hor hml
       refine ⟨r0.fn, _, r0.assign, r0.body, run_yield h1 (by rw [← hv.1, ← hps, h4]), ?_⟩
       refine roundIn_of_wpIn (F := Wd none) trivial ?_
       have hfold : ((r0.params.zip vs).foldl (fun tmps (x : Tmp × Value) => tmps.setIfInBounds x.1 x.2) r0.tmps) = ((ps.toList.zip vs.toList).foldl (fun tmps (x : Tmp × Value) => tmps.setIfInBounds x.1 x.2) r0.tmps) := by
        rw [h4, ← Array.foldl_toList, Array.toList_zip]
       have hpn : ∀ t, t ∈ ps.toList → t < nn := by
        intro t ht
        have := Array.all_eq_true'.1 hc.2 t (by simpa using ht)
        rwa [Nat.blt_eq] at this
       obtain ⟨hq1, hq2⟩ := Zb5 (C := C) (n := nn) ps.toList xs T r0.tmps vs.toList (by simpa using hps) (by rw [hv.1]; simp) hpn h7 h8 (fun i y v hy hvv => hv.2 i y v hy (by rw [← Array.getElem?_toList]; exact hvv))
       have hag : Agree ((Tr.ofL T).prm ps.toList xs) (prm T ps.toList xs) := Tr.prm_agree _ _ _ _ fun t y hy => Tr.ofL_get _ _ _ hy
       have hS : SE C Hl ⟨(Tr.ofL T).prm ps.toList xs, H, [], k⟩ nn { tmps := (r0.params.zip vs).foldl (fun tmps (x : Tmp × Value) => tmps.setIfInBounds x.1 x.2) r0.tmps, defers := [] } w := by
        refine ⟨⟨hw, ?_, rfl, nofun, ?_⟩, hs, hf⟩
        ·intro t y hy
         rw [hfold]
         exact hq2 t y (hag t y (by rw [← Tr.lk_ls]; exact hy))
        ·rw [hfold]; exact hq1
       rw [h5, h6]
       refine wpIn_mono ((Zam (ro := some l) hE (fun _ => rfl) (fun h => by cases h) hm assign _ _ _ he1).2 C Hl _ w hS) ?_
       rintro x1 a1 w1 ⟨rfl, C1, Hl1, hs1, hx1⟩
       have hm1 : C1.m id = some (l, N) := by rw [hx1.le.m id hu]; exact hml
       obtain ⟨j1, hj1⟩ := Z28 (hs1.hs _ _ hg1)
       obtain ⟨_, hor1⟩ := hs1.sr.wr.ids _ _ (List.mem_of_getElem? hj1)
       obtain ⟨r1, g1, g2, g3, g4, g5, g6, g7, g8⟩ := Z5x hor1 hm1
       obtain ⟨hb1, hb2⟩ := Z7q (Z := []) (st' := .busy) (pend' := r1.pending) hs1.sr.wr hj1 hm1 g1
       refine ⟨_, run_beginRound g1 g2, ?_⟩
       rw [g3] at hb1 hb2
       have hS1 : SE C1 (Hl1.set j1 (id, .loop T1 n1 ps1 as1 b1 .busy none)) ⟨e1.T, e1.H.put id (some (.loop T1 n1 ps1 as1 b1 .busy none)), [], e1.k⟩ nn a1 (w1.putObj l (.loop { r1 with state := .busy })) := by
        have hdf := hs1.sr.df
        have hdu := hs1.sr.du
        simp only [hD1] at hdf hdu
        have e0 : ({ r1 with state := .busy, pending := none } : Loop) = { r1 with state := .busy } := by rw [← g3]
        rw [← e0]
        exact ⟨⟨hb1, hs1.sr.sl, hdf, nofun, hs1.sr.sz⟩, hs1.hs.set hs1.sr.wr f1 hj1, hs1.fr⟩
       refine wpIn_mono ((Zam (ro := some l) hE (fun _ => rfl) (fun h => by cases h) hm body _ _ _ he2).2 C1 _ _ _ hS1) ?_
       rintro x2 a2 w2 ⟨rfl, C2, Hl2, hs2, hx2⟩
       have hx12 : EX k C Hl w e2.k C2 Hl2 w2 := by
        have e0 : ({ r1 with state := .busy, pending := none } : Loop) = { r1 with state := .busy } := by rw [← g3]
        rw [← e0] at hx2
        exact (hx1.trans hb2.same).trans hx2
       have hm2 : C2.m id = some (l, N) := by rw [hx12.le.m id hu]; exact hml
       obtain ⟨j2, hj2⟩ := Z28 (hs2.hs _ _ hg2)
       obtain ⟨_, hor2⟩ := hs2.sr.wr.ids _ _ (List.mem_of_getElem? hj2)
       obtain ⟨r2, k1, k2, k3, k4, k5, k6, k7, k8⟩ := Z5x hor2 hm2
       have big : ∀ jump : Option Code, ∃ v w4, (Instr.endRound l jump).run P w2 = .ok v w4 ∧ ∃ C' Hl', ER C' (.ret (.v (.bool jump.isNone))) (.returned v) ∧ WR C' Hl' w4 ∧ SubH (e2.H.put id (some (.loop T2 n2 ps2 as2 b2 (if jump.isNone then .ready else .done) jump))) Hl' ∧ Fr e2.k C' ∧ EX k C Hl w e2.k C' Hl' w4 := by
        intro jump
        obtain ⟨t1, t2⟩ := Z7q (Z := []) (st' := (if jump.isNone then .ready else .done)) (pend' := jump) hs2.sr.wr hj2 hm2 k1
        exact ⟨_, _, run_endRound jump k1, C2, _, .v _, t1, hs2.hs.set hs2.sr.wr f2 hj2, hs2.fr, hx12.trans t2.same⟩
       cases x2 with
       | normal => cases hj; exact big none
       | ret => cases hj; exact big (some .ret)
       | exit i => cases hj; exact big (some (.exit i))
       | goto i => cases hj; exact big (some (.goto i))
       | _ => cases hj
      ·cases h
     ·cases h
    ·cases h
   ·cases h
 ·cases h
def KOk (P : Program) (K : CallF) : Prop := ∀ f xs H k r H' k', K f xs H k = some (r, H', k') → ECall P f xs H k r H' k'
def noK : CallF := fun _ _ _ _ => none
theorem Z8v : KOk P noK := fun _ _ _ _ _ _ _ h => by cases h
def orK (K F : CallF) : CallF := fun f xs H k => match K f xs H k with
 | some r => some r
 | none => F f xs H k
theorem Ziu {K F : CallF} (hK : KOk P K) (hF : KOk P F) : KOk P (orK K F) := by
 intro f xs H k r H' k' h
 unfold orK at h
 split at h
 ·rename_i r' hr; cases h; exact hK _ _ _ _ _ _ _ hr
 ·exact hF _ _ _ _ _ _ _ h
def evN (P : Program) (K : CallF) (L : Nat) : Nat → Ev
 | 0 => ⟨K, fun _ _ _ _ => none⟩
 | m + 1 => ⟨orK K (evFun (evN P K L m) P L), evRnd (evN P K L m) P L⟩
theorem Z5o (hm : P.follows .mixedOrders = true) (hnm : NamesOk P) {K : CallF} (hK : KOk P K) {L : Nat} : ∀ m, EvOk P (evN P K L m)
 | 0 => ⟨hK, fun _ _ _ _ _ _ _ h => by simp [evN] at h⟩
 | m + 1 => ⟨Ziu hK (Zf1 (Z5o hm hnm hK m) hm hnm), Zf3 (Z5o hm hnm hK m) hm⟩
def namesOk (P : Program) : Bool := P.funcs.all fun fn => !(fn.name == "runtime.NumGoroutine")
theorem Z0s (h : namesOk P = true) : NamesOk P := by
 intro f fn hf
 have := Array.all_eq_true'.1 h fn (Array.mem_of_getElem? hf)
 simpa using this
theorem Z7y {K : CallF} (hK : KOk P K) {f L m : Nat} {v : Value} (hm : P.follows .mixedOrders = true) (hnm : namesOk P = true) (h : ((evN P K L m).call f [] ⟨.lf, []⟩ 0).map (fun r => r.1) = some (.ret (.v v))) : ACalls P f [] [] (Gives (.v v)) := by
 cases hc : (evN P K L m).call f [] ⟨.lf, []⟩ 0 with
 | none => rw [hc] at h; cases h
 | some r =>
  obtain ⟨r, H', k'⟩ := r
  rw [hc] at h
  simp only [Option.map_some, Option.some.injEq] at h
  subst h
  have hE := (Z5o hm (Z0s hnm) hK m).call _ _ _ _ _ _ _ hc
  refine ⟨hE.1, fun Z C w vs hw hv => ?_⟩
  have hempty : WR (baseC w) [] w := Zac w
  refine (hE.2.2 (baseC w) [] w vs hempty (fun i ob h => by simp [Hp.get, getR, Tr.get, Tr.getF_lf] at h) (fun _ _ _ => nofun) ⟨hv.1, fun i x u h => by simp at h⟩).mono ?_
  rintro en w' ⟨C', Hl', x1, x2, x3, x4, x5⟩
  refine ⟨C, [], .ret (.v v), ⟨rfl, rfl⟩, ⟨?_, List.nodup_nil, nofun, nofun, fun b ⟨i, o, N, h, _⟩ => by cases h⟩, ⟨.refl C, fun _ _ h => h, x5.x.os, x5.x.tape, x5.x.output, x5.x.size, ?_, fun _ o h => .inl ⟨o, h⟩, (fun b ⟨i, o, N, h, _⟩ => nomatch h), nofun⟩, ?_⟩
  ·intro b o hb
   have h1 := hw.hp b o hb
   have hlt : b < w.heap.size := (Array.getElem?_eq_some_iff.1 h1).1
   rw [x5.x.fr b hlt (fun ⟨i, o, N, h, _⟩ => by cases h)]; exact h1
  ·intro b hlt _
   exact x5.x.fr b hlt (fun ⟨i, o, N, h, _⟩ => by cases h)
  ·cases en with
   | returned u => have e := VR.val x1; subst e; exact .v _
   | panicked ch => exact x1.elim
   | outgrown => exact x1.elim
end
end Go.Sx
namespace Go.Sx
open Go
mutual
def AV.ren (ρ : Nat → Nat) : AV → AV
 | .v x => .v x
 | .agg cs => .agg (renL ρ cs)
 | .tup cs => .tup (renL ρ cs)
 | .lst es => .lst (renLL ρ es)
 | .own id sz off len => .own (ρ id) sz off len
 | .ptr id sz i c => .ptr (ρ id) sz i c
 | .elt es i c => .elt (renLL ρ es) i c
 | .fn f cap => .fn f (renL ρ cap)
 | .map id => .map (ρ id)
 | .ifc t x => .ifc t (AV.ren ρ x)
 | .yld id => .yld (ρ id)
def renL (ρ : Nat → Nat) : List AV → List AV
 | [] => []
 | x :: r => AV.ren ρ x :: renL ρ r
def renLL (ρ : Nat → Nat) : List (List AV) → List (List AV)
 | [] => []
 | l :: r => renL ρ l :: renLL ρ r
end
theorem Z56 (ρ : Nat → Nat) : ∀ l, renL ρ l = l.map (AV.ren ρ)
 | [] => rfl
 | x :: r => by rw [renL, Z56 ρ r]; rfl
theorem Z2g (ρ : Nat → Nat) : ∀ l, renLL ρ l = l.map (renL ρ)
 | [] => rfl
 | x :: r => by rw [renLL, Z2g ρ r]; rfl
theorem Z2n {ρ : Nat → Nat} {l : List AV} {i : Nat} {c : AV} (h : (renL ρ l)[i]? = some c) : ∃ d, l[i]? = some d ∧ c = d.ren ρ := by
 rw [Z56, List.getElem?_map] at h
 cases hl : l[i]? with
 | none => rw [hl] at h; cases h
 | some d => rw [hl] at h; exact ⟨d, rfl, (Option.some.inj h).symm⟩
theorem Z2o {ρ : Nat → Nat} {l : List AV} {i : Nat} {d : AV} (h : l[i]? = some d) : (renL ρ l)[i]? = some (d.ren ρ) := by
 rw [Z56, List.getElem?_map, h]; rfl
theorem Z22 {ρ : Nat → Nat} {l : List (List AV)} {i : Nat} {c : List AV} (h : (renLL ρ l)[i]? = some c) : ∃ d, l[i]? = some d ∧ c = renL ρ d := by
 rw [Z2g, List.getElem?_map] at h
 cases hl : l[i]? with
 | none => rw [hl] at h; cases h
 | some d => rw [hl] at h; exact ⟨d, rfl, (Option.some.inj h).symm⟩
theorem Z2m {ρ : Nat → Nat} {l : List (List AV)} {i : Nat} {d : List AV} (h : l[i]? = some d) : (renLL ρ l)[i]? = some (renL ρ d) := by
 rw [Z2g, List.getElem?_map, h]; rfl
theorem renL_len {ρ : Nat → Nat} {l : List AV} : (renL ρ l).length = l.length := by rw [Z56, List.length_map]
theorem Z23 {ρ : Nat → Nat} {l : List (List AV)} : (renLL ρ l).length = l.length := by rw [Z2g, List.length_map]
theorem renLL_nil {ρ : Nat → Nat} {l : List (List AV)} : renLL ρ l = [] ↔ l = [] := by rw [Z2g, List.map_eq_nil_iff]
theorem VR.ren {C C' : Ctx} {ρ : Nat → Nat} (hhp : ∀ b o, C.hp b = some o → C'.hp b = some o) (hm : ∀ i, i ∈ C.U → ρ i ∈ C'.U ∧ C'.m (ρ i) = C.m i) {x : AV} {v : Value} (h : VR C x v) : VR C' (x.ren ρ) v := by
 induction h with
 | v x => exact .v x
 | agg cs vs hl _ ih =>
  refine .agg _ vs (renL_len.trans hl) fun i c x hc hx => ?_
  obtain ⟨d, hd, rfl⟩ := Z2n hc
  exact ih i d x hd hx
 | tup cs vs hl _ ih =>
  refine .tup _ vs (renL_len.trans hl) fun i c x hc hx => ?_
  obtain ⟨d, hd, rfl⟩ := Z2n hc
  exact ih i d x hd hx
 | lstNil => exact .lstNil
 | lst es a sz cap cells elem fz xs hs hb hz hc _ ho hcap ih =>
  have h := VR.lst (C := C') (renLL ρ es) a sz cap cells elem fz xs (fun e => hs (fun h => e (renLL_nil.2 h))) (fun e => hhp _ _ (hb (fun h => e (renLL_nil.2 h))))
   (fun e he => by
    obtain ⟨i, hi⟩ := List.mem_iff_getElem?.1 he
    obtain ⟨d, hd, rfl⟩ := Z22 hi
    rw [renL_len]; exact hz d (List.mem_of_getElem? hd))
   (fun i e j c h1 h2 => by
    obtain ⟨d, hd, rfl⟩ := Z22 h1
    obtain ⟨y, hy, rfl⟩ := Z2n h2
    exact hc i d j y hd hy)
   (fun i e j c h1 h2 => by
    obtain ⟨d, hd, rfl⟩ := Z22 h1
    obtain ⟨y, hy, rfl⟩ := Z2n h2
    exact ih i d j y hd hy)
   (fun i e j c h1 h2 => by
    obtain ⟨d, hd, rfl⟩ := Z22 h1
    obtain ⟨y, hy, rfl⟩ := Z2n h2
    exact ho i d j y hd hy)
   (by rw [Z23]; exact hcap)
  rw [Z23] at h
  exact h
 | own id sz off len b N cap hid hu hcap hlen hml => exact .own (ρ id) sz off len b N cap ((hm id hu).2.trans hid) (hm id hu).1 hcap hlen hml
 | ownNil id sz hid hu => exact .ownNil (ρ id) sz ((hm id hu).2.trans hid) (hm id hu).1
 | ptr id sz i c b N hid hu => exact .ptr (ρ id) sz i c b N ((hm id hu).2.trans hid) (hm id hu).1
 | elt es i c a sz cap n _ hz hi ih =>
  refine .elt (renLL ρ es) i c a sz cap n ih (fun e he => ?_) (by rw [Z23]; exact hi)
  obtain ⟨j, hj⟩ := List.mem_iff_getElem?.1 he
  obtain ⟨d, hd, rfl⟩ := Z22 hj
  rw [renL_len]; exact hz d (List.mem_of_getElem? hd)
 | fn f cap vs hl _ ih =>
  refine .fn f _ vs (renL_len.trans hl) fun i c x hc hx => ?_
  obtain ⟨d, hd, rfl⟩ := Z2n hc
  exact ih i d x hd hx
 | map id b N hid hu => exact .map (ρ id) b N ((hm id hu).2.trans hid) (hm id hu).1
 | ifc t x v _ ih => exact .ifc t _ v ih
 | yld id l N hid hu => exact .yld (ρ id) l N ((hm id hu).2.trans hid) (hm id hu).1
theorem VR.unren {C C' : Ctx} {ρ : Nat → Nat} {ok : Nat → Bool} (hhp : ∀ b o, C.hp b = some o → C'.hp b = some o) (hm : ∀ i, ok i = true → ρ i ∈ C.U → i ∈ C'.U ∧ C'.m i = C.m (ρ i)) {y : AV} {v : Value} (h : VR C y v) : ∀ x : AV, y = x.ren ρ → nmA ok x = true → VR C' x v := by
 induction h with
 | v z => intro x e hn; cases x <;> simp only [AV.ren, reduceCtorEq] at e; cases e; exact .v z
 | agg cs vs hl _ ih =>
  intro x e hn; cases x <;> simp only [AV.ren, reduceCtorEq] at e
  rename_i cs0
  have e := AV.agg.inj e
  subst e
  exact .agg cs0 vs (renL_len.symm.trans hl) fun i c x hc hx => ih i _ x (Z2o hc) hx c rfl (Z0v hn i c hc)
 | tup cs vs hl _ ih =>
  intro x e hn; cases x <;> simp only [AV.ren, reduceCtorEq] at e
  rename_i cs0
  have e := AV.tup.inj e
  subst e
  exact .tup cs0 vs (renL_len.symm.trans hl) fun i c x hc hx => ih i _ x (Z2o hc) hx c rfl (Z0v hn i c hc)
 | lstNil =>
  intro x e hn; cases x <;> simp only [AV.ren, reduceCtorEq] at e
  rename_i es
  have : es = [] := renLL_nil.1 (AV.lst.inj e).symm
  subst this
  exact .lstNil
 | lst es a sz cap cells elem fz xs hs hb hz hc _ ho hcap ih =>
  intro x e hn; cases x <;> simp only [AV.ren, reduceCtorEq] at e
  rename_i es0
  have e := AV.lst.inj e
  subst e
  rw [Z23] at hcap ⊢
  exact .lst es0 a sz cap cells elem fz xs (fun h => hs fun e => h (renLL_nil.1 e)) (fun h => hhp _ _ (hb fun e => h (renLL_nil.1 e)))
   (fun d hd => by
    obtain ⟨i, hi⟩ := List.mem_iff_getElem?.1 hd
    have := hz _ (List.mem_of_getElem? (Z2m (ρ := ρ) hi))
    rwa [renL_len] at this)
   (fun i d j y h1 h2 => hc i _ j _ (Z2m h1) (Z2o h2))
   (fun i d j y h1 h2 => ih i _ j _ (Z2m h1) (Z2o h2) y rfl (Z0v (Z2k hn i d h1) j y h2))
   (fun i d j y h1 h2 => ho i _ j _ (Z2m h1) (Z2o h2)) hcap
 | own id sz off len b N cap hid hu hcap hlen hml =>
  intro x e hn; cases x <;> simp only [AV.ren, reduceCtorEq] at e
  cases e
  obtain ⟨h1, h2⟩ := hm _ hn hu
  exact .own _ sz off len b N cap (h2.trans hid) h1 hcap hlen hml
 | ownNil id sz hid hu =>
  intro x e hn; cases x <;> simp only [AV.ren, reduceCtorEq] at e
  cases e
  obtain ⟨h1, h2⟩ := hm _ hn hu
  exact .ownNil _ sz (h2.trans hid) h1
 | ptr id sz i c b N hid hu =>
  intro x e hn; cases x <;> simp only [AV.ren, reduceCtorEq] at e
  cases e
  obtain ⟨h1, h2⟩ := hm _ hn hu
  exact .ptr _ sz i c b N (h2.trans hid) h1
 | elt es i c a sz cap n _ hz hi ih =>
  intro x e hn; cases x <;> simp only [AV.ren, reduceCtorEq] at e
  rename_i es0 i0 c0
  obtain ⟨e1, rfl, rfl⟩ := AV.elt.inj e
  subst e1
  refine .elt es0 i c a sz cap n (ih (.lst es0) rfl hn) (fun d hd => ?_) (by rwa [Z23] at hi)
  obtain ⟨j, hj⟩ := List.mem_iff_getElem?.1 hd
  have := hz _ (List.mem_of_getElem? (Z2m (ρ := ρ) hj))
  rwa [renL_len] at this
 | fn f cap vs hl _ ih =>
  intro x e hn; cases x <;> simp only [AV.ren, reduceCtorEq] at e
  rename_i f0 cs0
  obtain ⟨e1, e2⟩ := AV.fn.inj e
  subst e1
  subst e2
  exact .fn _ cs0 vs (renL_len.symm.trans hl) fun i c x hc hx => ih i _ x (Z2o hc) hx c rfl (Z0v hn i c hc)
 | map id b N hid hu =>
  intro x e hn; cases x <;> simp only [AV.ren, reduceCtorEq] at e
  cases e
  obtain ⟨h1, h2⟩ := hm _ hn hu
  exact .map _ b N (h2.trans hid) h1
 | ifc t z v _ ih =>
  intro x e hn; cases x <;> simp only [AV.ren, reduceCtorEq] at e
  cases e
  exact .ifc t _ v (ih _ rfl hn)
 | yld id l N hid hu =>
  intro x e hn; cases x <;> simp only [AV.ren, reduceCtorEq] at e
  cases e
  obtain ⟨h1, h2⟩ := hm _ hn hu
  exact .yld _ l N (h2.trans hid) h1
def AObj.ren (ρ : Nat → Nat) : AObj → AObj
 | .rows el sz es => .rows el sz (renLL ρ es)
 | .mp es => .mp (es.map fun p => (p.1, p.2.ren ρ))
 | o => o
theorem OR.ren {C C' : Ctx} {ρ : Nat → Nat} {w : World} {i : Nat} {o : AObj} (hhp : ∀ b o, C.hp b = some o → C'.hp b = some o) (hm : ∀ i, i ∈ C.U → ρ i ∈ C'.U ∧ C'.m (ρ i) = C.m i) (hi : i ∈ C.U) (hp : plainOb o = true) (h : OR C i w o) : OR C' (ρ i) w (o.ren ρ) := by
 have hmi := (hm i hi).2
 cases o with
 | rows el sz es =>
  refine ⟨fun e he => ?_, ?_⟩
  ·obtain ⟨j, hj⟩ := List.mem_iff_getElem?.1 he
   obtain ⟨d, hd, rfl⟩ := Z22 hj
   rw [renL_len]; exact h.1 d (List.mem_of_getElem? hd)
  ·rcases h.2 with ⟨a, b⟩ | ⟨b, N, cells, hb, hh, hs, hl, hc⟩
   ·exact .inl ⟨hmi.trans a, renLL_nil.2 b⟩
   ·refine .inr ⟨b, N, cells, hmi.trans hb, hh, hs, by rw [Z23]; exact hl, fun i e j c h1 h2 => ?_⟩
    obtain ⟨d, hd, rfl⟩ := Z22 h1
    obtain ⟨y, hy, rfl⟩ := Z2n h2
    obtain ⟨x, g1, g2, g3⟩ := hc i d j y hd hy
    exact ⟨x, g1, g2.ren hhp hm, g3⟩
 | mp es =>
  obtain ⟨b, N, ents, clock, hb, hh, hs, h1, h2, h3⟩ := h
  refine ⟨b, N, ents, clock, hmi.trans hb, hh, by rw [List.length_map]; exact hs, h1, h2, fun i k x hi => ?_⟩
  rw [List.getElem?_map] at hi
  cases he : es[i]? with
  | none => rw [he] at hi; cases hi
  | some p =>
   rw [he] at hi
   simp only [Option.map_some, Option.some.injEq, Prod.mk.injEq] at hi
   obtain ⟨rfl, rfl⟩ := hi
   obtain ⟨e, g1, g2, g3⟩ := h3 i p.1 p.2 he
   exact ⟨e, g1, g2, g3.ren hhp hm⟩
 | raw o =>
  obtain ⟨b, N, hb, hh⟩ := h
  exact ⟨b, N, hmi.trans hb, hh⟩
 | _ => cases hp
theorem OR.unren {C C' : Ctx} {ρ : Nat → Nat} {ok : Nat → Bool} {w : World} {i : Nat} {o : AObj} (hhp : ∀ b o, C.hp b = some o → C'.hp b = some o) (hm : ∀ i, ok i = true → ρ i ∈ C.U → i ∈ C'.U ∧ C'.m i = C.m (ρ i)) (hi : ok i = true) (hu : ρ i ∈ C.U) (hp : plainOb o = true) (hn : nmOb ok o = true) (h : OR C (ρ i) w (o.ren ρ)) : OR C' i w o := by
 have hmi := (hm i hi hu).2
 cases o with
 | rows el sz es =>
  refine ⟨fun d hd => ?_, ?_⟩
  ·obtain ⟨j, hj⟩ := List.mem_iff_getElem?.1 hd
   have := h.1 _ (List.mem_of_getElem? (Z2m (ρ := ρ) hj))
   rwa [renL_len] at this
  ·rcases h.2 with ⟨a, b⟩ | ⟨b, N, cells, hb, hh, hs, hl, hc⟩
   ·exact .inl ⟨hmi.trans a, renLL_nil.1 b⟩
   ·refine .inr ⟨b, N, cells, hmi.trans hb, hh, hs, by rwa [Z23] at hl, fun i d j y h1 h2 => ?_⟩
    obtain ⟨x, g1, g2, g3⟩ := hc i _ j _ (Z2m h1) (Z2o h2)
    exact ⟨x, g1, g2.unren hhp hm y rfl (Z0v (Z2k hn i d h1) j y h2), g3⟩
 | mp es =>
  obtain ⟨b, N, ents, clock, hb, hh, hs, h1, h2, h3⟩ := h
  refine ⟨b, N, ents, clock, hmi.trans hb, hh, by rwa [List.length_map] at hs, h1, h2, fun i k x hi => ?_⟩
  obtain ⟨e, g1, g2, g3⟩ := h3 i k (x.ren ρ) (by rw [List.getElem?_map, hi]; rfl)
  exact ⟨e, g1, g2, g3.unren hhp hm x rfl (Z65 hn i k x hi)⟩
 | raw o =>
  obtain ⟨b, N, hb, hh⟩ := h
  exact ⟨b, N, hmi.trans hb, hh⟩
 | _ => cases hp
def renH (ρ : Nat → Nat) (H : AHeap) : AHeap := H.map fun p => (ρ p.1, p.2.ren ρ)
def AEnd.ren (ρ : Nat → Nat) : AEnd → AEnd
 | .ret x => .ret (x.ren ρ)
 | .panic ch => .panic ch
theorem Z1v {ρ : Nat → Nat} {H : AHeap} {i : Nat} {o : AObj} (h : (i, o) ∈ renH ρ H) : ∃ j ob, (j, ob) ∈ H ∧ i = ρ j ∧ o = ob.ren ρ := by
 obtain ⟨⟨j, ob⟩, h1, h2⟩ := List.mem_map.1 h
 cases h2
 exact ⟨j, ob, h1, rfl, rfl⟩
theorem Z7a {C C' : Ctx} {ρ : Nat → Nat} {H : AHeap} {b : Nat} (hm : ∀ i o, (i, o) ∈ H → C'.m (ρ i) = C.m i) : blk C' (renH ρ H) b ↔ blk C H b := by
 constructor
 ·rintro ⟨i, o, N, hi, hb⟩
  obtain ⟨j, ob, h1, rfl, rfl⟩ := Z1v hi
  exact ⟨j, ob, N, h1, (hm j ob h1).symm.trans hb⟩
 ·rintro ⟨i, o, N, hi, hb⟩
  exact ⟨ρ i, o.ren ρ, N, List.mem_map.2 ⟨_, hi, rfl⟩, (hm i o hi).trans hb⟩
theorem Z66 {α β : Type} {g : α → β} : ∀ {l : List α}, (l.map g).Nodup → ∀ {a b : α}, a ∈ l → b ∈ l → g a = g b → a = b
 | [], _, a, _, ha, _, _ => absurd ha List.not_mem_nil
 | c :: r, h, a, b, ha, hb, e => by
  simp only [List.map_cons, List.nodup_cons] at h
  rcases List.mem_cons.1 ha with h1 | h1 <;> rcases List.mem_cons.1 hb with h2 | h2
  ·rw [h1, h2]
  ·rw [h1] at e; exact absurd (show g c ∈ r.map g from List.mem_map.2 ⟨b, h2, e.symm⟩) h.1
  ·rw [h2] at e; exact absurd (show g c ∈ r.map g from List.mem_map.2 ⟨a, h1, e⟩) h.1
  ·exact Z66 h.2 h1 h2 e
theorem Z7o : ∀ (l : List Nat) (i : Nat), i ∈ l → i ≤ l.foldr max 0
 | [], i, h => absurd h List.not_mem_nil
 | a :: r, i, h => by
  simp only [List.foldr_cons]
  rcases List.mem_cons.1 h with rfl | h
  ·exact Nat.le_max_left ..
  ·exact Nat.le_trans (Z7o r i h) (Nat.le_max_right ..)
theorem Z5c {P : Program} {f k k' : Nat} {xs : List AV} {H H' : Hp} {r : AEnd} {Hc Hf : AHeap} (h : ECall P f xs H k r H' k') (hk : k ≤ MM)
  (hH : ∀ i ob, H.get i = some ob → (i, ob) ∈ Hc) (hc : ∀ p, p ∈ Hc → p.1 < k ∧ plainOb p.2 = true ∧ nmOb (fun i => Nat.blt i k) p.2 = true) (hx : nmL (fun i => Nat.blt i k) xs = true) (hcn : (Hc.map Prod.fst).Nodup)
  (hf : ∀ p, p ∈ Hf → H'.get p.1 = some p.2 ∧ plainOb p.2 = true ∧ (p.1 < k → p.1 ∈ Hc.map Prod.fst)) (hfn : (Hf.map Prod.fst).Nodup) (ρ : Nat → Nat) :
  ACalls P f (renL ρ xs) (renH ρ Hc) (fun e Hq => ∃ ρ', (∀ i, i < k → ρ' i = ρ i) ∧ e = r.ren ρ' ∧ Hq = renH ρ' Hf) := by
 refine ⟨h.1, fun Z C w vs hw hv => ?_⟩
 let C1 : Ctx := { hp := C.hp, m := fun i => if i < k then C.m (ρ i) else none, U := (List.range k).filter fun i => decide (ρ i ∈ C.U), df := fun i => if i < k then C.df (ρ i) else none }
 have hU1 : ∀ i, i ∈ C1.U ↔ i < k ∧ ρ i ∈ C.U := fun i => by simp [C1, List.mem_filter]
 have hm1 : ∀ i, i < k → C1.m i = C.m (ρ i) := fun i hi => if_pos hi
 have hmv : ∀ i, (fun i => Nat.blt i k) i = true → ρ i ∈ C.U → i ∈ C1.U ∧ C1.m i = C.m (ρ i) := fun i hi hu => by
  have hi : i < k := by simpa [Nat.blt_eq] using hi
  exact ⟨(hU1 i).2 ⟨hi, hu⟩, hm1 i hi⟩
 have hHc : ∀ i o, (i, o) ∈ Hc → (ρ i, o.ren ρ) ∈ renH ρ Hc := fun i o hi => List.mem_map.2 ⟨_, hi, rfl⟩
 have hinjc : ∀ i o j o', (i, o) ∈ Hc → (j, o') ∈ Hc → ρ i = ρ j → i = j := by
  intro i o j o' hi hj e
  have hnd := hw.nd
  unfold renH at hnd
  rw [List.map_map] at hnd
  have := Z66 hnd hi hj e
  exact congrArg Prod.fst this
 have hw1 : WR C1 Hc w := by
  refine ⟨hw.hp, hcn, ?_, ?_, ?_⟩
  ·intro i o hi
   obtain ⟨hlt, hp, hn⟩ := hc _ hi
   obtain ⟨h1, h2⟩ := hw.ids _ _ (hHc i o hi)
   exact ⟨(hU1 i).2 ⟨hlt, h1⟩, h2.unren (C := C) (C' := C1) (ρ := ρ) (ok := fun i => Nat.blt i k) (fun _ _ h => h) hmv (by simpa [Nat.blt_eq] using hlt) h1 hp hn⟩
  ·intro i j o o' b N N' hi hj h1 h2
   rw [hm1 i (hc _ hi).1] at h1
   rw [hm1 j (hc _ hj).1] at h2
   exact hinjc i o j o' hi hj (hw.inj _ _ _ _ b N N' (hHc i o hi) (hHc j o' hj) h1 h2)
  ·rintro b ⟨i, o, N, hi, hb⟩
   rw [hm1 i (hc _ hi).1] at hb
   exact hw.dis b ⟨_, _, N, hHc i o hi, hb⟩
 have hv1 : VRs C1 xs vs := ⟨renL_len.symm.trans hv.1, fun i x v h1 h2 => (hv.2 i _ v (Z2o h1) h2).unren (C := C) (C' := C1) (ρ := ρ) (ok := fun i => Nat.blt i k) (fun _ _ h => h) hmv x rfl (Z0v hx i x h1)⟩
 have hfr : Fr k C1 := fun z h1 _ h2 => by have := ((hU1 z).1 h2).1; omega
 refine (h.2.2 C1 Hc w vs hw1 (fun i ob hi => hH i ob hi) hfr hv1).mono ?_
 rintro en w' ⟨C2, Hl, her, hw2, hs2, hf2, hx2⟩
 let B := (C.U ++ Z).foldr max 0 + 1
 have hB : ∀ i, i ∈ C.U ++ Z → i < B := fun i hi => Nat.lt_succ_of_le (Z7o _ i hi)
 let ρ' : Nat → Nat := fun i => if i < k then ρ i else B + i
 let C' : Ctx := { hp := C2.hp, m := fun j => if j < B then C.m j else C2.m (j - B), U := C.U ++ (C2.U.filter fun i => decide (k ≤ i)).map (B + ·), df := fun j => if j < B then C.df j else C2.df (j - B) }
 have hr1 : ∀ i, i < k → ρ' i = ρ i := fun i hi => if_pos hi
 have hr2 : ∀ i, k ≤ i → ρ' i = B + i := fun i hi => if_neg (by omega)
 have hold : ∀ i, i ∈ C2.U → i < k → ρ i ∈ C.U := fun i hi hlt => by
  rcases hx2.nx i (by omega) hi with h1 | h1
  ·exact ((hU1 i).1 h1).2
  ·omega
 have hm2 : ∀ i, i ∈ C2.U → ρ' i ∈ C'.U ∧ C'.m (ρ' i) = C2.m i := by
  intro i hi
  by_cases hlt : i < k
  ·have h1 := hold i hi hlt
   rw [hr1 i hlt]
   refine ⟨List.mem_append_left _ h1, ?_⟩
   have hb := hB _ (List.mem_append_left Z h1)
   show (if ρ i < B then C.m (ρ i) else C2.m (ρ i - B)) = C2.m i
   rw [if_pos hb, hx2.le.m i ((hU1 i).2 ⟨hlt, h1⟩), hm1 i hlt]
  ·rw [hr2 i (by omega)]
   refine ⟨List.mem_append_right _ (List.mem_map.2 ⟨i, List.mem_filter.2 ⟨hi, by simpa using hlt⟩, rfl⟩), ?_⟩
   show (if B + i < B then C.m (B + i) else C2.m (B + i - B)) = C2.m i
   rw [if_neg (by omega), Nat.add_sub_cancel_left]
 have hsub : ∀ p, p ∈ Hf → p ∈ Hl := fun p hp => hs2 p.1 p.2 (hf p hp).1
 have hin : ∀ p, p ∈ Hf → p.1 ∈ C2.U := fun p hp => (hw2.ids p.1 p.2 (hsub p hp)).1
 have hinj : ∀ p q, p ∈ Hf → q ∈ Hf → ρ' p.1 = ρ' q.1 → p.1 = q.1 := by
  intro p q hp hq e
  by_cases h1 : p.1 < k <;> by_cases h2 : q.1 < k
  ·rw [hr1 _ h1, hr1 _ h2] at e
   obtain ⟨⟨i, o⟩, hi, hpi⟩ := List.mem_map.1 ((hf p hp).2.2 h1)
   obtain ⟨⟨j, o'⟩, hj, hqj⟩ := List.mem_map.1 ((hf q hq).2.2 h2)
   rw [← hpi, ← hqj] at e ⊢
   exact hinjc i o j o' hi hj e
  ·rw [hr1 _ h1, hr2 _ (by omega)] at e
   have := hB _ (List.mem_append_left Z (hold _ (hin p hp) h1))
   omega
  ·rw [hr2 _ (by omega), hr1 _ h2] at e
   have := hB _ (List.mem_append_left Z (hold _ (hin q hq) h2))
   omega
  ·rw [hr2 _ (by omega), hr2 _ (by omega)] at e
   omega
 have hblk1 : ∀ b, blk C1 Hc b ↔ blk C (renH ρ Hc) b := fun b => (Z7a fun i o hi => (hm1 i (hc _ hi).1).symm).symm
 have hblk2 : ∀ b, blk C' (renH ρ' Hf) b → blk C2 Hl b := fun b hb => by
  obtain ⟨i, o, N, hi, hb⟩ := (Z7a fun i o hi => (hm2 i (hin _ hi)).2).1 hb
  exact ⟨i, o, N, hsub _ hi, hb⟩
 have hle : C.Le C' := ⟨fun b o hb => hx2.le.hp b o hb, fun i hi => if_pos (hB i (List.mem_append_left Z hi)), fun i hi => List.mem_append_left _ hi, fun i hi => if_pos (hB i (List.mem_append_left Z hi))⟩
 refine ⟨C', renH ρ' Hf, r.ren ρ', ⟨ρ', hr1, rfl, rfl⟩, ⟨hw2.hp, ?_, ?_, ?_, fun b hb => hw2.dis b (hblk2 b hb)⟩, ⟨hle, ?_, hx2.x.os, hx2.x.tape, hx2.x.output, hx2.x.size, ?_, ?_, ?_, ?_⟩, ?_⟩
 ·unfold renH
  rw [List.map_map]
  refine List.pairwise_map.2 ?_
  have hpw := List.pairwise_map.1 hfn
  refine hpw.imp_of_mem ?_
  intro p q hp hq hne e
  exact hne (hinj p q hp hq e)
 ·intro i o hi
  obtain ⟨j, ob, h1, rfl, rfl⟩ := Z1v hi
  obtain ⟨h2, h3⟩ := hw2.ids j ob (hsub _ h1)
  exact ⟨(hm2 j h2).1, h3.ren (C := C2) (C' := C') (fun _ _ h => h) hm2 h2 (hf _ h1).2.1⟩
 ·intro i j o o' b N N' hi hj h1 h2
  obtain ⟨i, ob, g1, rfl, rfl⟩ := Z1v hi
  obtain ⟨j, ob', g2, rfl, rfl⟩ := Z1v hj
  rw [(hm2 i (hin _ g1)).2] at h1
  rw [(hm2 j (hin _ g2)).2] at h2
  rw [hw2.inj i j ob ob' b N N' (hsub _ g1) (hsub _ g2) h1 h2]
 ·intro z hz hzu hm
  rcases List.mem_append.1 hm with h1 | h1
  ·exact hzu h1
  ·obtain ⟨i, _, rfl⟩ := List.mem_map.1 h1
   have := hB (B + i) (List.mem_append_right _ hz)
   omega
 ·intro b hb hn
  exact hx2.x.fr b hb fun h => hn ((hblk1 b).1 h)
 ·intro b o hb
  rcases hx2.x.nhp b o hb with h1 | h1 | h1
  ·exact .inl h1
  ·exact .inr (.inl h1)
  ·exact .inr (.inr ((hblk1 b).1 h1))
 ·intro b hb
  rcases hx2.x.nbl b (hblk2 b hb) with h1 | h1
  ·exact .inl ((hblk1 b).1 h1)
  ·exact .inr h1
 ·intro i o hi
  obtain ⟨j, ob, h1, rfl, rfl⟩ := Z1v hi
  by_cases hlt : j < k
  ·obtain ⟨⟨i, o⟩, hic, hpi⟩ := List.mem_map.1 ((hf _ h1).2.2 hlt)
   simp only at hpi
   subst hpi
   rw [hr1 _ hlt]
   exact .inl ⟨_, hHc i o hic⟩
  ·rw [hr2 j (by omega)]
   exact .inr fun hu => by have := hB _ (List.mem_append_left Z hu); omega
 ·cases r with
  | ret x =>
   cases en with
   | returned v => exact VR.ren (C := C2) (C' := C') (fun _ _ h => h) hm2 her
   | panicked ch => exact her.elim
   | outgrown => exact her.elim
  | panic ch =>
   cases en with
   | returned v => exact her.elim
   | panicked ch' => exact her
   | outgrown => exact her.elim
end Go.Sx
namespace Go.Sx
open Go
structure DCalls (P : Program) (f : Nat) (xs : List AV) (u : FrameMode) (H : AHeap) (u2 : FrameMode) (R : AHeap → Prop) : Prop where
 ok : Callable P f
 run : ∀ Z C w vs, WR C H w → VRs C xs vs → CallsDIn (Wd none) 0 P f vs u w (fun en u' w' => ∃ C' H', R H' ∧ (match en with | .returned _ => settle u' = u2 | .panicked ch => raised u' ch = u2 | .outgrown => False) ∧ WR C' H' w' ∧ Ext Z C H w C' H' w')
theorem DCalls.frame {P : Program} {f : Nat} {xs : List AV} {u u2 : FrameMode} {H : AHeap} {R : AHeap → Prop} (h : DCalls P f xs u H u2 R) (K Fr : AHeap) (hp : K.Perm (H ++ Fr)) :
  DCalls P f xs u K u2 (fun K' => ∃ H', R H' ∧ K' = H' ++ Fr) :=
 ⟨h.ok, fun Z C w vs hw hv => by
  have hw1 : WR C (H ++ Fr) w := hw.perm hp
  refine CallsDIn.mono (h.run Z C w vs hw1.left hv) ?_
  rintro e u' w' ⟨C', H', r, hu, hw', he⟩
  obtain ⟨h1, h2⟩ := he.frame hw1 hw'
  exact ⟨C', _, ⟨H', r, rfl⟩, hu, h1, h2.permL hp.symm⟩⟩
theorem Z1u {P : Program} {f k k' : Nat} {xs : List AV} {u u2 : FrameMode} {H H' : Hp} {Hc Hf : AHeap} (h : EDCall P f xs u H k u2 H' k') (hk : k ≤ MM)
  (hH : ∀ i ob, H.get i = some ob → (i, ob) ∈ Hc) (hc : ∀ p, p ∈ Hc → p.1 < k ∧ plainOb p.2 = true ∧ nmOb (fun i => Nat.blt i k) p.2 = true) (hx : nmL (fun i => Nat.blt i k) xs = true) (hcn : (Hc.map Prod.fst).Nodup)
  (hf : ∀ p, p ∈ Hf → H'.get p.1 = some p.2 ∧ plainOb p.2 = true ∧ (p.1 < k → p.1 ∈ Hc.map Prod.fst)) (hfn : (Hf.map Prod.fst).Nodup) (ρ : Nat → Nat) :
  DCalls P f (renL ρ xs) u (renH ρ Hc) u2 (fun Hq => ∃ ρ', (∀ i, i < k → ρ' i = ρ i) ∧ Hq = renH ρ' Hf) := by
 refine ⟨h.1, fun Z C w vs hw hv => ?_⟩
 let C1 : Ctx := { hp := C.hp, m := fun i => if i < k then C.m (ρ i) else none, U := (List.range k).filter fun i => decide (ρ i ∈ C.U), df := fun i => if i < k then C.df (ρ i) else none }
 have hU1 : ∀ i, i ∈ C1.U ↔ i < k ∧ ρ i ∈ C.U := fun i => by simp [C1, List.mem_filter]
 have hm1 : ∀ i, i < k → C1.m i = C.m (ρ i) := fun i hi => if_pos hi
 have hmv : ∀ i, (fun i => Nat.blt i k) i = true → ρ i ∈ C.U → i ∈ C1.U ∧ C1.m i = C.m (ρ i) := fun i hi hu => by
  have hi : i < k := by simpa [Nat.blt_eq] using hi
  exact ⟨(hU1 i).2 ⟨hi, hu⟩, hm1 i hi⟩
 have hHc : ∀ i o, (i, o) ∈ Hc → (ρ i, o.ren ρ) ∈ renH ρ Hc := fun i o hi => List.mem_map.2 ⟨_, hi, rfl⟩
 have hinjc : ∀ i o j o', (i, o) ∈ Hc → (j, o') ∈ Hc → ρ i = ρ j → i = j := by
  intro i o j o' hi hj e
  have hnd := hw.nd
  unfold renH at hnd
  rw [List.map_map] at hnd
  have := Z66 hnd hi hj e
  exact congrArg Prod.fst this
 have hw1 : WR C1 Hc w := by
  refine ⟨hw.hp, hcn, ?_, ?_, ?_⟩
  ·intro i o hi
   obtain ⟨hlt, hp, hn⟩ := hc _ hi
   obtain ⟨h1, h2⟩ := hw.ids _ _ (hHc i o hi)
   exact ⟨(hU1 i).2 ⟨hlt, h1⟩, h2.unren (C := C) (C' := C1) (ρ := ρ) (ok := fun i => Nat.blt i k) (fun _ _ h => h) hmv (by simpa [Nat.blt_eq] using hlt) h1 hp hn⟩
  ·intro i j o o' b N N' hi hj h1 h2
   rw [hm1 i (hc _ hi).1] at h1
   rw [hm1 j (hc _ hj).1] at h2
   exact hinjc i o j o' hi hj (hw.inj _ _ _ _ b N N' (hHc i o hi) (hHc j o' hj) h1 h2)
  ·rintro b ⟨i, o, N, hi, hb⟩
   rw [hm1 i (hc _ hi).1] at hb
   exact hw.dis b ⟨_, _, N, hHc i o hi, hb⟩
 have hv1 : VRs C1 xs vs := ⟨renL_len.symm.trans hv.1, fun i x v h1 h2 => (hv.2 i _ v (Z2o h1) h2).unren (C := C) (C' := C1) (ρ := ρ) (ok := fun i => Nat.blt i k) (fun _ _ h => h) hmv x rfl (Z0v hx i x h1)⟩
 have hfr : Fr k C1 := fun z h1 _ h2 => by have := ((hU1 z).1 h2).1; omega
 refine (h.2.2 C1 Hc w vs hw1 (fun i ob hi => hH i ob hi) hfr hv1).mono ?_
 rintro en u' w' ⟨C2, Hl, her, hw2, hs2, hf2, hx2⟩
 let B := (C.U ++ Z).foldr max 0 + 1
 have hB : ∀ i, i ∈ C.U ++ Z → i < B := fun i hi => Nat.lt_succ_of_le (Z7o _ i hi)
 let ρ' : Nat → Nat := fun i => if i < k then ρ i else B + i
 let C' : Ctx := { hp := C2.hp, m := fun j => if j < B then C.m j else C2.m (j - B), U := C.U ++ (C2.U.filter fun i => decide (k ≤ i)).map (B + ·), df := fun j => if j < B then C.df j else C2.df (j - B) }
 have hr1 : ∀ i, i < k → ρ' i = ρ i := fun i hi => if_pos hi
 have hr2 : ∀ i, k ≤ i → ρ' i = B + i := fun i hi => if_neg (by omega)
 have hold : ∀ i, i ∈ C2.U → i < k → ρ i ∈ C.U := fun i hi hlt => by
  rcases hx2.nx i (by omega) hi with h1 | h1
  ·exact ((hU1 i).1 h1).2
  ·omega
 have hm2 : ∀ i, i ∈ C2.U → ρ' i ∈ C'.U ∧ C'.m (ρ' i) = C2.m i := by
  intro i hi
  by_cases hlt : i < k
  ·have h1 := hold i hi hlt
   rw [hr1 i hlt]
   refine ⟨List.mem_append_left _ h1, ?_⟩
   have hb := hB _ (List.mem_append_left Z h1)
   show (if ρ i < B then C.m (ρ i) else C2.m (ρ i - B)) = C2.m i
   rw [if_pos hb, hx2.le.m i ((hU1 i).2 ⟨hlt, h1⟩), hm1 i hlt]
  ·rw [hr2 i (by omega)]
   refine ⟨List.mem_append_right _ (List.mem_map.2 ⟨i, List.mem_filter.2 ⟨hi, by simpa using hlt⟩, rfl⟩), ?_⟩
   show (if B + i < B then C.m (B + i) else C2.m (B + i - B)) = C2.m i
   rw [if_neg (by omega), Nat.add_sub_cancel_left]
 have hsub : ∀ p, p ∈ Hf → p ∈ Hl := fun p hp => hs2 p.1 p.2 (hf p hp).1
 have hin : ∀ p, p ∈ Hf → p.1 ∈ C2.U := fun p hp => (hw2.ids p.1 p.2 (hsub p hp)).1
 have hinj : ∀ p q, p ∈ Hf → q ∈ Hf → ρ' p.1 = ρ' q.1 → p.1 = q.1 := by
  intro p q hp hq e
  by_cases h1 : p.1 < k <;> by_cases h2 : q.1 < k
  ·rw [hr1 _ h1, hr1 _ h2] at e
   obtain ⟨⟨i, o⟩, hi, hpi⟩ := List.mem_map.1 ((hf p hp).2.2 h1)
   obtain ⟨⟨j, o'⟩, hj, hqj⟩ := List.mem_map.1 ((hf q hq).2.2 h2)
   rw [← hpi, ← hqj] at e ⊢
   exact hinjc i o j o' hi hj e
  ·rw [hr1 _ h1, hr2 _ (by omega)] at e
   have := hB _ (List.mem_append_left Z (hold _ (hin p hp) h1))
   omega
  ·rw [hr2 _ (by omega), hr1 _ h2] at e
   have := hB _ (List.mem_append_left Z (hold _ (hin q hq) h2))
   omega
  ·rw [hr2 _ (by omega), hr2 _ (by omega)] at e
   omega
 have hblk1 : ∀ b, blk C1 Hc b ↔ blk C (renH ρ Hc) b := fun b => (Z7a fun i o hi => (hm1 i (hc _ hi).1).symm).symm
 have hblk2 : ∀ b, blk C' (renH ρ' Hf) b → blk C2 Hl b := fun b hb => by
  obtain ⟨i, o, N, hi, hb⟩ := (Z7a fun i o hi => (hm2 i (hin _ hi)).2).1 hb
  exact ⟨i, o, N, hsub _ hi, hb⟩
 have hle : C.Le C' := ⟨fun b o hb => hx2.le.hp b o hb, fun i hi => if_pos (hB i (List.mem_append_left Z hi)), fun i hi => List.mem_append_left _ hi, fun i hi => if_pos (hB i (List.mem_append_left Z hi))⟩
 refine ⟨C', renH ρ' Hf, ⟨ρ', hr1, rfl⟩, her, ⟨hw2.hp, ?_, ?_, ?_, fun b hb => hw2.dis b (hblk2 b hb)⟩, ⟨hle, ?_, hx2.x.os, hx2.x.tape, hx2.x.output, hx2.x.size, ?_, ?_, ?_, ?_⟩⟩
 ·unfold renH
  rw [List.map_map]
  refine List.pairwise_map.2 ?_
  have hpw := List.pairwise_map.1 hfn
  refine hpw.imp_of_mem ?_
  intro p q hp hq hne e
  exact hne (hinj p q hp hq e)
 ·intro i o hi
  obtain ⟨j, ob, h1, rfl, rfl⟩ := Z1v hi
  obtain ⟨h2, h3⟩ := hw2.ids j ob (hsub _ h1)
  exact ⟨(hm2 j h2).1, h3.ren (C := C2) (C' := C') (fun _ _ h => h) hm2 h2 (hf _ h1).2.1⟩
 ·intro i j o o' b N N' hi hj h1 h2
  obtain ⟨i, ob, g1, rfl, rfl⟩ := Z1v hi
  obtain ⟨j, ob', g2, rfl, rfl⟩ := Z1v hj
  rw [(hm2 i (hin _ g1)).2] at h1
  rw [(hm2 j (hin _ g2)).2] at h2
  rw [hw2.inj i j ob ob' b N N' (hsub _ g1) (hsub _ g2) h1 h2]
 ·intro z hz hzu hm
  rcases List.mem_append.1 hm with h1 | h1
  ·exact hzu h1
  ·obtain ⟨i, _, rfl⟩ := List.mem_map.1 h1
   have := hB (B + i) (List.mem_append_right _ hz)
   omega
 ·intro b hb hn
  exact hx2.x.fr b hb fun h => hn ((hblk1 b).1 h)
 ·intro b o hb
  rcases hx2.x.nhp b o hb with h1 | h1 | h1
  ·exact .inl h1
  ·exact .inr (.inl h1)
  ·exact .inr (.inr ((hblk1 b).1 h1))
 ·intro b hb
  rcases hx2.x.nbl b (hblk2 b hb) with h1 | h1
  ·exact .inl ((hblk1 b).1 h1)
  ·exact .inr h1
 ·intro i o hi
  obtain ⟨j, ob, h1, rfl, rfl⟩ := Z1v hi
  by_cases hlt : j < k
  ·obtain ⟨⟨i, o⟩, hic, hpi⟩ := List.mem_map.1 ((hf _ h1).2.2 hlt)
   simp only at hpi
   subst hpi
   rw [hr1 _ hlt]
   exact .inl ⟨_, hHc i o hic⟩
  ·rw [hr2 j (by omega)]
   exact .inr fun hu => by have := hB _ (List.mem_append_left Z hu); omega
section
variable {P : Program} {ro : Option Nat} {Q : Exit → St → Prop} {ops : Array Oper} {o : Oper} {rest : List Oper} {s : St}
theorem Z2b {fo : Operand} {args : Array Operand} {ats : Array TypeId} {f : Nat} {caps xs : List AV} {R : AEnd → AHeap → Prop} (Hf Fr : AHeap) (hw : Wanted ops s.T o true) (hd : dok o.dst s.n = true)
  (ho : o.op = .call { callee := .value fo, args := args, argTypes := ats }) (hfo : ev s.T fo = some (.fn (.func f) caps)) (hxs : evs s.T args.toList = some xs) (hp : s.H.Perm (Hf ++ Fr)) (hc : ACalls P f (xs ++ caps) Hf R)
  (h : ∀ x H', R (.ret x) H' → AOps P ro ops rest Q { s with T := put s.T o.dst x, H := H' ++ Fr }) (hpn : ∀ ch H', R (.panic ch) H' → Q (.panic ch) { s with H := H' ++ Fr }) : AOps P ro ops (o :: rest) Q s :=
 Z0w hw (Z69 Hf Fr ho hfo hxs hp hd hc h hpn)
theorem Zbi {fo : Operand} {args : Array Operand} {ats : Array TypeId} {f : Nat} {caps xs : List AV} (hw : Wanted ops s.T o true) (hdst : o.dst = none)
  (ho : o.op = .defer { callee := .value fo, args := args, argTypes := ats }) (hfo : ev s.T fo = some (.fn (.func f) caps)) (hxs : evs s.T args.toList = some xs)
  (h : ∀ id, AOps P none ops rest Q ⟨s.T, (id, .dfr (.func f) caps xs) :: s.H, id :: s.D, s.n⟩) : AOps P none ops (o :: rest) Q s := by
 refine Z0w hw ?_
 intro Z C0 H0 w0 C a w hx hs
 have v1 : VRs C xs (args.toList.map a.eval).toArray := Z37 args.toList xs hxs fun p _ y hy => hs.ev hy
 have v3 := hs.ev hfo
 generalize hf : a.eval fo = u at v3
 cases v3 with
 | fn _ _ vcaps hcl hcv =>
  have hrun : (o.semAt none a.eval).run P w = .ok (.defer { target := .fn (.func f) vcaps, args := (args.toList.map a.eval).toArray }) w := by
   rw [Oper.semAt_none]
   have e : Array.map a.eval args = (args.toList.map a.eval).toArray := by apply Array.ext'; simp
   simp only [execOp, ho, Sem.run_bind, resolve, Deferred.ofValue, hf, Sem.run_pure, Result.andThen, e]
   simp
  rw [hrun]
  obtain ⟨id, hid⟩ := Z9s (C.U ++ Z)
  rw [List.mem_append, not_or] at hid
  obtain ⟨C1, g1, g2, g3, g4⟩ := Zai (Z := Z) id (d := { target := .fn (.func f) vcaps, args := (args.toList.map a.eval).toArray }) hs.wr hid.1 hid.2 rfl ⟨hcl, hcv⟩ v1
  refine ⟨C1, _, h id, ⟨g1, ?_, ?_, ?_, ?_⟩, hx.trans g2⟩
  ·intro t y hy
   obtain ⟨v, a1, a2⟩ := hs.sl t y hy
   exact ⟨v, by rw [hdst]; exact a1, a2.mono g2.le⟩
  ·rw [hdst]
   show _ :: a.defers = _
   rw [hs.df]
   simp only [List.map_cons, g3]
   congr 1
   exact List.map_congr_left fun i hi => by simp [mark, g2.le.m i (hs.du i hi), g2.le.df i (hs.du i hi)]
  ·intro i hi
   rcases List.mem_cons.1 hi with rfl | hi
   ·exact g4
   ·exact g2.le.U i (hs.du i hi)
  ·rw [hdst]; exact hs.sz
end
def FinD (P : Program) (fn : Func) (R : AEnd → AHeap → Prop) (s : St) : FrameMode → AHeap → Prop
 | .returning, H2 => ∃ ys, Res P s.T H2 fn.results.toList ys ∧ ∃ H'', H''.Sublist H2 ∧ R (.ret (mkRes ys)) H''
 | .panicking ch, H2 => ∃ H'', H''.Sublist H2 ∧ R (.panic ch) H''
 | _, _ => False
def exitMode : Exit → Option FrameMode
 | .normal => some .returning
 | .ret => some .returning
 | .panic ch => some (.panicking ch)
 | _ => none
def RetD (P : Program) (fn : Func) (R : AEnd → AHeap → Prop) (x : Exit) (s : St) : Prop :=
 ∃ u, exitMode x = some u ∧ ((s.D = [] ∧ FinD P fn R s u s.H) ∨
  ∃ i g cs xs H1 u2 R1, s.D = [i] ∧ s.H.Perm ((i, .dfr (.func g) cs xs) :: H1) ∧ DCalls P g (xs ++ cs) u H1 u2 R1 ∧ ∀ H2, R1 H2 → FinD P fn R s u2 H2)
theorem Z5s {P : Program} {fn : Func} {R : AEnd → AHeap → Prop} {s : St} {u : FrameMode} {H2 : AHeap} {Z : List Nat} {C0 C2 : Ctx} {H0 : AHeap} {w0 w2 : World} {tmps : Array Value} (h : FinD P fn R s u H2)
  (hT : ∀ t x, lk s.T t = some x → ∃ v, tmps[t]? = some v ∧ VR C2 x v) (hw : WR C2 H2 w2) (hx : Ext Z C0 H0 w0 C2 H2 w2) :
  LeavesInM (Wd none) 0 P fn tmps (fun e w' => ∃ C' H' x, R x H' ∧ WR C' H' w' ∧ Ext Z C0 H0 w0 C' H' w' ∧ ER C' x e) [] u w2 := by
 have sub : ∀ H'' : AHeap, H''.Sublist H2 → WR C2 H'' w2 ∧ Ext Z C0 H0 w0 C2 H'' w2 := fun H'' hs => ⟨hw.sub (fun p hp => hs.subset hp) ((hs.map Prod.fst).nodup hw.nd), hx.trans (Ext.sub fun p hp => hs.subset hp)⟩
 unfold FinD at h
 split at h
 ·obtain ⟨ys, hr, H'', hs, hR⟩ := h
  simp only [LeavesInM, LeavesIn]
  obtain ⟨v, g1, g2⟩ := Z2q (s := ⟨s.T, H2, [], s.n⟩) (a := ⟨tmps, []⟩) (fn := fn) hw hT hr
  exact ⟨v, g1, C2, H'', _, hR, (sub H'' hs).1, (sub H'' hs).2, g2⟩
 ·obtain ⟨H'', hs, hR⟩ := h
  simp only [LeavesInM, LeavesIn]
  exact ⟨C2, H'', _, hR, (sub H'' hs).1, (sub H'' hs).2, rfl⟩
 ·exact h.elim
theorem Z4a {P : Program} {f : Nat} {fn : Func} {c : Code} {n : Nat} {xs : List AV} {H : AHeap} {R : AEnd → AHeap → Prop}
  (hf : P.funcs[f]? = some fn) (hb : fn.body = some c) (hnm : (fn.name == "runtime.NumGoroutine") = false) (hnt : fn.ntmps = n) (hn0 : Nat.ble xs.length n = true)
  (h : AWp P none c (RetD P fn R) ⟨enum xs 0, H, [], n⟩) : ACalls P f xs H R := by
 subst hnt
 have hn : xs.length ≤ fn.ntmps := Nat.le_of_ble_eq_true hn0
 refine ⟨⟨fn, hf, by rw [hb]; rfl, hnm⟩, fun Z C w vs hw hv => ?_⟩
 refine callsIn_of_wp_marks hf hb trivial ?_ rfl
 have hs : SR C ⟨enum xs 0, H, [], fn.ntmps⟩ { tmps := vs ++ Array.replicate (fn.ntmps - vs.size) undef, defers := [] } w := by
  refine ⟨hw, ?_, rfl, nofun, ?_⟩
  ·intro t x hx
   obtain ⟨i, rfl, hi⟩ := Z7p xs 0 t x hx
   rw [Nat.zero_add]
   have hlt : i < vs.size := by rw [← hv.1]; exact (List.getElem?_eq_some_iff.1 hi).1
   have hvi : vs[i]? = some vs[i] := Array.getElem?_eq_getElem hlt
   exact ⟨vs[i], by rw [Array.getElem?_append_left hlt]; exact hvi, hv.2 i x _ hi hvi⟩
  ·have := hv.1
   simp only [Array.size_append, Array.size_replicate]
   omega
 refine wpIn_mono (h Z C H w C _ w (.refl ..) hs) ?_
 rintro e a' w' ⟨h1, C', s', ⟨u, hu, hq⟩, hs', he'⟩
 have key : LeavesInM (Wd none) 0 P fn a'.tmps (fun e w' => ∃ C' H' x, R x H' ∧ WR C' H' w' ∧ Ext Z C H w C' H' w' ∧ ER C' x e) a'.defers u w' := by
  rw [hs'.df]
  rcases hq with ⟨hD, hfin⟩ | ⟨i, g, cs, ys, H1, u2, R1, hD, hp, hc, hfin⟩
  ·rw [hD]
   exact Z5s hfin hs'.sl hs'.wr he'
  ·rw [hD]
   have hw1 := hs'.wr.perm hp
   obtain ⟨hiu, hm, d, cv, hdf, ht, hcs, hxs⟩ := hw1.ids i _ List.mem_cons_self
   have hmk : mark C' i = d := by simp [mark, hm, hdf]
   simp only [List.map_cons, List.map_nil, LeavesInM]
   refine ⟨(by rintro rfl; cases e <;> cases hu), .inr ⟨nofun, ?_⟩⟩
   have hvs : VRs C' (ys ++ cs) (d.args ++ cv) := VRs.append hxs hcs
   refine ⟨.func g, cv, g, d.args ++ cv, by rw [hmk]; exact ht, ?_, fun _ _ => trivial, ?_⟩
   ·rw [hmk, ht]
    simp only [invoke]
    exact Z58 hc.ok _ w'
   ·have hsub : WR C' H1 w' := hw1.sub (fun p hp => List.mem_cons_of_mem _ hp) (by have := hw1.nd; simp only [List.map_cons, List.nodup_cons] at this; exact this.2)
    have hx1 : Ext Z C H w C' H1 w' := (he'.permR hp).trans (Ext.sub fun p hp => List.mem_cons_of_mem _ hp)
    refine CallsDIn.mono (hc.run Z C' w' _ hsub hvs) ?_
    rintro en u1 w1 ⟨C1, H2, hR1, hen, hw1', hx2⟩
    have hT1 : ∀ t x, lk s'.T t = some x → ∃ v, a'.tmps[t]? = some v ∧ VR C1 x v := fun t x ht => let ⟨v, a, b⟩ := hs'.sl t x ht; ⟨v, a, b.mono hx2.le⟩
    have go : ∀ u3, u3 = u2 → LeavesInM (Wd none) 0 P fn a'.tmps (fun e w' => ∃ C' H' x, R x H' ∧ WR C' H' w' ∧ Ext Z C H w C' H' w' ∧ ER C' x e) [] u3 w1 := by
     rintro u3 rfl
     exact Z5s (hfin H2 hR1) hT1 hw1' (hx1.trans hx2)
    cases en with
    | returned v => exact go _ hen
    | panicked ch => exact go _ hen
    | outgrown => exact hen.elim
 cases e with
 | normal => cases hu; exact key
 | ret => cases hu; exact key
 | panic ch => cases hu; exact key
 | _ => cases hu
end Go.Sx
namespace Go.Sx
open Go Go.Proofs
theorem Zcy {P : Program} {o : Oper} {T : List (Nat × AV)} {Hn : AHeap} {x y : AV} {On : AHeap} (h : Eff P o T Hn x On) (k : ∀ C v, VR C x v → VR C y v) : Eff P o T Hn y On :=
 fun Z C H a w hw hn hv hi hd hz ro next R hk => h Z C H a w hw hn hv hi hd hz ro next R (fun v w1 C1 hv1 => hk v w1 C1 (k C1 v hv1))
theorem Zd9 {P : Program} {f : Nat} {R : AEnd → AHeap → Prop} (hN : ACalls P f [.v (.slice none 0 0)] [] R)
  (hP : ∀ a cap, ACalls P f [.v (.slice (some a) 0 cap)] [] R) : ACalls P f [.lst []] [] R := by
 refine ⟨hN.ok, fun Z C w vs hw hv => ?_⟩
 obtain ⟨v, rfl⟩ : ∃ v, vs = #[v] := by
  have h1 : vs.size = 1 := by simpa using hv.1.symm
  exact ⟨vs[0], Array.ext (by simpa using h1) fun i h2 h3 => by
   have : i = 0 := by omega
   subst this; rfl⟩
 have hx := hv.2 0 (.lst []) v rfl rfl
 cases hx with
 | lstNil => exact hN.run Z C w #[_] hw ⟨rfl, fun i x y a b => by
   cases i with
   | zero => simp at a b; subst a; subst b; exact .v _
   | succ i => simp at a⟩
 | lst _ ad _ cap => exact (hP ad cap).run Z C w #[_] hw ⟨rfl, fun i x y a b => by
   cases i with
   | zero => simp at a b; subst a; subst b; exact .v _
   | succ i => simp at a⟩
theorem Zfe {C : Ctx} {es : List (List AV)} {v : Value} (hne : es ≠ []) (hv : VR C (.lst es) v) : ∃ (ad : Option Addr) (n c : Nat), v = .slice ad n c ∧ ad.isNone = false := by
 cases hv with
 | lstNil => exact absurd rfl hne
 | lst _ a _ cap => exact ⟨_, _, _, rfl, rfl⟩
theorem Zbo : ACalls Try.prog 38 [.v (.slice none 0 0)] [] (Gives (row1 oA [])) := by
 refine Zj (n := 8) Try.func38 rfl (by decide +kernel) rfl rfl ?_
 refine wk ?_
 refine zE (Z50 (z := true) rfl rfl rfl (fun C v hv => ⟨none, 0, 0, VR.val hv, rfl⟩) rfl) ?_
 refine zN ?_
 refine tqN ?_
 refine qcT ?_
 refine qS ?_
 refine qR ?_
 refine zE (Zcy (y := .lst []) (Z3 rfl rfl) (fun C v hv => by rw [VR.val hv]; exact .lstNil)) ?_
 refine wk ?_
 exact Z0y rfl (Zf rfl Ze) (gvr rfl)
theorem Zbp (a : Addr) (cap : Nat) : ACalls Try.prog 38 [.v (.slice (some a) 0 cap)] [] (Gives (row1 oA [])) := by
 refine Zj (n := 8) Try.func38 rfl (by decide +kernel) rfl rfl ?_
 refine wk ?_
 refine zE (Z50 (z := false) rfl rfl rfl (fun C v hv => ⟨some a, 0, cap, VR.val hv, rfl⟩) rfl) ?_
 refine wk ?_
 refine Z15 (w0 rfl) rfl (fun id => Z0o id (ps := []) rfl rfl rfl rfl rfl rfl rfl rfl) (fun id2 => ?_)
 refine Z1 (w0 rfl) rfl (Zcy (y := .lst []) (Z0 rfl rfl) (fun C v hv => by rw [VR.val hv]; exact .lst [] a 0 cap #[] 0 (0, 0) (fun _ _ => undef) (fun h => absurd rfl h) (fun h => absurd rfl h) (fun _ h => nomatch h) (fun i e j c h => by simp at h) (fun i e j c h => by simp at h) (fun i e j c h => by simp at h) (Nat.zero_le _))) ?_
 refine Z14 0 (w0 rfl) rfl rfl rfl rfl rfl rfl ⟨rfl, nofun⟩ (by simp) (by simp) (fun id3 => ?_)
 refine zA ?_
 refine zN ?_
 refine tqN ?_
 refine Z1e (Z2s 0 2 (T' := []) rfl rfl rfl trivial) ?_
 refine wk ?_
 exact Z0y rfl (Zf rfl Ze) (gvr rfl)
theorem Z9d (b : List Nat) (hs : small b.length) (hne : b ≠ []) : ACalls Try.prog 38 [row1 oA b] [] (Gives (row1 oA b)) := by
 refine Zj (n := 8) Try.func38 rfl (by decide +kernel) rfl rfl ?_
 simp only [small] at hs
 refine wk ?_
 refine zE (Z50 (z := false) rfl rfl rfl (fun C v hv => Zfe (by simpa using hne) hv) rfl) ?_
 refine wk ?_
 refine Z15 (w0 rfl) rfl (fun id => Z0o id (ps := []) rfl rfl rfl rfl rfl rfl rfl rfl) (fun id2 => ?_)
 refine Z1 (w0 rfl) rfl (Z0 rfl rfl) ?_
 refine Z14 0 (w0 rfl) rfl rfl rfl rfl rfl rfl ⟨rfl, Z17 (fun _ => rfl)⟩ (by simp; omega) (by simp [maxLen]; omega) (fun id3 => ?_)
 refine zA ?_
 refine zN ?_
 refine tqN ?_
 refine Z1e (Z2s 0 2 (T' := []) rfl rfl (by show 0 + (b.map fun x => [oA x]).length = _; simp) trivial) ?_
 refine wk ?_
 exact Z0y rfl (Zf rfl Ze) (gvr rfl)
theorem Zej (b : List Nat) (hs : small b.length) : ACalls Try.prog 38 [row1 oA b] [] (Gives (row1 oA b)) := by
 by_cases hne : b = []
 ·subst hne
  exact Zd9 Zbo Zbp
 ·exact Z9d b hs hne
end Go.Sx
namespace Go.Sx
open Go Go.Proofs
abbrev rdA (b : List Nat) (x : Int × Int × Int) : List AV := [row1 oA b, .v (.int .i64 x.1), iA b.length, .v (.int .i64 x.2.1), .v (.int .i64 x.2.2)]
theorem Zie (b : List Nat) (hs : small b.length) : ACalls Try.prog 12 [row1 oA b] [] (GP (fun k : Nat => .ptr k 5 0 0) (fun k => [(k, .rows 68 5 [rdA b (0, 0, 0)])]) (fun _ => True)) := by
 refine Zj (n := 9) Try.func12 rfl (by decide +kernel) rfl rfl ?_
 have hs2 := hs
 simp only [small] at hs2
 refine wk ?_
 refine zE (Zp [] rfl rfl rfl (Zej b hs) List.nodup_nil) ?_
 refine wk ?_
 refine Zjy (fun k => ?_)
 refine wk ?_
 exact Zr rfl (Zf rfl Ze) (.refl _) (gp k trivial rfl (by simp; rfl))
abbrev rdH (k : Nat) (b : List Nat) (x : Int × Int × Int) : AHeap := [(k, .rows 68 5 [rdA b x])]
abbrev rfH (k : Nat) (b : List Nat) (x : Int × Int × Int) : AHeap := [(k, .rows 75 5 [rdA b x])]
theorem Z9f (k : Nat) (b : List Nat) (p e f : Int) : ACalls Try.prog 49 [.ptr k 5 0 0] (rdH k b (p, e, f)) (GivesH (bA (e == 0)) (rdH k b (p, e, f))) := by
 refine Zj (n := 13) Try.func49 rfl (by decide +kernel) rfl rfl ?_
 refine wk ?_
 exact Zr rfl (Zf rfl Ze) (.refl _) ⟨rfl, rfl⟩
theorem Zgx (k : Nat) (b : List Nat) (p e f : Int) : ACalls Try.prog 22 [.ptr k 5 0 0] (rdH k b (p, e, f)) (GivesH (.agg [.v (.int .i64 e), .v (.int .i64 f)]) (rdH k b (p, e, f))) := by
 refine Zj (n := 10) Try.func22 rfl (by decide +kernel) rfl rfl ?_
 refine wk ?_
 refine Zed (fun id => ?_)
 refine wk ?_
 exact Zr rfl (Z1b 0 rfl rfl rfl Z2t Ze) (.cons _ (.refl _)) (gvH rfl)
theorem Zg2 (k : Nat) (b : List Nat) (p e f : Int) : ACalls Try.prog 36 [.ptr k 5 0 0] (rdH k b (p, e, f)) (GivesH (bA (e == 0)) (rdH k b (p, e, f))) := by
 refine Zj (n := 7) Try.func36 rfl (by decide +kernel) rfl rfl ?_
 refine wk ?_
 refine zCH 0 (Zgx k b p e f) ?_
 refine zE (Z8b rfl rfl rfl) ?_
 refine wk ?_
 exact Zr rfl (Zf rfl Ze) (.refl _) (gvH rfl)
theorem Zgz (e a : Int) (he : (e == 0) = false) : ACalls Try.prog 61 [.v (.int .i64 e), .v (.int .i64 a)] [] (Gives (.agg [.v (.int .i64 e), .v (.int .i64 a)])) := by
 refine Zj (n := 11) Try.func61 rfl (by decide +kernel) rfl rfl ?_
 refine wk ?_
 refine Zed (fun id => ?_)
 refine wk ?_
 refine Za rfl (fun hc => ?_) (fun hc => ?_)
 ·exact absurd (hc.symm.trans he) (by decide)
 refine wk ?_
 exact Z0y rfl (Z1b 0 rfl rfl rfl Z2t Ze) (gvr rfl)
theorem Zek (k : Nat) (b : List Nat) (p e0 f e : Int) (he : (e == 0) = false) : ACalls Try.prog 37 [.ptr k 5 0 0, .v (.int .i64 e)] (rdH k b (p, e0, f)) (GP (fun _ : Unit => .tup []) (fun _ => rdH k b (if e0 = 0 then (p, e, p) else (p, e0, f))) (fun _ => True)) := by
 refine Zj (n := 15) Try.func37 rfl (by decide +kernel) rfl rfl ?_
 refine wk ?_
 refine zCH 0 (Z9f k b p e0 f) ?_
 refine zN ?_
 refine tqN ?_
 refine Za rfl (fun hc => ?_) (fun hc => ?_)
 ·have h0 : e0 = 0 := by simpa using hc
  clear hc
  rw [if_pos h0]
  refine wk ?_
  refine zCG (Zgz e p he) ?_
  refine wk ?_
  exact Zr (fn := Try.f37) rfl Ze (.refl _) (gp () trivial rfl rfl)
 have h0 : ¬ e0 = 0 := by simpa using hc
 rw [if_neg h0]
 refine wk ?_
 exact Zr (fn := Try.f37) rfl Ze (.refl _) (gp () trivial rfl rfl)
abbrev pnA (e a : Int) : List PanicEntry := [{ v := .iface 94 (.agg #[.int .i64 e, .int .i64 a]), recovered := false }]
theorem Z85 (e a : Int) : ACalls Try.prog 51 [.v (.bool true), .v (.int .i64 e), .v (.int .i64 a)] [] (Gives (.tup [])) := by
 refine Zj (n := 13) Try.func51 rfl (by decide +kernel) rfl rfl ?_
 refine wk ?_
 exact Z0y (fn := Try.f51) rfl Ze (gvr rfl)
end Go.Sx
namespace Go.Sx
open Go Go.Proofs
def oH (x : Option (AEnd × Hp × Nat)) : Hp := match x with | some (_, H, _) => H | none => ⟨.lf, []⟩
def oK (x : Option (AEnd × Hp × Nat)) : Nat := match x with | some (_, _, k) => k | none => 0
def PanR (ch : List PanicEntry) (Hn : AHeap) : AEnd → AHeap → Prop := fun e H => e = .panic ch ∧ H = Hn
theorem Zbd {f : Nat} {xs : List AV} {ch : List PanicEntry} {H' : Hp} {k' : Nat} (h : (evN Try.prog noK 100 40).call f xs ⟨.lf, []⟩ 0 = some (.panic ch, H', k')) (hx : nmL (fun i => Nat.blt i 0) xs = true) (hxs : ∀ ρ, renL ρ xs = xs) : ACalls Try.prog f xs [] (PanR ch []) := by
 have hE := (Z5o (K := noK) (by decide +kernel) (Z0s (by decide +kernel)) Z8v 40).call _ _ _ _ _ _ _ h
 have h1 := Z5c (Hc := []) (Hf := []) hE (by decide) (fun i ob hi => by simp [Hp.get, getR, Tr.get, Tr.getF_lf] at hi) nofun hx List.nodup_nil nofun List.nodup_nil (fun i => i)
 rw [hxs] at h1
 exact h1.mono fun e Hq ⟨ρ', _, h2, h3⟩ => ⟨h2, h3⟩
abbrev unA (e a : Int) : List AV := [.v (.bool false), .v (.int .i64 e), .v (.int .i64 a)]
noncomputable def uF (e a : Int) : Option (AEnd × Hp × Nat) := (evN Try.prog noK 100 40).call 51 (unA e a) ⟨.lf, []⟩ 0
theorem Zjx (e a : Int) : uF e a = some (.panic (pnA e a), oH (uF e a), oK (uF e a)) := by kernel_rfl
theorem Zcq (e a : Int) : ACalls Try.prog 51 (unA e a) [] (PanR (pnA e a) []) := Zbd (Zjx e a) rfl (fun _ => rfl)
abbrev cgH (b : List Nat) (p e f : Int) : Hp := ⟨Tr.lf.put 0 (some (.rows 68 5 [rdA b (p, e, f)])), []⟩
def fH (x : Option (FrameMode × Hp × Nat)) : Hp := match x with | some (_, H, _) => H | none => ⟨.lf, []⟩
def fK (x : Option (FrameMode × Hp × Nat)) : Nat := match x with | some (_, _, k) => k | none => 0
noncomputable def cg (b : List Nat) (p e0 f e a : Int) : Option (FrameMode × Hp × Nat) := evDc (evN Try.prog noK 100 40) Try.prog 100 50 [.ptr 0 5 0 0] (.panicking (pnA e a)) (cgH b p e0 f) 1
noncomputable def cr (b : List Nat) (p e0 f : Int) : Option (FrameMode × Hp × Nat) := evDc (evN Try.prog noK 100 40) Try.prog 100 50 [.ptr 0 5 0 0] .returning (cgH b p e0 f) 1
theorem Zjs (b : List Nat) (p e0 f : Int) : cr b p e0 f = some (.returning, fH (cr b p e0 f), fK (cr b p e0 f)) := by kernel_rfl
theorem Zil (b : List Nat) (p e0 f : Int) : (fH (cr b p e0 f)).get 0 = some (.rows 68 5 [rdA b (p, e0, f)]) := by kernel_rfl
theorem Z9z {i j : Nat} {ob ob' : AObj} (h : (⟨Tr.lf.put i (some ob), []⟩ : Hp).get j = some ob') : (j, ob') ∈ [(i, ob)] := by
 have h : (Tr.lf.put i (some ob)).get j = some ob' := h
 rcases Tr.put_get h with ⟨rfl, e⟩ | ⟨_, e⟩
 ·cases e; exact List.mem_cons_self
 ·rw [Tr.get, Tr.getF_lf] at e; cases e
theorem Zfn (ρ : Nat → Nat) (b : List Nat) : (row1 oA b).ren ρ = row1 oA b := by
 show AV.lst (renLL ρ (b.map fun x => [oA x])) = _
 rw [Z2g, List.map_map]
 rfl
theorem Z7t (ρ : Nat → Nat) (b : List Nat) (x : Int × Int × Int) : renH ρ [(0, .rows 68 5 [rdA b x])] = rdH (ρ 0) b x := by
 show [(ρ 0, AObj.rows 68 5 [[(row1 oA b).ren ρ, _, _, _, _]])] = _
 rw [Zfn]
 rfl
theorem DCalls.mono {P : Program} {f : Nat} {xs : List AV} {u u2 : FrameMode} {H : AHeap} {R R' : AHeap → Prop} (h : DCalls P f xs u H u2 R) (k : ∀ H', R H' → R' H') : DCalls P f xs u H u2 R' :=
 ⟨h.ok, fun Z C w vs hw hv => CallsDIn.mono (h.run Z C w vs hw hv) (by rintro e u' w' ⟨C', H', r, hu⟩; exact ⟨C', H', k H' r, hu⟩)⟩
theorem Zdj (g : Nat → Bool) (b : List Nat) : nmLL g (b.map fun x => [oA x]) = true := by
 induction b with
 | nil => rfl
 | cons x l ih => exact (Bool.and_eq_true _ _).mpr ⟨rfl, ih⟩
theorem Z84 (k : Nat) (b : List Nat) (p e f : Int) : DCalls Try.prog 50 [.ptr k 5 0 0] .returning (rdH k b (p, e, f)) .returning (fun H => H = rdH k b (p, e, f)) := by
 have hE := Z7l (Z5o (K := noK) (by decide +kernel) (Z0s (by decide +kernel)) Z8v 40) (by decide +kernel) (Z0s (by decide +kernel)) _ _ _ _ _ _ _ _ (Zjs b p e f)
 have h := Z1u (Hc := [(0, .rows 68 5 [rdA b (p, e, f)])]) (Hf := [(0, .rows 68 5 [rdA b (p, e, f)])]) hE (by decide) (fun i ob hi => Z9z hi) ?_ rfl (by simp) ?_ (by simp) (fun _ => k)
 ·rw [Z7t] at h
  refine h.mono ?_
  rintro Hq ⟨ρ', hρ, rfl⟩
  rw [Z7t, hρ 0 Nat.zero_lt_one]
 ·intro p hp
  rw [List.mem_singleton.1 hp]
  exact ⟨Nat.zero_lt_one, rfl, by simp only [nmOb, nmLL, nmL]; rw [show nmA (fun i => i.blt 1) (row1 oA b) = true from Zdj _ b]; rfl⟩
 ·intro q hq
  rw [List.mem_singleton.1 hq]
  exact ⟨Zil b p e f, rfl, fun _ => List.mem_cons_self⟩
theorem Zjq (b : List Nat) (p e0 f e a : Int) : cg b p e0 f e a = some (.returning, fH (cg b p e0 f e a), fK (cg b p e0 f e a)) := by kernel_rfl
theorem Zii (b : List Nat) (p e0 f e a : Int) : (fH (cg b p e0 f e a)).get 0 = some (.rows 68 5 [rdA b (a, e, a)]) := by kernel_rfl
theorem Z2v (k : Nat) (b : List Nat) (p e0 f e a : Int) : DCalls Try.prog 50 [.ptr k 5 0 0] (.panicking (pnA e a)) (rdH k b (p, e0, f)) .returning (fun H => H = rdH k b (a, e, a)) := by
 have hE := Z7l (Z5o (K := noK) (by decide +kernel) (Z0s (by decide +kernel)) Z8v 40) (by decide +kernel) (Z0s (by decide +kernel)) _ _ _ _ _ _ _ _ (Zjq b p e0 f e a)
 have h := Z1u (Hc := [(0, .rows 68 5 [rdA b (p, e0, f)])]) (Hf := [(0, .rows 68 5 [rdA b (a, e, a)])]) hE (by decide) (fun i ob hi => Z9z hi) ?_ rfl (by simp) ?_ (by simp) (fun _ => k)
 ·rw [Z7t] at h
  refine h.mono ?_
  rintro Hq ⟨ρ', hρ, rfl⟩
  rw [Z7t, hρ 0 Nat.zero_lt_one]
 ·intro p hp
  rw [List.mem_singleton.1 hp]
  exact ⟨Nat.zero_lt_one, rfl, by simp only [nmOb, nmLL, nmL]; rw [show nmA (fun i => i.blt 1) (row1 oA b) = true from Zdj _ b]; rfl⟩
 ·intro q hq
  rw [List.mem_singleton.1 hq]
  exact ⟨Zii b p e0 f e a, rfl, fun _ => List.mem_cons_self⟩
end Go.Sx
namespace Go.Sx
open Go
section
variable {P : Program} {ops : Array Oper} {o : Oper} {T : List (Nat × AV)}
theorem Zj9 {C : Ctx} {es : List (List AV)} {ad : Addr} {cap n l h m : Nat} (hv : VR C (.lst es) (.slice (some ad) es.length cap)) (hes : ∀ e : List AV, e ∈ es → e.length = n) (h1 : l ≤ h) (h2 : h ≤ es.length) (h3 : h ≤ m) (h4 : m ≤ cap) :
  VR C (.lst ((es.take h).drop l)) (.slice (some (if m = l then ad else ad.add (l * n))) (h - l) (m - l)) := by
 cases hv with
 | lst _ _ sz _ cells elem fz xs hs hb hz hc hvv ho' hcap =>
  have hl : ((es.take h).drop l).length = h - l := by rw [List.length_drop, List.length_take]; omega
  have hne : (es.take h).drop l ≠ [] → es ≠ [] := fun h e => h (by rw [e]; simp)
  have hne2 : (es.take h).drop l ≠ [] → ¬ m = l := fun h5 e => h5 (List.drop_of_length_le (by rw [List.length_take]; omega))
  have hget : ∀ (i : Nat) (e : List AV), ((es.take h).drop l)[i]? = some e → es[l + i]? = some e := fun i e h5 => by
   rw [List.getElem?_drop, List.getElem?_take] at h5
   split at h5
   ·exact h5
   ·cases h5
  have hmem : ∀ e, e ∈ (es.take h).drop l → e ∈ es := fun e he => List.mem_of_mem_take (List.mem_of_mem_drop he)
  have hsz : es ≠ [] → sz = n := fun h => by
   cases es with
   | nil => exact absurd rfl h
   | cons x r => rw [← hz x List.mem_cons_self, hes x List.mem_cons_self]
  have hfin := VR.lst (C := C) ((es.take h).drop l) (if m = l then ad else ad.add (l * n)) sz (m - l) cells elem fz (fun i j => xs (l + i) j)
   (fun h => by rw [if_neg (hne2 h)]; exact adS _ _ (hs (hne h))) (fun h => by rw [if_neg (hne2 h)]; rw [adB]; exact hb (hne h)) (fun e he => hz e (hmem e he))
   (fun i e j c g1 g2 => by
    have hm : (es.take h).drop l ≠ [] := fun e => by rw [e] at g1; simp at g1
    rw [if_neg (hne2 hm), ← hc (l + i) e j c (hget i e g1) g2]
    congr 1
    have := hsz (hne hm)
    subst this
    rw [adO, Nat.add_mul]; omega)
   (fun i e j c g1 g2 => hvv _ e j c (hget i e g1) g2) (fun i e j c g1 g2 => ho' _ e j c (hget i e g1) g2) (by omega)
  rw [hl] at hfin
  exact hfin
theorem Z75 {C : Ctx} {es : List (List AV)} {v : Value} (hv : VR C (.lst es) v) : (v = .slice none 0 0 ∧ es = []) ∨ ∃ ad cap, v = .slice (some ad) es.length cap ∧ es.length ≤ cap := by
 cases hv with
 | lstNil => exact .inl ⟨rfl, rfl⟩
 | lst _ a sz cap cells elem fz xs hs hb hz hc hvv ho' hcap => exact .inr ⟨a, cap, rfl, hcap⟩
theorem Zbr {t e n l h : Nat} {b : Bool} {p q r s : Operand} {es : List (List AV)} {kd kd' kd2 : IntKind} {k k' k2 : Int} [hu : UD P t (.slice e)] [k1 : TK P e b n] (ho : o.op = .slice t p (some q) (some r) (some s))
  (hp : ev T p = some (.lst es)) (hq : ev T q = some (.v (.int kd k))) (hr : ev T r = some (.v (.int kd' k'))) (hs : ev T s = some (.v (.int kd2 k2))) (hk : k = (l : Int)) (hk' : k' = (h : Int)) (hk2 : k2 = (h : Int)) (hes : ∀ e : List AV, e ∈ es → e.length = n) (h1 : l ≤ h) (h2 : h ≤ es.length) :
  Eff P o T [] (.lst ((es.take h).drop l)) [] :=
 Z04 (by intro c; rw [ho]; nofun) fun C H a w hw hn hv => by
  subst hk hk' hk2
  have g2 := hv p (by rw [ho]; simp [Op.operands]) _ hp
  have g3 := VR.val (hv q (by rw [ho]; simp [Op.operands]) _ hq)
  have g4 := VR.val (hv r (by rw [ho]; simp [Op.operands]) _ hr)
  have g5 := VR.val (hv s (by rw [ho]; simp [Op.operands]) _ hs)
  generalize hpv : a.eval p = u at g2
  have b2 : ∀ kd y code, h ≤ y → (Instr.sliceBound (.int kd (h : Int)) y code).run P w = .ok h w := fun kd y code hy => by rw [Z18 (k := kd) (i := (h : Int)) rfl (by omega) (by omega)]; simp
  have b1 : ∀ code, (Instr.sliceBound (.int kd (l : Int)) h code).run P w = .ok l w := fun code => by rw [Z18 (k := kd) (i := (l : Int)) rfl (by omega) (by omega)]; simp
  have b3 := fun kd code => b2 kd h code (Nat.le_refl h)
  rcases Z75 g2 with ⟨rfl, rfl⟩ | ⟨ad, cap, rfl, hcap⟩
  ·simp only [List.length_nil, Nat.le_zero_eq] at h2
   subst h2
   have h1 : l = 0 := by omega
   subst h1
   refine ⟨.slice none 0 0, ?_, by simpa using VR.lstNil⟩
   simp at b1 b3
   simp [execOp, ho, hpv, g3, g4, g5, Instr.sliceAt, Instr.slice, Instr.sliceBounds, run_underlying (d := .slice e), Z0g k1.tk, b1, b3, Sem.run_bind, Result.andThen, Sem.run_pure]
  ·refine ⟨_, ?_, Zj9 g2 hes h1 h2 (Nat.le_refl h) (Nat.le_trans h2 hcap)⟩
   have hc2 := fun kd code => b2 kd cap code (Nat.le_trans h2 hcap)
   by_cases hck : h = l
   ·subst hck
    simp [execOp, ho, hpv, g3, g4, g5, Instr.sliceAt, Instr.slice, Instr.sliceBounds, run_underlying (d := .slice e), Z0g k1.tk, b1, hc2, b3, Sem.run_bind, Result.andThen, Sem.run_pure]
   ·simp [hck, execOp, ho, hpv, g3, g4, g5, Instr.sliceAt, Instr.slice, Instr.sliceBounds, run_underlying (d := .slice e), Z0g k1.tk, b1, hc2, b3, Sem.run_bind, Result.andThen, Sem.run_pure]
def bstr (b : List Nat) : Str := ⟨(b.map UInt8.ofNat).toArray⟩
theorem Z6z : ∀ (ns : List Nat) (s : ByteArray), (ns.map fun n : Nat => (n : Int)).foldl (fun r n => r.push (UInt8.ofNat n.toNat)) s = ⟨s.data ++ (ns.map UInt8.ofNat).toArray⟩
 | [], s => by simp
 | n :: ns, s => by
  rw [List.map_cons, List.foldl_cons, Z6z ns]
  simp [ByteArray.push]
theorem Z8a {t t' e : TypeId} {p : Operand} {b : List Nat} [hu : UD P t (.slice e)] [he : UD P e (.int .u8)] [hd : UD P t' .string] (ho : o.op = .convert t t' p)
  (hp : ev T p = some (.lst (b.map fun x : Nat => [AV.v (.int .u8 (x : Int))]))) : Eff P o T [] (.v (.string (bstr b))) [] :=
 Z04 (by intro c; rw [ho]; nofun) fun C H a w hw hn hv => by
  have g2 := hv p (by rw [ho]; simp [Op.operands]) _ hp
  generalize hpv : a.eval p = u at g2
  refine ⟨_, ?_, .v _⟩
  have key : (Conv.bytesToString u).run P w = .ok (.string (bstr b)) w := by
   generalize hes : (b.map fun x : Nat => [AV.v (.int .u8 (x : Int))]) = es at g2
   have hel : es.length = b.length := by rw [← hes, List.length_map]
   cases g2 with
   | lstNil =>
    have : b = [] := by cases b with
     | nil => rfl
     | cons x r => simp at hes
    subst this
    simp [Conv.bytesToString]
    rfl
   | lst _ ad sz cap cells elem fz xs hs hb hz hc hvv ho' hcap =>
    have hg : ∀ j (x : Nat), b[j]? = some x → es[j]? = some [AV.v (.int .u8 (x : Int))] := fun j x hj => by rw [← hes, List.getElem?_map, hj]; rfl
    have h1 : (loadCells ad es.length).run P w = .ok ((b.map fun n : Nat => (n : Int)).map (Value.int .u8)).toArray w := by
     have h2 := run_loadCells_list (P := P) (w := w) ad ((b.map fun n : Nat => (n : Int)).map (Value.int .u8)) (fun j v hj => by
      rw [List.getElem?_map, List.getElem?_map] at hj
      cases hbj : b[j]? with
      | none => rw [hbj] at hj; cases hj
      | some x =>
       rw [hbj] at hj
       cases hj
       have h3 := hg j x hbj
       have hne : es ≠ [] := fun e => by rw [e] at h3; cases h3
       have hsz : sz = 1 := (hz _ (List.mem_of_getElem? h3)).symm
       subst hsz
       have h4 := hc j _ 0 _ h3 rfl
       have h5 := VR.val (hvv j _ 0 _ h3 rfl)
       have h6 : w.cell? (ad.add j) = cells[ad.off + j]? := by
        have h7 := hw.hp _ _ (hb hne)
        have h8 : ad.add j = ⟨ad.block, ad.off + j, none⟩ := by
         have h9 := hs hne
         clear h7 h5 h4 h3 hc hvv ho' hb hz hcap hg
         obtain ⟨bl, of, sp⟩ := ad
         simp only at h9
         subst h9
         unfold Addr.add
         split
         ·simp_all
         ·rfl
        rw [h8, Z7f h7]
       rw [h6]
       rw [show ad.off + j * 1 + 0 = ad.off + j by omega] at h4
       rw [h4, h5])
     rw [List.length_map, List.length_map, ← hel] at h2
     exact h2
    rw [run_bytesToString w ad es.length cap _ h1, Z6z, show (ByteArray.empty.data ++ (b.map UInt8.ofNat).toArray : Array UInt8) = (b.map UInt8.ofNat).toArray from Array.empty_append]
    rfl
  have h2 : (convert t t' u).run P w = (Conv.bytesToString u).run P w := by
   obtain ⟨a1, l1, c1, rfl⟩ : ∃ a1 l1 c1, u = .slice a1 l1 c1 := by
    rcases Z75 g2 with ⟨rfl, _⟩ | ⟨ad, cap, rfl, _⟩
    ·exact ⟨_, _, _, rfl⟩
    ·exact ⟨_, _, _, rfl⟩
   exact run_convert_bytes_string w t t' e a1 l1 c1 hu.ud he.ud hd.ud
  simp [execOp, ho, hpv, Sem.run_bind, h2, key, Result.andThen]
end
end Go.Sx
namespace Go.Sx
open Go Go.Proofs
section
variable {P : Program} {ro : Option Nat} {Q : Exit → St → Prop} {ops : Array Oper} {rest : List Oper} {o : Oper} {T : List (Nat × AV)} {H : AHeap} {D : List Nat} {n d ty : Nat} {po : String} {af : Array Edge}
theorem Z4r {t e n : Nat} {b : Bool} {p q : Operand} {es : List (List AV)} {kd : IntKind} {k : Int} [h : UD P t (.slice e)] [k1 : TK P e b n] (ho : o.op = .slice t p none (some q) none)
  (hp : ev T p = some (.lst es)) (hq : ev T q = some (.v (.int kd k))) (hk : k = (es.length : Int)) : Eff P o T [] (.lst es) [] := by
 subst hk
 have h := Z5l (P := P) ho hp hq (Int.natCast_nonneg _) (Int.le_refl _)
 rwa [Int.toNat_natCast, List.take_length] at h
theorem zCU {fo : Operand} {args : Array Operand} {ats : Array TypeId} {f : Nat} {caps xs : List AV} {x : AV} {K H' Fr : AHeap} (hc : ACalls P f (xs ++ caps) K (GivesH x H')) (h : AOps P ro ops rest Q ⟨(d, x) :: T, H' ++ Fr, D, n⟩) (hH : H = K ++ Fr := by rfl) (hfo : ev T fo = some (.fn (.func f) caps) := by rfl) (hxs : evs T args.toList = some xs := by rfl) (hd : Nat.blt d n = true := by rfl) : AOps P ro ops ({ dst := some d, op := .call { callee := .value fo, args := args, argTypes := ats }, type := ty, pos := po, after := af, guard := none } :: rest) Q ⟨T, H, D, n⟩ :=
 Z2b K Fr (w0 rfl) hd rfl hfo hxs (by rw [hH]) hc (fun y K' hy => by obtain ⟨e1, rfl⟩ := hy; cases e1; exact h) (fun ch K' hy => by obtain ⟨e1, _⟩ := hy; cases e1)
theorem zCX {fo : Operand} {args : Array Operand} {ats : Array TypeId} {f : Nat} {caps xs : List AV} {ch : List PanicEntry} {K H' Fr : AHeap} (hc : ACalls P f (xs ++ caps) K (PanR ch H')) (h : Q (.panic ch) ⟨T, H' ++ Fr, D, n⟩) (hH : H = K ++ Fr := by rfl) (hfo : ev T fo = some (.fn (.func f) caps) := by rfl) (hxs : evs T args.toList = some xs := by rfl) (hd : Nat.blt d n = true := by rfl) : AOps P ro ops ({ dst := some d, op := .call { callee := .value fo, args := args, argTypes := ats }, type := ty, pos := po, after := af, guard := none } :: rest) Q ⟨T, H, D, n⟩ :=
 Z2b K Fr (w0 rfl) hd rfl hfo hxs (by rw [hH]) hc (fun y K' hy => by obtain ⟨e1, rfl⟩ := hy; cases e1) (fun ch K' hy => by obtain ⟨e1, rfl⟩ := hy; cases e1; exact h)
end
theorem Z4f {v : Bool} (h : v = false) {e a : Int} : ACalls Try.prog 51 [.v (.bool v), .v (.int .i64 e), .v (.int .i64 a)] [] (PanR (pnA e a) []) := by
 subst h
 exact Zcq e a
theorem Z6r {v : Bool} (h : v = true) {e a : Int} : ACalls Try.prog 51 [.v (.bool v), .v (.int .i64 e), .v (.int .i64 a)] [] (Gives (.tup [])) := by
 subst h
 exact Z85 e a
theorem Zg1 (k : Nat) (b : List Nat) (hb : Oct b) (hs : small b.length) (p e f : Int) (h : (takeP b p).2.2 = 0) : ACalls Try.prog 82 [.ptr k 5 0 0] (rdH k b (p, e, f)) (GivesH (.v (.int .u64 (takeP b p).1)) (rdH k b ((takeP b p).2.1, e, f))) := by
 refine Zj (n := 37) Try.func82 rfl (by decide +kernel) rfl rfl ?_
 have hs2 := hs
 simp only [small] at hs2
 refine wk ?_
 refine zcE (Z4r rfl rfl rfl (by simp)) ?_
 refine wk ?_
 refine zcE (Zp [] rfl rfl rfl (Zah b hb hs p) List.nodup_nil) ?_
 refine wk ?_
 rw [h]
 refine zCG (Z85 _ _) ?_
 refine wk ?_
 exact Zr rfl (Zf rfl Ze) (.refl _) (gvH rfl)
theorem Zi7 (k : Nat) (b : List Nat) (hb : Oct b) (hs : small b.length) (p e f : Int) (h : ((takeP b p).2.2 == 0) = false) : ACalls Try.prog 82 [.ptr k 5 0 0] (rdH k b (p, e, f)) (PanR (pnA (takeP b p).2.2 p) (rdH k b (p, e, f))) := by
 refine Zj (n := 37) Try.func82 rfl (by decide +kernel) rfl rfl ?_
 have hs2 := hs
 simp only [small] at hs2
 refine wk ?_
 refine zcE (Z4r rfl rfl rfl (by simp)) ?_
 refine wk ?_
 refine zcE (Zp [] rfl rfl rfl (Zah b hb hs p) List.nodup_nil) ?_
 refine wk ?_
 refine zCX (K := []) (Z4f h) ?_
 exact ⟨rfl, rfl, rfl⟩
theorem Zi0 (x : Int) : 0 ≤ IntKind.u64.wrap x := by
 simp only [IntKind.wrap, IntKind.bits, IntKind.signed, Bool.false_and, Bool.false_eq_true, if_false]
 exact Int.emod_nonneg _ (by decide)
theorem Zj5 : ∀ (l : List Nat) (a i : Nat) (n : Int), 0 ≤ n → 0 ≤ (tk a l i n).1
 | [], _, _, _, _ => Int.le_refl _
 | x :: xs, a, i, n, h => by
  unfold tk
  have h1 : 0 ≤ ors n x i := by
   unfold ors
   exact Zi0 _
  split
  ·exact Int.le_refl _
  ·split
   ·exact h1
   ·exact Zj5 xs a (i + 1) _ h1
theorem Z5a (b : List Nat) (a : Int) : 0 ≤ (takeP b a).1 := by
 unfold takeP
 split
 ·exact Int.le_refl _
 ·exact Zj5 _ _ _ _ (Int.le_refl _)
def numP (b : List Nat) (m : Int) (x : Int × Int × Int) : Int × (Int × Int × Int) :=
 if x.2.1 = 0 then
  if (takeP b x.1).2.2 = 0 then
   if (takeP b x.1).1 ≤ m then ((takeP b x.1).1, ((takeP b x.1).2.1, x.2)) else (0, (x.1, 3, x.1))
  else (0, (x.1, (takeP b x.1).2.2, x.1))
 else (0, x)
end Go.Sx
namespace Go.Sx
open Go Go.Proofs
theorem Z99 {m : Int} (h : 0 ≤ m ∧ m ≤ 100000) : IntKind.u64.wrap m = m := by
 simp [IntKind.wrap, IntKind.bits, IntKind.signed]
 omega
theorem Zec {m : Int} (h : 0 ≤ m ∧ m ≤ 100000) : IntKind.i64.wrap m = m := by
 simp [IntKind.wrap, IntKind.bits, IntKind.signed]
 omega
theorem Zg5 (k : Nat) (b : List Nat) (hb : Oct b) (hs : small b.length) (p e f m : Int) (hm : 0 ≤ m ∧ m ≤ 100000) (h : (takeP b p).2.2 = 0) (h2 : (takeP b p).1 ≤ m) : ACalls Try.prog 59 [.ptr k 5 0 0, .v (.int .i64 m)] (rdH k b (p, e, f)) (GivesH (.v (.int .i64 (takeP b p).1)) (rdH k b ((takeP b p).2.1, e, f))) := by
 refine Zj (n := 25) Try.func59 rfl (by decide +kernel) rfl rfl ?_
 have h3 := Z5a b p
 refine wk ?_
 refine zCU (K := rdH k b (p, e, f)) (Zg1 k b hb hs p e f h) ?_
 refine wk ?_
 rw [show decide (m ≥ 0) = true from decide_eq_true hm.1]
 refine wk ?_
 refine Zku ?_ (hz := Z99 hm)
 refine wk ?_
 refine zCG (Z6r (decide_eq_true h2)) ?_
 refine wk ?_
 refine zCv ?_ (hz := Zec ⟨h3, by omega⟩)
 refine wk ?_
 exact Zr rfl (Zf rfl Ze) (.refl _) (gvH rfl)
theorem Zg4 (k : Nat) (b : List Nat) (hb : Oct b) (hs : small b.length) (p e f m : Int) (hm : 0 ≤ m ∧ m ≤ 100000) (h : (takeP b p).2.2 = 0) (h2 : ¬ (takeP b p).1 ≤ m) : ACalls Try.prog 59 [.ptr k 5 0 0, .v (.int .i64 m)] (rdH k b (p, e, f)) (PanR (pnA 3 p) (rdH k b ((takeP b p).2.1, e, f))) := by
 refine Zj (n := 25) Try.func59 rfl (by decide +kernel) rfl rfl ?_
 have h3 := Z5a b p
 refine wk ?_
 refine zCU (K := rdH k b (p, e, f)) (Zg1 k b hb hs p e f h) ?_
 refine wk ?_
 rw [show decide (m ≥ 0) = true from decide_eq_true hm.1]
 refine wk ?_
 refine Zku ?_ (hz := Z99 hm)
 refine wk ?_
 refine zCX (K := []) (Z4f (decide_eq_false h2)) ?_
 exact ⟨rfl, rfl, by simp⟩
theorem Zg3 (k : Nat) (b : List Nat) (hb : Oct b) (hs : small b.length) (p e f m : Int) (h : ((takeP b p).2.2 == 0) = false) : ACalls Try.prog 59 [.ptr k 5 0 0, .v (.int .i64 m)] (rdH k b (p, e, f)) (PanR (pnA (takeP b p).2.2 p) (rdH k b (p, e, f))) := by
 refine Zj (n := 25) Try.func59 rfl (by decide +kernel) rfl rfl ?_
 refine wk ?_
 refine zCX (K := rdH k b (p, e, f)) (Zi7 k b hb hs p e f h) ?_
 exact ⟨rfl, rfl, by simp⟩
abbrev cutB (b : List Nat) (l h : Nat) : List Nat := (b.take h).drop l
theorem Zho (b : List Nat) (l h : Nat) : ((b.map fun x => [oA x]).take h).drop l = (cutB b l h).map fun x => [oA x] := by rw [← List.map_take, ← List.map_drop]
theorem Zh4 (k : Nat) (b : List Nat) (hs : small b.length) (p n : Nat) (e f : Int) (h : p + n ≤ b.length) : ACalls Try.prog 60 [.ptr k 5 0 0, iA n] (rdH k b (p, e, f)) (GivesH (row1 oA (cutB b p (p + n))) (rdH k b ((p : Int) + n, e, f))) := by
 refine Zj (n := 48) Try.func60 rfl (by decide +kernel) rfl rfl ?_
 simp only [small] at hs
 refine wk ?_
 refine zcE (Zp [] rfl rfl rfl (Z6r (decide_eq_true (by omega))) List.nodup_nil) ?_
 refine wk ?_
 refine zcE (Zcy (y := row1 oA (cutB b p (p + n))) (Zbr (l := p) (h := p + n) rfl rfl rfl rfl rfl (by simp only; omega) (by simp only; omega) (by simp only; omega) (Z17 (fun _ => rfl)) (by omega) (by rw [List.length_map]; omega)) (fun C v hv => by rw [Zho] at hv; exact hv)) ?_
 refine wk ?_
 exact Zr rfl (Zf rfl Ze) (.refl _) (gvH rfl)
theorem Zjc {P : Program} {ro : Option Nat} {Q : Exit → St → Prop} {T : List (Nat × AV)} {H : AHeap} {D : List Nat} {n : Nat} {id : Nat} {l : List Oper} (np : Nat) (h : Calm P l.toArray H (AOps P ro l.toArray (l.drop np) Q) 0 (l.take np) [] ⟨T, H, D, n⟩) (hm : P.follows .mixedOrders = true := by rfl) (ht : tidyM l.toArray (masksOf l) (l.take np).length = true := by kernel_rfl) : AWp P ro (.region id l.toArray true) Q ⟨T, H, D, n⟩ := Z0i (masksOf l) np hm ht h
theorem Zh3 (k : Nat) (b : List Nat) (hs : small b.length) (p n : Nat) (e f : Int) (hp : p ≤ b.length) (h : ¬ p + n ≤ b.length) : ACalls Try.prog 60 [.ptr k 5 0 0, iA n] (rdH k b (p, e, f)) (PanR (pnA 2 p) (rdH k b (p, e, f))) := by
 refine Zj (n := 48) Try.func60 rfl (by decide +kernel) rfl rfl ?_
 simp only [small] at hs
 refine qS ?_
 refine qR ?_
 refine zA ?_
 refine zN ?_
 refine tqN ?_
 refine qS ?_
 refine Zjc 15 ?_
 refine wk ?_
 refine zCX (K := []) (Z4f (v := decide ((b.length : Int) - p ≥ n)) (decide_eq_false (by omega))) ?_
 exact ⟨rfl, rfl, rfl⟩
end Go.Sx
namespace Go.Sx
open Go Go.Proofs
section
variable {P : Program} {ro : Option Nat} {Q : Exit → St → Prop} {ops : Array Oper} {rest : List Oper} {o : Oper} {T : List (Nat × AV)} {H : AHeap} {D : List Nat} {n d ty : Nat} {po : String} {af : Array Edge}
theorem Z7w {fo : Operand} {args : Array Operand} {ats : Array TypeId} {f : Nat} {caps xs : List AV} {x : AV} {K H' Fr : AHeap} (hc : ACalls P f (xs ++ caps) K (GivesH x H')) (hH : H.Perm (K ++ Fr)) (h : AOps P ro ops rest Q ⟨(d, x) :: T, H' ++ Fr, D, n⟩) (hfo : ev T fo = some (.fn (.func f) caps) := by rfl) (hxs : evs T args.toList = some xs := by rfl) (hd : Nat.blt d n = true := by rfl) : AOps P ro ops ({ dst := some d, op := .call { callee := .value fo, args := args, argTypes := ats }, type := ty, pos := po, after := af, guard := none } :: rest) Q ⟨T, H, D, n⟩ :=
 Z2b K Fr (w0 rfl) hd rfl hfo hxs hH hc (fun y K' hy => by obtain ⟨e1, rfl⟩ := hy; cases e1; exact h) (fun ch K' hy => by obtain ⟨e1, _⟩ := hy; cases e1)
theorem Zjb {fo : Operand} {args : Array Operand} {ats : Array TypeId} {f : Nat} {caps xs : List AV} {ch : List PanicEntry} {K H' Fr : AHeap} (hc : ACalls P f (xs ++ caps) K (PanR ch H')) (hH : H.Perm (K ++ Fr)) (h : Q (.panic ch) ⟨T, H' ++ Fr, D, n⟩) (hfo : ev T fo = some (.fn (.func f) caps) := by rfl) (hxs : evs T args.toList = some xs := by rfl) (hd : Nat.blt d n = true := by rfl) : AOps P ro ops ({ dst := some d, op := .call { callee := .value fo, args := args, argTypes := ats }, type := ty, pos := po, after := af, guard := none } :: rest) Q ⟨T, H, D, n⟩ :=
 Z2b K Fr (w0 rfl) hd rfl hfo hxs hH hc (fun y K' hy => by obtain ⟨e1, rfl⟩ := hy; cases e1) (fun ch K' hy => by obtain ⟨e1, rfl⟩ := hy; cases e1; exact h)
theorem zDf {fo : Operand} {args : Array Operand} {ats : Array TypeId} {f : Nat} {caps xs : List AV} (h : ∀ id, AOps P none ops rest Q ⟨T, (id, .dfr (.func f) caps xs) :: H, id :: D, n⟩) (hfo : ev T fo = some (.fn (.func f) caps) := by rfl) (hxs : evs T args.toList = some xs := by rfl) : AOps P none ops ({ dst := none, op := .defer { callee := .value fo, args := args, argTypes := ats }, type := ty, pos := po, after := af, guard := none } :: rest) Q ⟨T, H, D, n⟩ :=
 Zbi (w0 rfl) rfl rfl hfo hxs h
theorem Ziy {fn : Func} {s : St} {x : AV} {H' : AHeap} {xs : List AV} (hD : s.D = []) (hres : Res P s.T s.H fn.results.toList xs) (hx : mkRes xs = x) (hs : H'.Sublist s.H) : RetD P fn (GivesH x H') .ret s :=
 ⟨.returning, rfl, .inl ⟨hD, xs, hres, H', hs, congrArg _ hx, rfl⟩⟩
theorem Ziz {fn : Func} {s : St} {x : AV} {H' H1 : AHeap} {xs ys : List AV} {i g : Nat} (hc : DCalls P g ys .returning H1 .returning (fun K => K = H')) (hD : s.D = [i]) (hp : s.H.Perm ((i, .dfr (.func g) [] ys) :: H1)) (hres : Res P s.T H' fn.results.toList xs) (hx : mkRes xs = x) : RetD P fn (GivesH x H') .ret s :=
 ⟨.returning, rfl, .inr ⟨i, g, [], ys, H1, _, _, hD, hp, by rw [List.append_nil]; exact hc, fun H2 h2 => by subst h2; exact ⟨xs, hres, H2, .refl _, congrArg _ hx, rfl⟩⟩⟩
theorem Zdt {fn : Func} {s : St} {x : AV} {H' H1 : AHeap} {xs ys : List AV} {i g : Nat} {ch : List PanicEntry} (hc : DCalls P g ys (.panicking ch) H1 .returning (fun K => K = H')) (hD : s.D = [i]) (hp : s.H.Perm ((i, .dfr (.func g) [] ys) :: H1)) (hres : Res P s.T H' fn.results.toList xs) (hx : mkRes xs = x) : RetD P fn (GivesH x H') (.panic ch) s :=
 ⟨.panicking ch, rfl, .inr ⟨i, g, [], ys, H1, _, _, hD, hp, by rw [List.append_nil]; exact hc, fun H2 h2 => by subst h2; exact ⟨xs, hres, H2, .refl _, congrArg _ hx, rfl⟩⟩⟩
end
theorem Z4o {α : Type} (a b : α) : [a, b].Perm ([b] ++ [a]) := List.Perm.swap b a []
theorem Zjn (k : Nat) (b : List Nat) (hb : Oct b) (hs : small b.length) (p e f m : Int) (hm : 0 ≤ m ∧ m ≤ 100000) : ACalls Try.prog 34 [.ptr k 5 0 0, .v (.int .i64 m)] (rdH k b (p, e, f)) (GivesH (.v (.int .i64 (numP b m (p, e, f)).1)) (rdH k b (numP b m (p, e, f)).2)) := by
 refine Z4a (n := 12) Try.func34 rfl (by decide +kernel) rfl rfl ?_
 refine wk ?_
 refine zCH 0 (Z9f k b p e f) ?_
 refine wk ?_
 by_cases he : e = 0
 rotate_left
 ·rw [show (e == 0) = false from beq_eq_false_iff_ne.2 he, show numP b m (p, e, f) = (0, (p, e, f)) from if_neg he]
  refine wk ?_
  exact Ziy rfl (Zf rfl Ze) rfl (.refl _)
 subst he
 refine wk ?_
 refine zDf (fun id => ?_) 
 refine wk ?_
 by_cases h : (takeP b p).2.2 = 0
 ·by_cases h2 : (takeP b p).1 ≤ m
  ·rw [show numP b m (p, 0, f) = ((takeP b p).1, ((takeP b p).2.1, 0, f)) by simp [numP, h, h2]]
   refine Z7w (Zg5 k b hb hs p 0 f m hm h h2) (Z4o _ _) ?_
   refine wk ?_
   exact Ziz (Z84 k b _ 0 f) rfl (Z4o _ _) (Zf rfl Ze) rfl
  ·rw [show numP b m (p, 0, f) = (0, (p, 3, p)) by simp [numP, h, h2]]
   refine Zjb (Zg4 k b hb hs p 0 f m hm h h2) (Z4o _ _) ?_
   exact Zdt (Z2v k b _ 0 f 3 p) rfl (Z4o _ _) (Zf rfl Ze) rfl
 ·rw [show numP b m (p, 0, f) = (0, (p, (takeP b p).2.2, p)) by simp [numP, h]]
  refine Zjb (Zg3 k b hb hs p 0 f m (beq_eq_false_iff_ne.2 h)) (Z4o _ _) ?_
  exact Zdt (Z2v k b _ 0 f _ p) rfl (Z4o _ _) (Zf rfl Ze) rfl
end Go.Sx
namespace Go.Sx
open Go Go.Proofs
theorem Zj6 : ∀ (l : List Nat) (a i : Nat) (n : Int), (tk a l i n).2.2 = 0 → ∃ q : Nat, (tk a l i n).2.1 = q ∧ a + i < q ∧ q ≤ a + i + l.length
 | [], _, _, _, h => by cases h
 | x :: xs, a, i, n, h => by
  unfold tk at h ⊢
  split at h
  ·cases h
  ·rename_i h1
   rw [if_neg h1]
   split at h
   ·rename_i h2
    rw [if_pos h2]
    exact ⟨a + i + 1, by simp, by omega, by simp only [List.length_cons]; omega⟩
   ·rename_i h2
    rw [if_neg h2]
    obtain ⟨q, e1, e2, e3⟩ := Zj6 xs a (i + 1) _ h
    exact ⟨q, e1, by omega, by simp only [List.length_cons]; omega⟩
theorem Zfq {b : List Nat} {p : Int} (h : (takeP b p).2.2 = 0) : ∃ q : Nat, (takeP b p).2.1 = q ∧ p < q ∧ q ≤ b.length := by
 unfold takeP at h ⊢
 split at h
 ·cases h
 ·rename_i h1
  rw [if_neg h1]
  obtain ⟨q, e1, e2, e3⟩ := Zj6 _ _ _ _ h
  refine ⟨q, e1, by omega, ?_⟩
  rw [List.length_drop] at e3
  omega
def textP (b : List Nat) (x : Int × Int × Int) : Str × (Int × Int × Int) :=
 if (numP b 64 x).2.2.1 = 0 then
  if (numP b 64 x).2.1.toNat + (numP b 64 x).1.toNat ≤ b.length then (bstr (cutB b (numP b 64 x).2.1.toNat ((numP b 64 x).2.1.toNat + (numP b 64 x).1.toNat)), ((numP b 64 x).2.1 + (numP b 64 x).1, (numP b 64 x).2.2))
  else (zS, ((numP b 64 x).2.1, 2, (numP b 64 x).2.1))
 else (zS, (numP b 64 x).2)
theorem Zih (k : Nat) (b : List Nat) (hb : Oct b) (hs : small b.length) (p e f : Int) : ACalls Try.prog 35 [.ptr k 5 0 0] (rdH k b (p, e, f)) (GivesH (sA (textP b (p, e, f)).1) (rdH k b (textP b (p, e, f)).2)) := by
 refine Z4a (n := 12) Try.func35 rfl (by decide +kernel) rfl rfl ?_
 refine wk ?_
 refine zCH 0 (Z9f k b p e f) ?_
 refine wk ?_
 by_cases he : e = 0
 rotate_left
 ·have h0 : numP b 64 (p, e, f) = (0, (p, e, f)) := if_neg he
  rw [show (e == 0) = false from beq_eq_false_iff_ne.2 he, show textP b (p, e, f) = (zS, (p, e, f)) by simp [textP, h0, he]]
  refine wk ?_
  exact Ziy rfl (Zf rfl Ze) rfl (.refl _)
 subst he
 refine wk ?_
 refine zDf (fun id => ?_) 
 refine wk ?_
 have hm : (0 : Int) ≤ 64 ∧ (64 : Int) ≤ 100000 := by omega
 by_cases h : (takeP b p).2.2 = 0
 ·by_cases h2 : (takeP b p).1 ≤ 64
  ·have h0 : numP b 64 (p, 0, f) = ((takeP b p).1, ((takeP b p).2.1, 0, f)) := by simp [numP, h, h2]
   refine Z7w (Zg5 k b hb hs p 0 f 64 hm h h2) (Z4o _ _) ?_
   obtain ⟨q, e1, e2, e3⟩ := Zfq h
   obtain ⟨n, e4⟩ : ∃ n : Nat, (takeP b p).1 = n := ⟨(takeP b p).1.toNat, (Int.toNat_of_nonneg (Z5a b p)).symm⟩
   unfold textP
   rw [h0]
   simp only [e1, e4, if_true, Int.toNat_natCast]
   by_cases h5 : q + n ≤ b.length
   ·rw [if_pos h5]
    refine Z7w (Zh4 k b hs q n 0 f h5) (.refl _) ?_
    refine zE (Z8a rfl rfl) ?_
    refine wk ?_
    exact Ziz (Z84 k b _ 0 f) rfl (Z4o _ _) (Zf rfl Ze) rfl
   ·rw [if_neg h5]
    refine Zjb (Zh3 k b hs q n 0 f e3 h5) (.refl _) ?_
    exact Zdt (Z2v k b _ 0 f 2 q) rfl (Z4o _ _) (Zf rfl Ze) rfl
  ·rw [show textP b (p, 0, f) = (zS, (p, 3, p)) by simp [textP, numP, h, h2]]
   refine Zjb (Zg4 k b hb hs p 0 f 64 hm h h2) (Z4o _ _) ?_
   exact Zdt (Z2v k b _ 0 f 3 p) rfl (Z4o _ _) (Zf rfl Ze) rfl
 ·rw [show textP b (p, 0, f) = (zS, (p, (takeP b p).2.2, p)) by simp [textP, numP, h]]
  refine Zjb (Zg3 k b hb hs p 0 f 64 (beq_eq_false_iff_ne.2 h)) (Z4o _ _) ?_
  exact Zdt (Z2v k b _ 0 f _ p) rfl (Z4o _ _) (Zf rfl Ze) rfl
def endP (b : List Nat) (x : Int × Int × Int) : Bool × (Int × Int × Int) :=
 if x.2.1 = 0 then if x.1 = b.length then (true, x) else (false, (x.1, 1, x.1)) else (false, x)
end Go.Sx
namespace Go.Sx
open Go Go.Proofs
section
variable {P : Program} {ro : Option Nat} {Q : Exit → St → Prop} {ops : Array Oper} {rest : List Oper} {T : List (Nat × AV)} {H : AHeap} {D : List Nat} {n d ty : Nat} {po : String} {af : Array Edge}
theorem zCW {fo : Operand} {args : Array Operand} {ats : Array TypeId} {f : Nat} {caps xs : List AV} {x : AV} {H' : AHeap} (hc : ACalls P f (xs ++ caps) H (GivesH x H')) (h : AOps P ro ops rest Q ⟨(d, x) :: T, H', D, n⟩) (hfo : ev T fo = some (.fn (.func f) caps) := by rfl) (hxs : evs T args.toList = some xs := by rfl) (hd : Nat.blt d n = true := by rfl) : AOps P ro ops ({ dst := some d, op := .call { callee := .value fo, args := args, argTypes := ats }, type := ty, pos := po, after := af, guard := none } :: rest) Q ⟨T, H, D, n⟩ :=
 Z7w (Fr := []) hc (by rw [List.append_nil]) (by rw [List.append_nil]; exact h) hfo hxs hd
end
end Go.Sx
namespace Go.Sx
open Go Go.Proofs
end Go.Sx
namespace Go.Sx
open Go Go.Proofs
def risS (out : List Str) (s : Str) : Bool := out.isEmpty || ltS (out.getD (out.length - 1) default) s
def takesP (b : List Nat) : Nat → Int × Int × Int → List Str → List Str × (Int × Int × Int)
 | 0, x, out => if x.2.1 = 0 then (out, x) else ([], x)
 | n + 1, x, out =>
  if (textP b x).2.2.1 = 0 then
   if risS out (textP b x).1 then takesP b n (textP b x).2 (out ++ [(textP b x).1]) else ([], ((textP b x).2.1, 5, (textP b x).2.1))
  else ([], (textP b x).2)
def takeAll (b : List Nat) (x : Int × Int × Int) : List Str × (Int × Int × Int) := takesP b (numP b 1024 x).1.toNat (numP b 1024 x).2 []
def resT (r : List Str × (Int × Int × Int)) : AV := if r.2.2.1 = 0 then row1 sA r.1 else .v (.slice none 0 0)
theorem Zfi (b : List Nat) (x : Int × Int × Int) : ∃ N : Nat, (numP b 1024 x).1 = N ∧ N ≤ 1024 := by
 have h := Z5a b x.1
 unfold numP
 split
 ·split
  ·split
   ·exact ⟨(takeP b x.1).1.toNat, by simp only; omega, by omega⟩
   ·exact ⟨0, rfl, by omega⟩
  ·exact ⟨0, rfl, by omega⟩
 ·exact ⟨0, rfl, by omega⟩
theorem Z6f (b : List Nat) (n : Nat) (x : Int × Int × Int) (out : List Str) : takesP b (n + 1) x out = if (textP b x).2.2.1 = 0 then if risS out (textP b x).1 then takesP b n (textP b x).2 (out ++ [(textP b x).1]) else ([], ((textP b x).2.1, 5, (textP b x).2.1)) else ([], (textP b x).2) := rfl
theorem Zh5 (k : Nat) (b : List Nat) (hb : Oct b) (hs : small b.length) (x0 : Int × Int × Int) : ACalls Try.prog 11 [.ptr k 5 0 0] (rdH k b x0) (GivesH (resT (takeAll b x0)) (rdH k b (takeAll b x0).2)) := by
 refine Zj (n := 39) Try.func11 rfl (by decide +kernel) rfl rfl ?_
 refine qS ?_
 refine qR ?_
 refine zA ?_
 refine zN ?_
 refine tqN ?_
 refine qS ?_
 refine qR ?_
 refine Z15 (w0 rfl) rfl (fun id => Z9l id 9 1 (.inl rfl) rfl) (fun id => ?_)
 refine zN ?_
 refine tqN ?_
 refine qS ?_
 refine qS ?_
 refine qR ?_
 refine zM ?_
 obtain ⟨p0, e0, f0⟩ := x0
 refine Z7w (Zjn k b hb hs p0 e0 f0 1024 (by omega)) (List.Perm.swap _ _ []) ?_
 unfold takeAll
 obtain ⟨N, hN, hN2⟩ := Zfi b (p0, e0, f0)
 rw [hN, Int.toNat_natCast]
 generalize (numP b 1024 (p0, e0, f0)).2 = x1
 refine wk ?_
 refine Z06 (α := Nat × Nat × (Int × Int × Int) × List Str) (fun y => ⟨[(8, iA y.2.1), (7, iA N), (0, .ptr k 5 0 0), (3, .own y.1 1 0 y.2.2.2.length)], [(k, .rows 68 5 [rdA b y.2.2.1]), (y.1, .rows 9 1 (y.2.2.2.map fun s => [sA s]))], [], 39⟩) (fun y => y.2.1 ≤ N ∧ y.2.2.2.length = y.2.1 ∧ takesP b (N - y.2.1) y.2.2.1 y.2.2.2 = takesP b N x1 []) (fun y => N - y.2.1) (id, 0, x1, []) ⟨Nat.zero_le _, rfl, rfl⟩ (Zc [0, 1] ⟨rfl, rfl, rfl, rfl, trivial⟩ rfl (by decide) rfl rfl) ?_
 rintro ⟨id, i, ⟨p, e, f⟩, out⟩ ⟨hi, hlen, hJ⟩
 simp only at hi hlen hJ
 rw [← hJ]
 refine wk ?_
 refine Za rfl (fun hc => ?_) (fun hc => ?_)
 rotate_left
 ·have hx : ¬ i < N := by simpa using hc
  clear hc
  have e1 : takesP b (N - i) (p, e, f) out = if e = 0 then (out, (p, e, f)) else ([], (p, e, f)) := by rw [show N - i = 0 by omega]; rfl
  rw [e1]
  refine wk ?_
  refine zCH 0 (Zg2 k b p e f) ?_
  refine zNt ?_
  refine zN ?_
  refine tqN ?_
  by_cases he : e = 0
  ·subst he
   rw [if_pos rfl]
   refine Z1e (Z2s 1 3 (T' := [(37, bA false), (0, .ptr k 5 0 0)]) rfl rfl (by simp only [List.length_map]) ⟨rfl, rfl, trivial⟩) ?_
   refine wk ?_
   exact Zr rfl (Zf rfl Ze) (.refl _) (gvH rfl)
  ·rw [if_neg he, show (e == 0) = false from beq_eq_false_iff_ne.2 he]
   refine wk ?_
   exact Zr rfl (Zf rfl Ze) (.cons_cons _ (List.nil_sublist _)) (gvH (by unfold resT; rw [if_neg he]; rfl))
 have hx : i < N := by simpa using hc
 clear hc
 rw [show N - i = (N - (i + 1)) + 1 by omega] at hJ ⊢
 rw [Z6f] at hJ ⊢
 refine wk ?_
 refine Z7w (Zih k b hb hs p e f) (.refl _) ?_
 generalize textP b (p, e, f) = r at hJ ⊢
 obtain ⟨s, p1, e1, f1⟩ := r
 simp only at hJ ⊢
 refine wk ?_
 refine zCH 0 (Zg2 k b p1 e1 f1) ?_
 refine zNt ?_
 refine zN ?_
 refine tqN ?_
 by_cases he : e1 = 0
 rotate_left
 ·rw [if_neg he, show (e1 == 0) = false from beq_eq_false_iff_ne.2 he]
  refine wk ?_
  exact Zr rfl (Zf rfl Ze) (.cons_cons _ (List.nil_sublist _)) (gvH (by unfold resT; rw [if_neg he]; rfl))
 subst he
 rw [if_pos rfl] at hJ ⊢
 refine wk ?_
 have h1024 : out.length ≤ 1024 := by omega
 by_cases h0 : out = []
 ·subst h0
  rw [show decide (((([] : List Str).length : Nat) : Int) > 0) = false from rfl]
  rw [show risS [] s = true from rfl, if_pos rfl] at hJ ⊢
  refine wk ?_
  refine Z15 (w0 rfl) rfl (fun id => Z0o id (ps := [(0, .tmp 31)]) rfl rfl rfl rfl rfl rfl rfl rfl) (fun id3 => ?_)
  refine Z14 2 (w0 rfl) rfl rfl rfl rfl (by simp) rfl ⟨rfl, _, _, List.mem_of_getElem? (i := 0) rfl, by simp, rfl⟩ (by simp) (by simp [maxLen]) (fun id4 => ?_)
  refine wk ?_
  exact ⟨(id4, i + 1, (p1, 0, f1), [] ++ [s]), ⟨hx, by simp at hlen ⊢; omega, rfl⟩, (by simp only; omega), Zc [1, 2] ⟨rfl, rfl, rfl, rfl, trivial⟩ rfl (by decide) rfl rfl⟩
 have hpos : 0 < out.length := List.length_pos_iff.2 h0
 rw [show decide ((out.length : Int) > 0) = true from decide_eq_true (by omega)]
 refine wk ?_
 refine Z1 (wT rfl rfl rfl rfl) rfl (Z6 (out.length - 1) rfl rfl rfl (by omega) (by omega) (by omega)) ?_
 refine Z00 1 (wT rfl rfl rfl rfl) rfl rfl rfl rfl (Z02 (by omega)) Zo ?_
 refine wk ?_
 have hr : risS out s = Op.bytesLess (out.getD (out.length - 1) default).toList (ByteArray.toList s) := by
  unfold risS
  rw [show out.isEmpty = false by cases out with | nil => exact absurd rfl h0 | cons a l => rfl]
  rfl
 rw [← hr]
 by_cases h2 : risS out s = true
 ·rw [h2] at hJ ⊢
  rw [if_pos rfl] at hJ ⊢
  refine wk ?_
  refine Z15 (w0 rfl) rfl (fun id => Z0o id (ps := [(0, .tmp 31)]) rfl rfl rfl rfl rfl rfl rfl rfl) (fun id3 => ?_)
  refine Z14 2 (w0 rfl) rfl rfl rfl rfl (by simp) rfl ⟨rfl, _, _, List.mem_of_getElem? (i := 0) rfl, by simp, rfl⟩ (by simp; omega) (by simp [maxLen]; omega) (fun id4 => ?_)
  refine wk ?_
  exact ⟨(id4, i + 1, (p1, 0, f1), out ++ [s]), ⟨hx, by simp; omega, rfl⟩, (by simp only; omega), Zc [1, 2] ⟨rfl, rfl, rfl, (by show some (AV.own _ _ _ _) = some (AV.own _ _ _ _); simp), trivial⟩ (by show some [(_, AObj.rows _ _ _), (_, AObj.rows _ _ _)] = some [(_, AObj.rows _ _ _), (_, AObj.rows _ _ _)]; simp [cellsA]) (by decide) rfl rfl⟩
 ·have h2 : risS out s = false := by simpa using h2
  rw [h2] at hJ ⊢
  rw [if_neg (by decide)] at hJ ⊢
  refine wk ?_
  refine zCP [(k, .rows 68 5 [rdA b (p1, 0, f1)])] [(id, .rows 9 1 (out.map fun s => [sA s]))] (.refl _) (Zek k b p1 0 f1 5 rfl) (fun _ _ => ?_)
  rw [if_pos rfl]
  refine wk ?_
  exact Zr rfl (Zf rfl Ze) (.cons_cons _ (List.nil_sublist _)) (gvH rfl)
end Go.Sx
namespace Go.Sx
open Go Go.Proofs
section
variable {P : Program} {ro : Option Nat} {Q : Exit → St → Prop} {ops : Array Oper} {rest : List Oper} {T : List (Nat × AV)} {H : AHeap} {D : List Nat} {n d ty : Nat} {po : String} {af : Array Edge} {op : Op} {x : AV}
theorem zTE {g gt : Nat} {og : Oper} (he : Eff P { dst := some d, op := op, type := ty, pos := po, after := af, guard := some (g, true) } T [] x []) (h : AOps P ro ops rest Q ⟨(d, x) :: T, H, D, n⟩) (g1 : ops[g]? = some og := by rfl) (g2 : og.dst = some gt := by rfl) (g3 : lk T gt = some (.v (.bool true)) := by rfl) (hd : Nat.blt d n = true := by rfl) : AOps P ro ops ({ dst := some d, op := op, type := ty, pos := po, after := af, guard := some (g, true) } :: rest) Q ⟨T, H, D, n⟩ := Z1 (wT rfl g1 g2 g3) hd he h
end
end Go.Sx
namespace Go.Sx
open Go Go.Proofs
def lebL (n : Nat) : List Nat := if n < 128 then [n] else [n % 128 + 128, n / 128]
theorem Zjv {x : Nat} (h : x ≤ 255) : bitsI .or .u8 (x : Int) 128 = ((x % 128 + 128 : Nat) : Int) := by
 have h2 : ∀ y : Fin 256, bitsI .or .u8 ((y.val : Nat) : Int) 128 = ((y.val % 128 + 128 : Nat) : Int) := by decide +kernel
 exact h2 ⟨x, by omega⟩
theorem Zi1 (n : Nat) : IntKind.u8.wrap (n : Int) = ((n % 256 : Nat) : Int) := by
 simp [IntKind.wrap, IntKind.bits, IntKind.signed]
theorem Z9j {P : Program} {o : Oper} {T : List (Nat × AV)} {s t : TypeId} {p : Operand} {k : IntKind} {n : Nat} {d : TypeDesc} [h : UD P s d] [h' : UD P t (.int .u8)] (ho : o.op = .convert s t p) (hp : ev T p = some (.v (.int k (n : Int)))) : Eff P o T [] (oA (n % 256)) [] := by
 have h1 := Z03 (P := P) (k' := .u8) ho hp
 rw [Zi1] at h1
 exact h1
theorem Z9m {P : Program} {o : Oper} {T : List (Nat × AV)} {t t' : TypeId} {p q : Operand} {x : Nat} (ho : o.op = .binOp .or t p q t') (hx : x ≤ 255) (hp : ev T p = some (oA x)) (hq : ev T q = some (.v (.int .u8 128))) : Eff P o T [] (oA (x % 128 + 128)) [] := by
 have h := Z1p (P := P) ho (.inr (.inl rfl)) hp hq
 rw [Zjv hx] at h
 exact h
theorem Z7j {P : Program} {o : Oper} {T : List (Nat × AV)} {t t' : TypeId} {p q : Operand} {n : Nat} {k' : IntKind} (ho : o.op = .binOp .shr t p q t') (hp : ev T p = some (.v (.int .u64 (n : Int)))) (hq : ev T q = some (.v (.int k' 7))) : Eff P o T [] (.v (.int .u64 ((n / 128 : Nat) : Int))) [] := by
 have h1 := Z2a (P := P) ho hp hq (by omega)
 have e : (n : Int).fdiv (2 ^ (min (7 : Int).toNat IntKind.u64.bits)) = ((n / 128 : Nat) : Int) := by
  show (n : Int).fdiv 128 = _
  rw [Int.fdiv_eq_ediv_of_nonneg _ (by omega)]
  rfl
 rw [e] at h1
 exact h1
theorem Zen (n : Nat) (hn : n < 128) : ACalls Try.prog 32 [.v (.int .u64 n)] [] (GP (fun id : Nat => .own id 1 0 (lebL n).length) (fun id => [(id, .rows 5 1 ((lebL n).map fun x => [oA x]))]) (fun _ => True)) := by
 refine Zj (n := 34) Try.func32 rfl (by decide +kernel) rfl rfl ?_
 refine wk ?_
 refine Zja (fun id => ?_)
 refine wk ?_
 refine Z6q 3 ?_
 refine zRd ?_
 refine wk ?_
 refine zE (Z9j rfl rfl) ?_
 refine zE (Z9m rfl (by omega) rfl rfl) ?_
 refine wk ?_
 refine zE (Z0l rfl rfl rfl (by decide) (by decide) rfl) ?_
 refine wk ?_
 refine zE (Z7j rfl rfl rfl) ?_
 rw [show n / 128 = 0 from Nat.div_eq_of_lt hn]
 refine wk ?_
 refine zE (Z0l rfl rfl rfl (by decide) (by decide) rfl) ?_
 refine wk ?_
 refine zE (Z3m rfl (by omega) rfl rfl) ?_
 rw [show (n % 256 % 128 + 128) % 128 = n by omega]
 refine zE (Z0l rfl rfl rfl (by decide) (by decide) rfl) ?_
 refine wk ?_
 refine Z15 (w0 rfl) rfl (fun id => Z3h id 1 rfl rfl rfl (by decide) (by decide) rfl) (fun id2 => ?_)
 refine wk ?_
 refine Z3g 1 (w0 rfl) rfl rfl rfl rfl rfl (by decide) (by decide) ?_
 refine Z6o 0 (w0 rfl) rfl rfl rfl rfl rfl rfl ⟨rfl, Z17 (fun _ => rfl)⟩ rfl (by decide) ?_
 refine wk ?_
 exact Zr rfl (Zf rfl Ze) (.refl _) (gp id2 trivial (by rw [show lebL n = [n] from if_pos hn]; rfl) (by rw [show lebL n = [n] from if_pos hn]; rfl))
theorem Zeo (n : Nat) (hn : 128 ≤ n) (hn2 : n < 16384) : ACalls Try.prog 32 [.v (.int .u64 n)] [] (GP (fun id : Nat => .own id 1 0 (lebL n).length) (fun id => [(id, .rows 5 1 ((lebL n).map fun x => [oA x]))]) (fun _ => True)) := by
 refine Zj (n := 34) Try.func32 rfl (by decide +kernel) rfl rfl ?_
 refine wk ?_
 refine Zja (fun id => ?_)
 refine wk ?_
 refine Z6q 3 ?_
 refine zRd ?_
 refine wk ?_
 refine zE (Z9j rfl rfl) ?_
 refine zE (Z9m rfl (by omega) rfl rfl) ?_
 refine wk ?_
 refine zE (Z0l rfl rfl rfl (by decide) (by decide) rfl) ?_
 refine wk ?_
 refine zE (Z7j rfl rfl rfl) ?_
 refine zA ?_
 refine zN ?_
 refine tqN ?_
 refine qS ?_
 refine qR ?_
 refine zM ?_
 refine zI ?_
 refine zN ?_
 refine tqN ?_
 rw [show (((n / 128 : Nat) : Int) == 0) = false from beq_eq_false_iff_ne.2 (by omega)]
 refine wk ?_
 refine zE (Z9j rfl rfl) ?_
 refine zE (Z9m rfl (by omega) rfl rfl) ?_
 refine wk ?_
 refine zE (Z0l rfl rfl rfl (by decide) (by decide) rfl) ?_
 refine wk ?_
 refine zE (Z7j rfl rfl rfl) ?_
 rw [show n / 128 / 128 = 0 by omega]
 refine wk ?_
 refine zE (Z0l rfl rfl rfl (by decide) (by decide) rfl) ?_
 refine wk ?_
 refine zE (Z3m rfl (by omega) rfl rfl) ?_
 rw [show (n / 128 % 256 % 128 + 128) % 128 = n / 128 by omega]
 refine zE (Z0l rfl rfl rfl (by decide) (by decide) rfl) ?_
 refine wk ?_
 refine Z15 (w0 rfl) rfl (fun id => Z3h id 2 rfl rfl rfl (by decide) (by decide) rfl) (fun id2 => ?_)
 refine wk ?_
 refine Z3g 1 (w0 rfl) rfl rfl rfl rfl rfl (by decide) (by decide) ?_
 refine Z6o 0 (w0 rfl) rfl rfl rfl rfl rfl rfl ⟨rfl, Z17 (fun _ => rfl)⟩ rfl (by decide) ?_
 refine wk ?_
 have e : lebL n = [n % 256 % 128 + 128, n / 128] := by rw [show n % 256 % 128 = n % 128 by omega]; exact if_neg (by omega)
 exact Zr rfl (Zf rfl Ze) (.refl _) (gp id2 trivial (by rw [e]; rfl) (by rw [e]; rfl))
theorem Zcn (n : Nat) (hn : n < 16384) : ACalls Try.prog 32 [.v (.int .u64 n)] [] (GP (fun id : Nat => .own id 1 0 (lebL n).length) (fun id => [(id, .rows 5 1 ((lebL n).map fun x => [oA x]))]) (fun _ => True)) := by
 rcases Nat.lt_or_ge n 128 with h | h
 ·exact Zen n h
 ·exact Zeo n h hn
end Go.Sx
namespace Go.Sx
open Go
def insW : List Str → Str → List Str
 | [], s => [s]
 | x :: r, s => if ltS s x then s :: x :: r else x :: insW r s
def withF (l : List Str) (s : Str) : List Str := if inL l s then l else insW l s
def insF (l : List Str) : List Str := l.foldl withF []
def wD (l : List Str) (s : Str) (i : Nat) : Bool := (l.take i).any (ltS s)
def wO (l : List Str) (s : Str) (i : Nat) : List Str := if wD l s i then insW (l.take i) s else l.take i
def mergeP (a b : List Str) : List Str × Int := if !rightL a || !rightL b then ([], 5) else makeP (a ++ b)
end Go.Sx
namespace Go.Sx
open Go Go.Proofs
end Go.Sx
namespace Go.Sx
open Go Go.Proofs
end Go.Sx
namespace Go.Sx
open Go Go.Proofs
def bytesL (s : Str) : List Nat := s.data.toList.map (·.toNat)
theorem Z9c (s : Str) : byteRows s = (bytesL s).map fun x => [oA x] := by
 unfold byteRows bytesL
 rw [List.map_map]
 rfl
theorem Z4e (s : Str) : (bytesL s).length = s.size := by
 unfold bytesL
 rw [List.length_map, Array.length_toList]
 rfl
theorem Z53 (n : Nat) : (lebL n).length ≤ 2 := by
 unfold lebL
 split <;> simp
def textL (s : Str) : List Nat := lebL s.size ++ bytesL s
theorem Z97 (s : Str) : (textL s).length ≤ s.size + 2 := by
 unfold textL
 rw [List.length_append, Z4e]
 have := Z53 s.size
 omega
theorem Zh7 (s : Str) (hs : s.size ≤ 64) : ACalls Try.prog 33 [sA s] [] (Gives (row1 oA (textL s))) := by
 refine Zj (n := 9) Try.func33 rfl (by decide +kernel) rfl rfl ?_
 have h2 := Z53 s.size
 refine wk ?_
 refine zCv ?_ (hz := Z2r (by omega))
 refine zCP [] [] (.refl _) (Zcn s.size (by omega)) (fun id _ => ?_)
 refine wk ?_
 refine Z80 0 (w0 rfl) rfl rfl rfl rfl (by simp) rfl (by simp; omega) (by simp [maxLen]; omega) (fun id2 => ?_)
 refine zA ?_
 refine zN ?_
 refine tqN ?_
 refine Z1e (Z2s 0 2 (T' := []) rfl rfl (by show _ + s.size = (_ ++ byteRows s).length; simp [Z25]) trivial) ?_
 rw [Z9c, ← List.map_append]
 refine wk ?_
 exact Z0y rfl (Zf rfl Ze) (gvr rfl)
def poolL (l : List Str) : List Nat := lebL l.length ++ l.flatMap textL
def putR (l : List Str) : AV := if rightL l then .tup [row1 oA (poolL l), iA 0] else .tup [.v (.slice none 0 0), iA 5]
theorem Z2p {l : List Str} (h : rightL l = true) : l.length ≤ 1024 ∧ ∀ s, s ∈ l → s.size ≤ 64 := by
 unfold rightL at h
 simp only [Bool.and_eq_true, decide_eq_true_eq] at h
 obtain ⟨⟨h1, h2⟩, _⟩ := h
 refine ⟨h1, fun s hs => ?_⟩
 have h3 : l.any longS = false := by simpa using h2
 have := List.any_eq_false.1 h3 s hs
 unfold longS at this
 simpa using this
theorem Zar (l : List Str) (h : ∀ s, s ∈ l → s.size ≤ 64) : (l.flatMap textL).length ≤ 66 * l.length := by
 induction l with
 | nil => simp
 | cons s l ih =>
  rw [List.flatMap_cons, List.length_append, List.length_cons]
  have h1 := ih fun s hs => h s (List.mem_cons_of_mem _ hs)
  have h2 := Z97 s
  have h3 := h s List.mem_cons_self
  omega
theorem Zcm (l : List Str) (hl : small l.length) : ACalls Try.prog 10 [row1 sA l] [] (Gives (putR l)) := by
 refine Zj (n := 26) Try.func10 rfl (by decide +kernel) rfl rfl ?_
 unfold putR
 refine wk ?_
 refine zCG (Zag l hl) ?_
 refine zNt ?_
 refine zN ?_
 refine tqN ?_
 cases hr : rightL l with
 | false =>
  refine wk ?_
  exact Z0y rfl (Zf rfl (Zf rfl Ze)) (gvr rfl)
 | true =>
 rw [if_pos rfl]
 obtain ⟨h1, h2⟩ := Z2p hr
 refine wk ?_
 rw [List.length_map]
 refine zCv ?_ (hz := Z2r (by omega))
 refine zCP [] [] (.refl _) (Zcn l.length (by omega)) (fun id _ => ?_)
 refine wk ?_
 refine Z06 (α := Nat × Nat) (fun y => ⟨[(16, iA y.2), (15, iA l.length), (14, row1 sA l), (4, .own y.1 1 0 (lebL l.length ++ (l.take y.2).flatMap textL).length)], [(y.1, .rows 5 1 ((lebL l.length ++ (l.take y.2).flatMap textL).map fun x => [oA x]))], [], 26⟩) (fun y => y.2 ≤ l.length) (fun y => l.length - y.2) (id, 0) (Nat.zero_le _) (Zc [0] ⟨rfl, (by show some (iA _) = some (iA _); rw [List.length_map]), rfl, (by show some (AV.own _ _ _ _) = some (AV.own _ _ _ _); simp), trivial⟩ (by show some [(_, AObj.rows _ _ _)] = some [(_, AObj.rows _ _ _)]; simp) (by decide) rfl rfl) ?_
 rintro ⟨id, i⟩ hJ
 simp only at hJ
 refine wk ?_
 have hfl : ((l.take i).flatMap textL).length ≤ 66 * 1024 := by
  have := Zar (l.take i) fun s hs => h2 s (List.mem_of_mem_take hs)
  have h3 : (l.take i).length ≤ l.length := by rw [List.length_take]; omega
  omega
 have hll := Z53 l.length
 refine Za rfl (fun hc => ?_) (fun hc => ?_)
 rotate_left
 ·have hx : ¬ i < l.length := by simpa using hc
  clear hc
  rw [show l.take i = l from List.take_of_length_le (by omega)]
  refine Z1e (Z2s 0 4 (T' := []) rfl rfl (by simp only [List.length_map]) trivial) ?_
  refine wk ?_
  exact Z0y rfl (Zf rfl (Zf rfl Ze)) (gvr rfl)
 have hx : i < l.length := by simpa using hc
 clear hc
 refine wk ?_
 refine zE (eIx i hx rfl rfl rfl rfl) ?_
 refine zE (eLx hx rfl rfl) ?_
 refine wk ?_
 have h3 := h2 l[i] (List.getElem_mem hx)
 have h4 := Z97 l[i]
 refine zCG (Zh7 l[i] h3) ?_
 refine Z14 0 (w0 rfl) rfl rfl rfl rfl (by simp) rfl ⟨rfl, Z17 (fun _ => rfl)⟩ (by simp only [List.length_map, List.length_append]; omega) (by simp only [List.length_map, List.length_append, maxLen]; omega) (fun id2 => ?_)
 refine wk ?_
 have e : (l.take (i + 1)).flatMap textL = (l.take i).flatMap textL ++ textL l[i] := by
  rw [List.take_succ_eq_append_getElem hx, List.flatMap_append]; simp
 exact ⟨(id2, i + 1), (by show i + 1 ≤ l.length; omega), (by show l.length - (i + 1) < l.length - i; omega), Zc [0] ⟨rfl, rfl, rfl, (by show some (AV.own _ _ _ _) = some (AV.own _ _ _ _); rw [e]; simp [Nat.add_assoc]), trivial⟩ (by show some [(_, AObj.rows _ _ _)] = some [(_, AObj.rows _ _ _)]; rw [e]; simp) (by decide) rfl rfl⟩
end Go.Sx
namespace Go.Sx
open Go Go.Proofs
abbrev tA : Str := ⟨#[97]⟩
abbrev tB : Str := ⟨#[98]⟩
abbrev tC : Str := ⟨#[99]⟩
theorem Zg9 (l : List Str) (hl : small l.length) (h : rightL l = true) : ACalls Try.prog 10 [row1 sA l] [] (Gives (.tup [row1 oA (poolL l), iA 0])) := by
 have := Zcm l hl
 rw [show putR l = _ from if_pos h] at this
 exact this
end Go.Sx
namespace Go.Sx
open Go Go.Proofs
def putB (l : List Str) : List Nat := if rightL l then poolL l else []
def putE (l : List Str) : Int := if rightL l then 0 else 5
theorem Zfm (l : List Str) : (putB l).length ≤ 67586 := by
 unfold putB
 split
 ·rename_i h
  obtain ⟨h1, h2⟩ := Z2p h
  have h3 := Zar l h2
  have h4 := Z53 l.length
  unfold poolL
  rw [List.length_append]
  omega
 ·simp
end Go.Sx
namespace Go.Sx
open Go
theorem Zgn (x : Int) : IntKind.u64.wrap x = x % 18446744073709551616 := by
 simp only [IntKind.wrap, IntKind.bits, IntKind.signed, Bool.false_and, Bool.false_eq_true, if_false]
 rfl
theorem Zdo (n x i : Nat) (hn : n < 2 ^ 64) (h : x % 128 * 2 ^ (min (7 * i) 64) < 2 ^ 64) : ors n x i = ((n ||| (x % 128 * 2 ^ (min (7 * i) 64)) : Nat) : Int) := by
 unfold ors
 have e1 : ((x % 128 : Nat) : Int) * 2 ^ (min (7 * i) 64) = ((x % 128 * 2 ^ (min (7 * i) 64) : Nat) : Int) := by push_cast; rfl
 rw [e1]
 generalize x % 128 * 2 ^ (min (7 * i) 64) = y at h
 have e2 : IntKind.u64.wrap (y : Int) = (y : Int) := by rw [Zgn]; omega
 rw [e2]
 show IntKind.u64.wrap ((BitVec.ofInt 64 (n : Int) ||| BitVec.ofInt 64 (y : Int)).toNat : Int) = _
 have e3 : (BitVec.ofInt 64 (n : Int) ||| BitVec.ofInt 64 (y : Int)).toNat = n ||| y := by
  rw [BitVec.toNat_or]
  simp only [BitVec.ofInt_natCast, BitVec.toNat_ofNat]
  rw [Nat.mod_eq_of_lt hn, Nat.mod_eq_of_lt h]
 rw [e3, Zgn]
 have h2 : n ||| y < 2 ^ 64 := Nat.or_lt_two_pow hn h
 omega
theorem Zl0 {x : Nat} : ors 0 x 0 = ((x % 128 : Nat) : Int) := by
 have h := Zdo 0 x 0 (by decide) (by simp; omega)
 simp only [Int.natCast_zero] at h
 rw [h]
 simp
theorem Zl2 {n x : Nat} (hn : n < 128) (hx : x < 128) : ors n x 1 = ((n + x * 128 : Nat) : Int) := by
 have e : x % 128 * 2 ^ (min (7 * 1) 64) = 2 ^ 7 * x := by rw [Nat.mod_eq_of_lt hx]; simp; omega
 rw [Zdo n x 1 (by omega) (by rw [e]; omega), e, Nat.or_comm, ← Nat.two_pow_add_eq_or_of_lt (show n < 2 ^ 7 by omega)]
 congr 1
 omega
theorem Zj4 {n : Nat} (hn : n < 16384) (a : Nat) (post : List Nat) : tk a (lebL n ++ post) 0 0 = ((n : Int), (a : Int) + (lebL n).length, 0) := by
 unfold lebL
 by_cases h : n < 128
 ·rw [if_pos h]
  show tk a (n :: post) 0 0 = _
  unfold tk
  rw [if_neg (by omega), if_pos h, Zl0, Nat.mod_eq_of_lt h]
  simp
 ·rw [if_neg h]
  show tk a ((n % 128 + 128) :: (n / 128) :: post) 0 0 = _
  unfold tk
  rw [if_neg (by omega), if_neg (by omega), Zl0, show (n % 128 + 128) % 128 = n % 128 by omega]
  unfold tk
  rw [if_neg (by omega), if_pos (by omega), Zl2 (by omega) (by omega)]
  simp only [Prod.mk.injEq, List.length_cons, List.length_nil]
  refine ⟨by omega, by omega, trivial⟩
theorem Zfr {n : Nat} (hn : n < 16384) (pre post : List Nat) : takeP (pre ++ (lebL n ++ post)) (pre.length : Nat) = ((n : Int), ((pre.length + (lebL n).length : Nat) : Int), 0) := by
 rw [Zba (by rw [List.length_append]; omega), List.drop_left, Zj4 hn]
 simp
end Go.Sx
namespace Go.Sx
open Go
theorem Zdk {n M : Nat} (hM : M < 16384) (hn : n ≤ M) (pre post : List Nat) (f : Int) : numP (pre ++ (lebL n ++ post)) M ((pre.length : Nat), 0, f) = ((n : Int), (((pre.length + (lebL n).length : Nat) : Int), 0, f)) := by
 unfold numP
 rw [Zfr (by omega) pre post]
 simp only [if_true]
 rw [if_pos (by omega)]
theorem Zbk (s : Str) : bstr (bytesL s) = s := by
 unfold bstr bytesL
 rw [List.map_map]
 have e : (UInt8.ofNat ∘ fun x : UInt8 => x.toNat) = id := by funext x; simp
 rw [e, List.map_id]
theorem Zh9 (pre x post : List Nat) {a h : Nat} (ha : a = pre.length) (hh : h = a + x.length) : cutB (pre ++ (x ++ post)) a h = x := by
 subst ha hh
 unfold cutB
 rw [← List.append_assoc, List.take_append_of_le_length (by rw [List.length_append]; omega), List.take_of_length_le (by rw [List.length_append]; omega), List.drop_left]
theorem Zfs {s : Str} (hs : s.size ≤ 64) (pre post : List Nat) (f : Int) : textP (pre ++ (textL s ++ post)) ((pre.length : Nat), 0, f) = (s, (((pre.length + (textL s).length : Nat) : Int), 0, f)) := by
 have h0 : numP (pre ++ (textL s ++ post)) 64 ((pre.length : Nat), 0, f) = (((s.size : Nat) : Int), (((pre.length + (lebL s.size).length : Nat) : Int), 0, f)) := by
  unfold textL
  rw [List.append_assoc]
  exact Zdk (M := 64) (by decide) hs pre _ f
 unfold textP
 rw [h0]
 have hl : (textL s).length = (lebL s.size).length + s.size := by unfold textL; rw [List.length_append, Z4e]
 simp only [if_true, Int.toNat_natCast]
 rw [if_pos (by simp only [List.length_append, hl]; omega)]
 have e : pre ++ (textL s ++ post) = (pre ++ lebL s.size) ++ (bytesL s ++ post) := by unfold textL; simp only [List.append_assoc]
 rw [e, Zh9 (pre ++ lebL s.size) (bytesL s) post (by rw [List.length_append]) (by rw [Z4e]), Zbk, hl]
 simp only [Prod.mk.injEq, true_and]
 exact ⟨by omega, trivial⟩
def chS : List Str → List Str → Bool
 | _, [] => true
 | out, s :: l => risS out s && chS (out ++ [s]) l
theorem Z96 : ∀ (l : List Str) (pre post : List Nat) (f : Int) (out : List Str), (∀ s, s ∈ l → s.size ≤ 64) → chS out l = true → takesP (pre ++ (l.flatMap textL ++ post)) l.length ((pre.length : Nat), 0, f) out = (out ++ l, (((pre.length + (l.flatMap textL).length : Nat) : Int), 0, f))
 | [], pre, post, f, out, _, _ => by
  unfold takesP
  simp
 | s :: l, pre, post, f, out, hs, hc => by
  have hc1 : risS out s = true ∧ chS (out ++ [s]) l = true := by simpa [chS] using hc
  rw [List.length_cons, Z6f, List.flatMap_cons, List.append_assoc, Zfs (hs s List.mem_cons_self)]
  simp only [if_true]
  rw [if_pos hc1.1]
  have ih := Z96 l (pre ++ textL s) post f (out ++ [s]) (fun s hs' => hs s (List.mem_cons_of_mem _ hs')) hc1.2
  rw [List.append_assoc, List.length_append] at ih
  rw [ih]
  simp only [List.length_append, List.append_assoc, List.singleton_append, Nat.add_assoc]
end Go.Sx
namespace Go.Sx
open Go
theorem Zht (out : List Str) (s : Str) (l : List Str) : risS out s = (Nat.beq out.length 0 || gS (out ++ s :: l) out.length) := by
 unfold risS gS
 cases out with
 | nil => rfl
 | cons t out =>
  have h1 : ((t :: out) ++ s :: l).getD ((t :: out).length) default = s := by simp [List.getD]
  have h2 : ((t :: out) ++ s :: l).getD ((t :: out).length - 1) default = (t :: out).getD ((t :: out).length - 1) default := by
   simp only [List.getD]
   rw [List.getElem?_append_left (by simp)]
  rw [h1, h2]
  rfl
theorem Zcr : ∀ (l out : List Str), chS out l = true ↔ ∀ k, out.length ≤ k → k < (out ++ l).length → 0 < k → gS (out ++ l) k = true
 | [], out => by
  simp only [chS, List.append_nil, true_iff]
  intro k h1 h2
  omega
 | s :: l, out => by
  rw [chS, Bool.and_eq_true, Zcr l (out ++ [s]), Zht out s l, List.append_assoc, List.singleton_append]
  constructor
  ·rintro ⟨h1, h2⟩ k h3 h4 h5
   rcases Nat.lt_or_eq_of_le h3 with h6 | h6
   ·exact h2 k (by rw [List.length_append]; simp only [List.length_singleton]; omega) h4 h5
   ·subst h6
    rcases Bool.or_eq_true _ _ ▸ h1 with h7 | h7
    ·have := Nat.eq_of_beq_eq_true h7; omega
    ·exact h7
  ·intro h
   refine ⟨?_, fun k h1 h2 h3 => h k (by rw [List.length_append] at h1; simp only [List.length_singleton] at h1; omega) h2 h3⟩
   rcases Nat.eq_zero_or_pos out.length with h0 | h0
   ·rw [h0]; rfl
   ·rw [h out.length (Nat.le_refl _) (by rw [List.length_append, List.length_cons]; omega) h0, Bool.or_true]
theorem Zc1 (l : List Str) : rightL l = true ↔ l.length ≤ 1024 ∧ (∀ s, s ∈ l → s.size ≤ 64) ∧ chS [] l = true := by
 rw [Zcr]
 unfold rightL
 simp only [Bool.and_eq_true, decide_eq_true_eq, List.nil_append, allN_iff, List.length_nil, Bool.not_eq_true', List.any_eq_false]
 constructor
 ·rintro ⟨⟨h1, h2⟩, h3⟩
  exact ⟨h1, fun s hs => by have := h2 s hs; unfold longS at this; simpa using this, fun k _ h4 h5 => h3 k h4 h5⟩
 ·rintro ⟨h1, h2, h3⟩
  exact ⟨⟨h1, fun s hs => by have := h2 s hs; unfold longS; simpa using this⟩, fun k h4 h5 => h3 k (Nat.zero_le _) h4 h5⟩
theorem Zjj {p : List Str} (hr : rightL p = true) : takeAll (poolL p) (0, 0, 0) = (p, (((poolL p).length : Nat) : Int), 0, 0) := by
 obtain ⟨h1, h2, h3⟩ := (Zc1 p).1 hr
 unfold takeAll poolL
 have h4 := Zdk (M := 1024) (by decide) h1 [] (p.flatMap textL) 0
 simp only [List.nil_append, List.length_nil, Int.natCast_zero, Nat.zero_add] at h4
 rw [show ((1024 : Nat) : Int) = 1024 from rfl] at h4
 rw [h4]
 simp only [Int.toNat_natCast]
 have h5 := Z96 p (lebL p.length) [] 0 [] h2 h3
 rw [List.append_nil] at h5
 rw [h5]
 simp only [List.nil_append, List.length_append]
end Go.Sx
namespace Go.Sx
open Go
variable {P : Program} {ro : Option Nat} {Q : Exit → St → Prop} {s : St}
end Go.Sx
namespace Go.Sx
open Go Go.Proofs
section
variable {P : Program} {ro : Option Nat} {Q : Exit → St → Prop} {ops : Array Oper} {rest : List Oper} {T : List (Nat × AV)} {H : AHeap} {D : List Nat} {n d ty : Nat} {po : String} {af : Array Edge} {op : Op} {x : AV}
theorem zYE {g gt : Nat} {gb : Bool} {og : Oper} (he : Eff P { dst := some d, op := op, type := ty, pos := po, after := af, guard := some (g, gb) } T [] x []) (h : AOps P ro ops rest Q ⟨(d, x) :: T, H, D, n⟩) (g1 : ops[g]? = some og := by rfl) (g2 : og.dst = some gt := by rfl) (g3 : lk T gt = some (.v (.bool gb)) := by rfl) (hd : Nat.blt d n = true := by rfl) : AOps P ro ops ({ dst := some d, op := op, type := ty, pos := po, after := af, guard := some (g, gb) } :: rest) Q ⟨T, H, D, n⟩ := Z1 (wY rfl g1 g2 g3) hd he h
theorem zYU {g gt : Nat} {gb : Bool} {og : Oper} {fo : Operand} {args : Array Operand} {ats : Array TypeId} {f : Nat} {caps xs : List AV} {K H' Fr : AHeap} (hc : ACalls P f (xs ++ caps) K (GivesH x H')) (hH : H.Perm (K ++ Fr)) (h : AOps P ro ops rest Q ⟨(d, x) :: T, H' ++ Fr, D, n⟩) (g1 : ops[g]? = some og := by rfl) (g2 : og.dst = some gt := by rfl) (g3 : lk T gt = some (.v (.bool gb)) := by rfl) (hfo : ev T fo = some (.fn (.func f) caps) := by rfl) (hxs : evs T args.toList = some xs := by rfl) (hd : Nat.blt d n = true := by rfl) : AOps P ro ops ({ dst := some d, op := .call { callee := .value fo, args := args, argTypes := ats }, type := ty, pos := po, after := af, guard := some (g, gb) } :: rest) Q ⟨T, H, D, n⟩ :=
 Z2b K Fr (wY rfl g1 g2 g3) hd rfl hfo hxs hH hc (fun y K' hy => by obtain ⟨e1, rfl⟩ := hy; cases e1; exact h) (fun ch K' hy => by obtain ⟨e1, _⟩ := hy; cases e1)
end
theorem Zay (n : Nat) (hn : n < 16384) : Oct (lebL n) := by
 intro x hx
 unfold lebL at hx
 split at hx
 ·have := List.mem_singleton.1 hx; omega
 ·simp only [List.mem_cons, List.not_mem_nil, or_false] at hx
  omega
theorem Zbl (s : Str) : Oct (bytesL s) := by
 intro x hx
 obtain ⟨y, _, rfl⟩ := List.mem_map.1 hx
 have := y.toNat_lt
 omega
theorem Zdq {p : List Str} (h : rightL p = true) : Oct (poolL p) := by
 obtain ⟨h1, h2⟩ := Z2p h
 intro x hx
 unfold poolL at hx
 rcases List.mem_append.1 hx with hx | hx
 ·exact Zay _ (by omega) x hx
 ·obtain ⟨s, hs, hx⟩ := List.mem_flatMap.1 hx
  unfold textL at hx
  rcases List.mem_append.1 hx with hx | hx
  ·exact Zay _ (by have := h2 s hs; omega) x hx
  ·exact Zbl s x hx
end Go.Sx
namespace Go.Sx
open Go Go.Proofs
abbrev scH (k : Nat) (u : Str) (i : Nat) : AHeap := [(k, .rows 72 2 [[sA u, iA i]])]
abbrev smc : Str := ⟨#[59]⟩
theorem byL {a b : Str} {i : Nat} (h : i < a.size) : byteAt (a ++ b) (i : Nat) = byteAt a (i : Nat) := by
 rw [Z4d (show i < (a ++ b).size by rw [ByteArray.size_append]; omega), Z4d h, ByteArray.getElem_append_left h]
theorem Zaf : ACalls Try.prog 66 [bA true, iA 1] [] (Gives (.tup [])) := by
 refine Zj (n := 9) Try.func66 rfl (by decide +kernel) rfl rfl ?_
 refine wk ?_
 exact Z0y (fn := Try.f66) rfl Ze (gvr rfl)
theorem Zcj {v : Bool} (h : v = true) : ACalls Try.prog 66 [bA v, iA 1] [] (Gives (.tup [])) := by
 subst h
 exact Zaf
theorem Zae (k : Nat) (u : Str) (i : Nat) (hs : small u.size) (h : i < u.size) : ACalls Try.prog 63 [.ptr k 2 0 0] (scH k u i) (GivesH (uA (byteAt u (i : Nat))) (scH k u (i + 1))) := by
 refine Zj (n := 31) Try.func63 rfl (by decide +kernel) rfl rfl ?_
 simp only [small] at hs
 refine wk ?_
 refine zcE (Zp [] rfl rfl rfl (Zcj (decide_eq_true (by omega))) List.nodup_nil) ?_
 refine wk ?_
 exact Zr rfl (Zf rfl Ze) (.refl _) (gvH (by show AV.v (.int .u8 (byteAt u ((i : Int) + 1 - 1))) = _; rw [show (i : Int) + 1 - 1 = i by omega]))
theorem Zga (k : Nat) (u : Str) (i : Nat) (hs : small u.size) (h : i < u.size) (c : Int) : ACalls Try.prog 84 [.ptr k 2 0 0, uA c] (scH k u i) (GivesH (bA (byteAt u (i : Nat) == c)) (scH k u i)) := by
 refine Zj (n := 28) Try.func84 rfl (by decide +kernel) rfl rfl ?_
 simp only [small] at hs
 refine wk ?_
 rw [show decide ((i : Int) < u.size) = true from decide_eq_true (by omega)]
 refine wk ?_
 exact Zr rfl (Zf rfl Ze) (.refl _) (gvH rfl)
theorem Zi8 (k : Nat) (u : Str) : ACalls Try.prog 42 [.ptr k 2 0 0] (scH k u u.size) (GivesH (.tup []) (scH k u u.size)) := by
 refine Zj (n := 13) Try.func42 rfl (by decide +kernel) rfl rfl ?_
 refine wk ?_
 refine zcE (Zp [] rfl rfl rfl (Zcj (beq_self_eq_true _)) List.nodup_nil) ?_
 refine wk ?_
 exact Zr (fn := Try.f42) rfl Ze (.refl _) (gvH rfl)
theorem Zi9 (s : Str) : ACalls Try.prog 96 [sA s, uA 59] [] (Gives (iA (Lib.indexByte s.data.toList 59))) := by
 refine Zj (n := 8) Try.func96 rfl (by decide +kernel) rfl rfl ?_
 refine wk ?_
 refine zE (Z8j (x := iA (Lib.indexByte s.data.toList 59)) rfl rfl (by kernel_rfl)) ?_
 refine wk ?_
 exact Z0y rfl (Zf rfl Ze) (gvr rfl)
theorem Zd8 : ∀ (l r : List UInt8), (∀ x, x ∈ l → x ≠ 59) → Lib.indexByte (l ++ 59 :: r) 59 = l.length
 | [], r, _ => rfl
 | x :: l, r, h => by
  have ih := Zd8 l r fun y hy => h y (List.mem_cons_of_mem _ hy)
  have hx : (x == 59) = false := beq_eq_false_iff_ne.2 (h x List.mem_cons_self)
  show (if x == 59 then (0 : Int) else if Lib.indexByte (l ++ 59 :: r) 59 == -1 then -1 else Lib.indexByte (l ++ 59 :: r) 59 + 1) = _
  rw [hx, ih]
  have : ((l.length : Int) == -1) = false := beq_eq_false_iff_ne.2 (by omega)
  rw [this]
  simp
theorem Zik {c : Str} (h : clsW c = true) : ∀ x, x ∈ c.data.toList → x ≠ 59 := by
 unfold clsW at h
 have h1 := (Bool.and_eq_true _ _ ▸ h).1
 intro x hx e
 subst e
 obtain ⟨i, hi, hx⟩ := List.getElem_of_mem hx
 have hi2 : i < c.size := by simpa using hi
 have h2 := Zgo h1 hi2
 have h3 : byteAt c (i : Nat) = 59 := by
  rw [Z4d hi2]
  have : c[i] = 59 := by
   rw [← hx]
   rfl
  rw [this]
  rfl
 rw [h3] at h2
 revert h2
 decide
theorem Z5h {c : Str} (h : clsW c = true) : 1 ≤ c.size ∧ c.size ≤ 32 := by
 unfold clsW at h
 have h1 := (Bool.and_eq_true _ _ ▸ h).2
 rw [Bool.and_eq_true, decide_eq_true_eq, Bool.not_eq_true'] at h1
 refine ⟨?_, h1.2⟩
 rcases Nat.eq_zero_or_pos c.size with h0 | h0
 ·have : c = zS := ByteArray.size_eq_zero_iff.1 h0
  rw [this, Z1y] at h1
  cases h1.1
 ·exact h0
theorem Zhn {c : Str} (h : clsW c = true) : Lib.indexByte (c ++ smc).data.toList 59 = c.size := by
 have e : (c ++ smc).data.toList = c.data.toList ++ 59 :: [] := by
  show (c ++ smc).data.toList = _
  rw [ByteArray.data_append, Array.toList_append]
 rw [e, Zd8 _ _ (Zik h), Array.length_toList]
 rfl
theorem Zjm (c : Str) (h : clsW c = true) : ACalls Try.prog 95 [sA (c ++ smc), sA smc] [] (Gives (iA c.size)) := by
 refine Zj (n := 143) Try.func95 rfl (by decide +kernel) rfl rfl ?_
 obtain ⟨h1, h2⟩ := Z5h h
 refine wk ?_
 rw [show (ByteArray.toList smc == ByteArray.toList (c ++ smc)) = false from Zgr (fun e => by
  have := congrArg ByteArray.size e
  rw [ByteArray.size_append] at this
  have h3 : smc.size = 1 := rfl
  omega)]
 refine wk ?_
 refine zCG (Zi9 (c ++ smc)) ?_
 rw [Zhn h]
 refine wk ?_
 exact Z0y rfl (Zf rfl Ze) (gvr rfl)
theorem Zjt (a b : Str) : (a ++ b).extract 0 a.size = a := ByteArray.extract_append_eq_left rfl
theorem Zir (a b : Str) : (a ++ b).extract a.size (a ++ b).size = b := ByteArray.extract_append_eq_right rfl (by rw [ByteArray.size_append])
theorem Zgv (c : Str) (h : clsW c = true) : ACalls Try.prog 93 [sA (c ++ smc), sA smc] [] (Gives (.tup [sA c, sA zS, bA true])) := by
 refine Zj (n := 23) Try.func93 rfl (by decide +kernel) rfl rfl ?_
 obtain ⟨h1, h2⟩ := Z5h h
 refine wk ?_
 refine zCG (Zjm c h) ?_
 refine wk ?_
 rw [show decide (((c.size : Nat) : Int) ≥ 0) = true from decide_eq_true (by omega)]
 refine wk ?_
 have hsz : (c ++ smc).size = c.size + 1 := by rw [ByteArray.size_append]; rfl
 refine zcE (Zz (y := sA c) (Z8g (j := ((c.size : Nat) : Int)) rfl rfl rfl (by omega) (by rw [hsz]; omega)) (by rw [Int.toNat_natCast, Zjt])) ?_
 refine wk ?_
 rw [show ((smc.size : Nat) : Int) = 1 from rfl]
 refine wk ?_
 have hz : (c ++ smc).extract ((((c.size : Nat) : Int) + 1).toNat) (c ++ smc).size = zS := ByteArray.size_eq_zero_iff.1 (by
  rw [ByteArray.size_extract, hsz]
  omega)
 refine zcE (Zz (y := sA zS) (Z3i (i := ((c.size : Nat) : Int) + 1) rfl rfl rfl (by omega) (by rw [hsz]; omega)) (by rw [hz])) ?_
 refine wk ?_
 exact Z0y rfl (Zf rfl (Zf rfl (Zf rfl Ze))) (gvr rfl)
theorem Zjl (c : Str) (h : clsW c = true) : ACalls Try.prog 83 [sA (c ++ smc), sA smc] [] (Gives (.tup [sA c, sA zS, bA true])) := by
 refine Zj (n := 13) Try.func83 rfl (by decide +kernel) rfl rfl ?_
 refine wk ?_
 refine zCG (Zgv c h) ?_
 refine wk ?_
 exact Z0y rfl (Zf rfl (Zf rfl (Zf rfl Ze))) (gvr rfl)
end Go.Sx
namespace Go.Sx
open Go Go.Proofs
theorem Zgt (k : Nat) (u c : Str) (i : Nat) (hs : small u.size) (hi : i ≤ u.size) (hu : u.extract i u.size = c ++ smc) (h : clsW c = true) : ACalls Try.prog 64 [.ptr k 2 0 0] (scH k u i) (GivesH (sA c) (scH k u u.size)) := by
 refine Zj (n := 38) Try.func64 rfl (by decide +kernel) rfl rfl ?_
 simp only [small] at hs
 obtain ⟨h1, h2⟩ := Z5h h
 refine wk ?_
 refine zcE (Zz (y := sA (c ++ smc)) (Z3i (i := ((i : Nat) : Int)) rfl rfl rfl (by omega) (by omega)) (by rw [Int.toNat_natCast, hu])) ?_
 refine zcE (Zp [] rfl rfl rfl (Zjl c h) List.nodup_nil) ?_
 refine wk ?_
 refine zYE (Zp [] rfl rfl rfl (Zcg c (by unfold small; omega)) List.nodup_nil) ?_
 rw [h]
 refine wk ?_
 refine zCG Zaf ?_
 refine wk ?_
 rw [show ((zS.size : Nat) : Int) = 0 from rfl]
 refine wk ?_
 exact Zr rfl (Zf rfl Ze) (.refl _) (gvH rfl)
theorem Zid (k : Nat) (u : Str) (i : Nat) (hs : small u.size) (h : i < u.size) (hb : byteAt u (i : Nat) = 86) : ACalls Try.prog 41 [.ptr k 2 0 0] (scH k u i) (GivesH (.agg [iA 1, sA zS]) (scH k u (i + 1))) := by
 refine Zj (n := 22) Try.func41 rfl (by decide +kernel) rfl rfl ?_
 refine wk ?_
 refine Zed (fun id => ?_)
 refine wk ?_
 refine Z7w (Fr := [(id, .rows 27 2 [[iA 0, sA zS]])]) (Zae k u i hs h) (List.Perm.swap _ _ []) ?_
 rw [hb]
 refine wk ?_
 exact Zr rfl (Z1b 1 rfl rfl rfl Z2t Ze) (.cons_cons _ (List.nil_sublist _)) (gvH rfl)
theorem Zg7 (k : Nat) (u : Str) (i : Nat) (hs : small u.size) (h : i < u.size) (hb : byteAt u (i : Nat) = 73) : ACalls Try.prog 41 [.ptr k 2 0 0] (scH k u i) (GivesH (.agg [iA 2, sA zS]) (scH k u (i + 1))) := by
 refine Zj (n := 22) Try.func41 rfl (by decide +kernel) rfl rfl ?_
 refine wk ?_
 refine Zed (fun id => ?_)
 refine wk ?_
 refine Z7w (Fr := [(id, .rows 27 2 [[iA 0, sA zS]])]) (Zae k u i hs h) (List.Perm.swap _ _ []) ?_
 rw [hb]
 refine wk ?_
 exact Zr rfl (Z1b 1 rfl rfl rfl Z2t Ze) (.cons_cons _ (List.nil_sublist _)) (gvH rfl)
theorem Zg8 (k : Nat) (u c : Str) (i : Nat) (hs : small u.size) (h : i < u.size) (hb : byteAt u (i : Nat) = 76) (hu : u.extract (i + 1) u.size = c ++ smc) (hc : clsW c = true) : ACalls Try.prog 41 [.ptr k 2 0 0] (scH k u i) (GivesH (.agg [iA 3, sA c]) (scH k u u.size)) := by
 refine Zj (n := 22) Try.func41 rfl (by decide +kernel) rfl rfl ?_
 refine wk ?_
 refine Zed (fun id => ?_)
 refine wk ?_
 refine Z7w (Fr := [(id, .rows 27 2 [[iA 0, sA zS]])]) (Zae k u i hs h) (List.Perm.swap _ _ []) ?_
 rw [hb]
 refine wk ?_
 refine Z7w (Zgt k u c (i + 1) hs h hu hc) (.refl _) ?_
 refine wk ?_
 exact Zr rfl (Z1b 1 rfl rfl rfl Z2t Ze) (.cons_cons _ (List.nil_sublist _)) (gvH rfl)
theorem Zjk (k : Nat) (u cl : Str) (i j : Nat) (kd : Int) (hs : small u.size) (h : i < u.size) (hb : byteAt u (i : Nat) = 73 ∨ byteAt u (i : Nat) = 76) (hkd : 0 ≤ kd ∧ kd ≤ 10) (hone : ACalls Try.prog 41 [.ptr k 2 0 0] (scH k u i) (GivesH (.agg [iA kd, sA cl]) (scH k u j))) : ACalls Try.prog 65 [.ptr k 2 0 0] (scH k u i) (GivesH (.agg [iA (kd + 2), sA cl]) (scH k u j)) := by
 refine Zj (n := 18) Try.func65 rfl (by decide +kernel) rfl rfl ?_
 refine wk ?_
 refine Zed (fun id => ?_)
 refine wk ?_
 refine zCH 1 (Zga k u i hs h 73) ?_
 rcases hb with hb | hb
 ·rw [hb]
  refine wk ?_
  refine zCG Zaf ?_
  refine wk ?_
  refine Z7w (Fr := [(id, .rows 27 2 [[iA 0, sA zS]])]) hone (List.Perm.swap _ _ []) ?_
  refine Zed (fun id2 => ?_)
  refine wk ?_
  exact Zr rfl (Z1b 2 rfl rfl rfl Z2t Ze) (.cons _ (.cons_cons _ (List.nil_sublist _))) (gvH rfl)
 ·rw [hb]
  refine wk ?_
  refine zYU (Fr := [(id, .rows 27 2 [[iA 0, sA zS]])]) (Zga k u i hs h 76) (List.Perm.swap _ _ []) ?_
  rw [hb]
  refine wk ?_
  refine zCG Zaf ?_
  refine wk ?_
  refine Z7w (Fr := [(id, .rows 27 2 [[iA 0, sA zS]])]) hone (.refl _) ?_
  refine Zed (fun id2 => ?_)
  refine wk ?_
  exact Zr rfl (Z1b 2 rfl rfl rfl Z2t Ze) (.cons _ (.cons_cons _ (List.nil_sublist _))) (gvH rfl)
theorem Zg6 (k : Nat) (u cl : Str) (i j : Nat) (kd : Int) (hs : small u.size) (h : i + 1 < u.size) (ha : byteAt u (i : Nat) = 91) (hb : byteAt u ((i + 1 : Nat) : Int) = 73 ∨ byteAt u ((i + 1 : Nat) : Int) = 76) (hkd : 0 ≤ kd ∧ kd ≤ 10) (hone : ACalls Try.prog 41 [.ptr k 2 0 0] (scH k u (i + 1)) (GivesH (.agg [iA kd, sA cl]) (scH k u j))) : ACalls Try.prog 41 [.ptr k 2 0 0] (scH k u i) (GivesH (.agg [iA (kd + 2), sA cl]) (scH k u j)) := by
 refine Zj (n := 22) Try.func41 rfl (by decide +kernel) rfl rfl ?_
 refine wk ?_
 refine Zed (fun id => ?_)
 refine wk ?_
 refine Z7w (Fr := [(id, .rows 27 2 [[iA 0, sA zS]])]) (Zae k u i hs (by omega)) (List.Perm.swap _ _ []) ?_
 rw [ha]
 refine wk ?_
 refine Z7w (Fr := [(id, .rows 27 2 [[iA 0, sA zS]])]) (Zjk k u cl (i + 1) j kd hs h hb hkd hone) (.refl _) ?_
 refine wk ?_
 exact Zr rfl (Z1b 1 rfl rfl rfl Z2t Ze) (.cons_cons _ (List.nil_sublist _)) (gvH rfl)
end Go.Sx
namespace Go.Sx
open Go Go.Proofs
theorem Za3 {t : Ty} (h : rightT t = true) : t = ⟨1, zS⟩ ∨ t = ⟨2, zS⟩ ∨ (∃ c, t = ⟨3, c⟩ ∧ clsW c = true) ∨ t = ⟨4, zS⟩ ∨ ∃ c, t = ⟨5, c⟩ ∧ clsW c = true := by
 obtain ⟨k, c⟩ := t
 unfold rightT at h
 simp only at h
 split at h
 ·rename_i h1
  rcases h1 with rfl | rfl
  ·exact .inr (.inr (.inl ⟨c, rfl, h⟩))
  ·exact .inr (.inr (.inr (.inr ⟨c, rfl, h⟩)))
 ·rename_i h1
  simp only [Bool.and_eq_true, decide_eq_true_eq, beqS_iff] at h
  obtain ⟨⟨rfl, h2⟩, h3⟩ := h
  have : k = 1 ∨ k = 2 ∨ k = 4 := by omega
  rcases this with rfl | rfl | rfl
  ·exact .inl rfl
  ·exact .inr (.inl rfl)
  ·exact .inr (.inr (.inr (.inl rfl)))
abbrev sL : Str := ⟨#[76]⟩
abbrev sB : Str := ⟨#[91]⟩
theorem Zj1 {c : Str} (h : clsW c = true) : textT ⟨3, c⟩ = sL ++ (c ++ smc) := by
 unfold textT
 rw [show rightT ⟨3, c⟩ = true from h, if_pos rfl, if_neg (by simp)]
 unfold text0
 rw [if_neg (by simp), if_neg (by simp), ByteArray.append_assoc]
theorem Zj2 {c : Str} (h : clsW c = true) : textT ⟨5, c⟩ = (sB ++ sL) ++ (c ++ smc) := by
 unfold textT
 rw [show rightT ⟨5, c⟩ = true from h, if_pos rfl, if_pos (by simp)]
 have e : elemT ⟨5, c⟩ = ⟨3, c⟩ := by unfold elemT; simp
 rw [e]
 unfold text0
 rw [if_neg (by simp), if_neg (by simp)]
 simp only [ByteArray.append_assoc]
theorem Zic (k : Nat) (t : Ty) (hr : rightT t = true) : (textT t).size ≤ 100 ∧ ACalls Try.prog 41 [.ptr k 2 0 0] (scH k (textT t) 0) (GivesH t.av (scH k (textT t) (textT t).size)) := by
 rcases Za3 hr with rfl | rfl | ⟨c, rfl, hc⟩ | rfl | ⟨c, rfl, hc⟩
 ·rw [show textT ⟨1, zS⟩ = ⟨#[86]⟩ by decide +kernel]
  exact ⟨by decide, Zid k ⟨#[86]⟩ 0 (by unfold small; decide) (by decide) (by decide)⟩
 ·rw [show textT ⟨2, zS⟩ = ⟨#[73]⟩ by decide +kernel]
  exact ⟨by decide, Zg7 k ⟨#[73]⟩ 0 (by unfold small; decide) (by decide) (by decide)⟩
 ·rw [Zj1 hc]
  obtain ⟨h1, h2⟩ := Z5h hc
  have hz : (sL ++ (c ++ smc)).size = c.size + 2 := by
   rw [ByteArray.size_append, ByteArray.size_append]
   show 1 + (c.size + 1) = _
   omega
  refine ⟨by rw [hz]; omega, Zg8 k _ c 0 (by unfold small; rw [hz]; omega) (by rw [hz]; omega) ?_ ?_ hc⟩
  ·rw [byL (by decide)]; decide
  ·exact Zir sL (c ++ smc)
 ·rw [show textT ⟨4, zS⟩ = ⟨#[91, 73]⟩ by decide +kernel]
  exact ⟨by decide, Zg6 k ⟨#[91, 73]⟩ zS 0 2 2 (by unfold small; decide) (by decide) (by decide) (.inl (by decide)) (by omega) (Zg7 k ⟨#[91, 73]⟩ 1 (by unfold small; decide) (by decide) (by decide))⟩
 ·rw [Zj2 hc]
  obtain ⟨h1, h2⟩ := Z5h hc
  have hz : ((sB ++ sL) ++ (c ++ smc)).size = c.size + 3 := by
   rw [ByteArray.size_append, ByteArray.size_append, ByteArray.size_append]
   show 1 + 1 + (c.size + 1) = _
   omega
  have hL : byteAt ((sB ++ sL) ++ (c ++ smc)) ((0 + 1 : Nat) : Int) = 76 := by rw [byL (by decide)]; decide
  refine ⟨by rw [hz]; omega, Zg6 k _ c 0 _ 3 (by unfold small; rw [hz]; omega) (by rw [hz]; omega) ?_ (.inr hL) (by omega) (Zg8 k _ c 1 (by unfold small; rw [hz]; omega) (by rw [hz]; omega) hL (Zir (sB ++ sL) (c ++ smc)) hc)⟩
  rw [byL (by decide)]; decide
end Go.Sx
namespace Go.Sx
open Go Go.Proofs
abbrev prH (i1 i2 : Nat) (u : Str) (t : Ty) : AHeap := [(i1, .rows 9 1 [[sA u]]), (i2, .rows 27 2 [t.cells])]
theorem Zem (i1 i2 : Nat) (t : Ty) (hr : rightT t = true) : ACalls Try.prog 40 [.ptr i1 1 0 0, .ptr i2 2 0 0] (prH i1 i2 (textT t) ⟨0, zS⟩) (GivesH (.tup []) (prH i1 i2 (textT t) t)) := by
 refine Zj (n := 10) Try.func40 rfl (by decide +kernel) rfl rfl ?_
 refine wk ?_
 refine Zjy (fun k => ?_)
 refine wk ?_
 refine Z7w (K := scH k (textT t) 0) (Fr := prH i1 i2 (textT t) ⟨0, zS⟩) (Zic k t hr).2 (.refl _) ?_
 refine wk ?_
 refine Z7w (K := scH k (textT t) (textT t).size) (Zi8 k (textT t)) (.refl _) ?_
 refine wk ?_
 exact Zr (fn := Try.f40) rfl Ze (.cons _ (.refl _)) (gvH rfl)
noncomputable def ck : Option (FrameMode × Hp × Nat) := evDc (evN Try.prog noK 100 40) Try.prog 100 62 [.ptr 0 1 0 0] .returning ⟨Tr.lf.put 0 (some (.rows 30 1 [[iA 0]])), []⟩ 1
theorem Zjr : ck = some (.returning, fH ck, fK ck) := by kernel_rfl
theorem Zij : (fH ck).get 0 = some (.rows 30 1 [[iA 0]]) := by kernel_rfl
theorem Zbn (k : Nat) : DCalls Try.prog 62 [.ptr k 1 0 0] .returning [(k, .rows 30 1 [[iA 0]])] .returning (fun H => H = [(k, .rows 30 1 [[iA 0]])]) := by
 have hE := Z7l (Z5o (K := noK) (by decide +kernel) (Z0s (by decide +kernel)) Z8v 40) (by decide +kernel) (Z0s (by decide +kernel)) _ _ _ _ _ _ _ _ Zjr
 have h := Z1u (Hc := [(0, .rows 30 1 [[iA 0]])]) (Hf := [(0, .rows 30 1 [[iA 0]])]) hE (by decide) (fun i ob hi => Z9z hi) ?_ rfl (by simp) ?_ (by simp) (fun _ => k)
 ·refine h.mono ?_
  rintro Hq ⟨ρ', hρ, rfl⟩
  show [(ρ' 0, AObj.rows 30 1 [[iA 0]])] = _
  rw [hρ 0 Nat.zero_lt_one]
 ·intro p hp
  rw [List.mem_singleton.1 hp]
  exact ⟨Nat.zero_lt_one, rfl, rfl⟩
 ·intro q hq
  rw [List.mem_singleton.1 hq]
  exact ⟨Zij, rfl, fun _ => List.mem_cons_self⟩
theorem Zjw {P : Program} {fn : Func} {s : St} {x : AV} {H' H1 H2 Fr : AHeap} {xs ys cs : List AV} {i g : Nat} (hc : DCalls P g (ys ++ cs) .returning H1 .returning (fun K => K = H2)) (hD : s.D = [i]) (hp : s.H.Perm ((i, .dfr (.func g) cs ys) :: (H1 ++ Fr))) (hres : Res P s.T (H2 ++ Fr) fn.results.toList xs) (hs : H'.Sublist (H2 ++ Fr)) (hx : mkRes xs = x) : RetD P fn (GivesH x H') .ret s :=
 ⟨.returning, rfl, .inr ⟨i, g, cs, ys, H1 ++ Fr, _, _, hD, hp, hc.frame (H1 ++ Fr) Fr (.refl _), fun K h2 => by
  obtain ⟨K', rfl, rfl⟩ := h2
  exact ⟨xs, hres, H', hs, congrArg _ hx, rfl⟩⟩⟩
abbrev caH (idd id : Nat) : AHeap := [(idd, .dfr (.func 62) [.ptr id 1 0 0] []), (id, .rows 30 1 [[iA 0]])]
theorem Zbm (i1 i2 : Nat) (t : Ty) (hr : rightT t = true) : ACalls Try.prog 39 [.fn (.func 40) [.ptr i1 1 0 0, .ptr i2 2 0 0]] (prH i1 i2 (textT t) ⟨0, zS⟩) (GivesH (iA 0) (prH i1 i2 (textT t) t)) := by
 refine Z4a (n := 6) Try.func39 rfl (by decide +kernel) rfl rfl ?_
 refine wk ?_
 refine Zl4 (fun id => ?_)
 refine wk ?_
 refine zE (Z2x rfl rfl) ?_
 refine zDf (fun idd => ?_)
 refine wk ?_
 refine Z7w (K := prH i1 i2 (textT t) ⟨0, zS⟩) (Fr := caH idd id) (Zem i1 i2 t hr) (List.perm_append_comm (l₁ := caH idd id)) ?_
 refine wk ?_
 exact Zjw (H1 := [(id, .rows 30 1 [[iA 0]])]) (Fr := prH i1 i2 (textT t) t) (ys := []) (Zbn id) rfl (List.perm_append_comm (l₁ := prH i1 i2 (textT t) t) (l₂ := caH idd id)) (Z1b 0 rfl rfl rfl Zo Ze) (.cons _ (.refl _)) rfl
theorem Zh2 (t : Ty) (hr : rightT t = true) : ACalls Try.prog 14 [sA (textT t)] [] (Gives (.tup [t.av, iA 0])) := by
 refine Zj (n := 11) Try.func14 rfl (by decide +kernel) rfl rfl ?_
 refine wk ?_
 refine Zjy (fun i1 => ?_)
 refine Zed (fun i2 => ?_)
 refine wk ?_
 refine zE (Z2x rfl rfl) ?_
 refine Z7w (K := prH i1 i2 (textT t) ⟨0, zS⟩) (Fr := []) (Zbm i1 i2 t hr) (List.Perm.swap _ _ []) ?_
 refine wk ?_
 exact Z0y rfl (Z1b 1 rfl rfl rfl Z2t (Zf rfl Ze)) (gvr rfl)
end Go.Sx
namespace Go.Sx
open Go Go.Proofs
section
variable {P : Program} {α : Type} {T : List (Nat × AV)} {o : Oper}
theorem Zhb {t e n : Nat} {p q : Operand} {f : α → List AV} {l : List α} {kd : IntKind} {k : Int} [h : UD P t (.slice e)] {bb : Bool} [k1 : TK P e bb n] (hf : ∀ a, (f a).length = n) (j : Nat) (hj : j < l.length) (ho : o.op = .indexAddr t p q) (hp : ev T p = some (.lst (l.map f))) (hq : ev T q = some (.v (.int kd k))) (hk : k = (j : Int)) : Eff P o T [] (.elt (l.map f) j 0) [] := by
 subst hk
 exact Z07 ho hp hq (fun e he => by obtain ⟨a, _, rfl⟩ := List.mem_map.1 he; exact hf a) (Int.natCast_nonneg _) (by simp only [List.length_map]; omega)
theorem Zhc {t c : Nat} {p : Operand} {f : α → List AV} {l : List α} {j : Nat} {x : AV} (hj : j < l.length) (ho : o.op = .load t p) (hp : ev T p = some (.elt (l.map f) j c)) (hx : Ld P t ((f l[j]).drop c) x) : Eff P o T [] x [] :=
 Z16 ho hp (by rw [List.getElem?_map, List.getElem?_eq_getElem hj]; rfl) hx
end
def goT (t : Ty) : Bool := decide (t.cls.size < 100) && rightT t
def txs (more : List Str) (l : List Ty) (i : Nat) : List Str := more ++ ((l.take i).filter goT).map textT
theorem Zft (more : List Str) (l : List Ty) {i : Nat} (hi : i < l.length) : txs more l (i + 1) = if goT l[i] then txs more l i ++ [textT l[i]] else txs more l i := by
 unfold txs
 rw [List.take_succ_eq_append_getElem hi, List.filter_append, List.map_append]
 by_cases h : goT l[i] = true
 ·simp [h]
 ·simp [h]
theorem Zhx (more : List Str) (l : List Ty) (i : Nat) : (txs more l i).length ≤ more.length + l.length := by
 unfold txs
 rw [List.length_append, List.length_map]
 have h1 := List.length_filter_le goT (l.take i)
 have h2 : (l.take i).length ≤ l.length := by rw [List.length_take]; omega
 omega
theorem Zhy (more : List Str) (l : List Ty) {i : Nat} (hi : i < l.length) (h : goT l[i] = true) : textT l[i] ∈ txs more l l.length := by
 unfold txs
 rw [List.take_length]
 exact List.mem_append_right _ (List.mem_map.2 ⟨_, List.mem_filter.2 ⟨List.getElem_mem hi, h⟩, rfl⟩)
theorem Z7b : ACalls Try.prog 6 [] [] (Gives (bA true)) := Z7y Z8v (L := 2000) (m := 40) (by decide +kernel) (by decide +kernel) (by kernel_rfl)
theorem Zk4 {P : Program} {ops : Array Oper} {rest : List Oper} {T : List (Nat × AV)} {H : AHeap} {D : List Nat} {n d ty : Nat} {po : String} {af : Array Edge} {op : Op} {x : AV} {H0 : AHeap} {KK : St → Prop} {kk : Nat} {M : List (Nat × (Nat × AObj))} {g gt : Nat} {gb : Bool} {og : Oper} (he : Eff P { dst := some d, op := op, type := ty, pos := po, after := af, guard := some (g, gb) } T [] x []) (h : Calm P ops H0 KK (kk + 1) rest M ⟨(d, x) :: T, H, D, n⟩) (g1 : ops[g]? = some og := by rfl) (g2 : og.dst = some gt := by rfl) (g3 : lk T gt = some (.v (.bool gb)) := by rfl) (hd : Nat.blt d n = true := by rfl) : Calm P ops H0 KK kk ({ dst := some d, op := op, type := ty, pos := po, after := af, guard := some (g, gb) } :: rest) M ⟨T, H, D, n⟩ := Z9 (wY rfl g1 g2 g3) hd he h
set_option maxHeartbeats 4000000 in
theorem c_topTypes (l : List Ty) (hl : small l.length) (hc : ∀ t, t ∈ l → small t.cls.size) (more : List Str) (hm : small more.length) : ACalls Try.prog 3 [.lst (l.map Ty.cells), row1 sA more] [] (Gives (bA true)) := by
 refine Zj (n := 135) Try.func3 rfl (by decide +kernel) rfl rfl ?_
 refine wk ?_
 rw [List.length_map]
 simp only [small] at hl hm
 by_cases h1 : l.length ≤ 60
 rotate_left
 ·rw [show decide ((l.length : Int) > 60) = true from decide_eq_true (by omega)]
  refine wk ?_
  refine zCG Z7b ?_
  refine wk ?_
  exact Z0y rfl (Zf rfl Ze) (gvr rfl)
 rw [show decide ((l.length : Int) > 60) = false from decide_eq_false (by omega)]
 refine wk ?_
 rw [List.length_map]
 by_cases h2 : more.length ≤ 60
 rotate_left
 ·rw [show decide ((more.length : Int) > 60) = true from decide_eq_true (by omega)]
  refine wk ?_
  refine zCG Z7b ?_
  refine wk ?_
  exact Z0y rfl (Zf rfl Ze) (gvr rfl)
 rw [show decide ((more.length : Int) > 60) = false from decide_eq_false (by omega)]
 refine qcF ?_
 refine qK ?_
 refine tqN ?_
 refine qS ?_
 refine qR ?_
 refine Z15 (w0 rfl) rfl (fun id => Z9l id 9 1 (.inl rfl) rfl) (fun id => ?_)
 refine wk ?_
 refine Z14 0 (w0 rfl) rfl rfl rfl rfl rfl rfl ⟨rfl, Z17 (fun _ => rfl)⟩ (by simp; omega) (by simp [maxLen]; omega) (fun id3 => ?_)
 refine wk ?_
 refine Z06 (α := Nat × Nat) (fun y => ⟨[(6, iA y.2), (0, .lst (l.map Ty.cells)), (5, .own y.1 1 0 (txs more l y.2).length)], [(y.1, .rows 9 1 ((txs more l y.2).map fun s => [sA s]))], [], 135⟩) (fun y => y.2 ≤ l.length) (fun y => l.length - y.2) (id3, 0) (Nat.zero_le _) (Zc [0] ⟨rfl, rfl, (by show some (AV.own _ _ _ _) = some (AV.own _ _ _ _); simp [txs]), trivial⟩ (by show some [(_, AObj.rows _ _ _)] = some [(_, AObj.rows _ _ _)]; simp [txs]) (by decide) rfl rfl) ?_
 rintro ⟨id, i⟩ hJ
 simp only at hJ
 have htl := Zhx more l i
 refine wk ?_
 rw [List.length_map]
 refine Za rfl (fun hc => ?_) (fun hc => ?_)
 ·have hi : i < l.length := by simpa using hc
  clear hc
  refine wk ?_
  refine zE (Zhb (f := Ty.cells) (n := 2) (fun _ => rfl) i hi rfl rfl rfl rfl) ?_
  refine wk ?_
  refine zE (Zhc (f := Ty.cells) (x := sA l[i].cls) hi rfl rfl Zo) ?_
  have ht := Zft more l hi
  have hcs := hc l[i] (List.getElem_mem hi)
  refine wk ?_
  by_cases h3 : l[i].cls.size < 100
  rotate_left
  ·rw [show goT l[i] = false by unfold goT; rw [decide_eq_false h3]; rfl] at ht
   rw [show decide ((l[i].cls.size : Int) < 100) = false from decide_eq_false (by omega)]
   refine wk ?_
   exact ⟨(id, i + 1), (by show i + 1 ≤ l.length; omega), (by show l.length - (i + 1) < l.length - i; omega), Zc [0] ⟨rfl, rfl, (by show some (AV.own _ _ _ _) = some (AV.own _ _ _ _); rw [ht]; simp), trivial⟩ (by show some [(_, AObj.rows _ _ _)] = some [(_, AObj.rows _ _ _)]; rw [ht]; simp) (by decide) rfl rfl⟩
  rw [show decide ((l[i].cls.size : Int) < 100) = true from decide_eq_true (by omega)]
  refine wk ?_
  refine zTE (Zhb (f := Ty.cells) (n := 2) (fun _ => rfl) i hi rfl rfl rfl rfl) ?_
  refine zTE (Zhc (f := Ty.cells) (x := l[i].av) hi rfl rfl Z2t) ?_
  refine zTE (Zp [] rfl rfl rfl (Z4y l[i] hcs) List.nodup_nil) ?_
  refine wk ?_
  cases h4 : rightT l[i] with
  | false =>
   rw [show goT l[i] = false by unfold goT; rw [h4, Bool.and_false]] at ht
   refine wk ?_
   exact ⟨(id, i + 1), (by show i + 1 ≤ l.length; omega), (by show l.length - (i + 1) < l.length - i; omega), Zc [0] ⟨rfl, rfl, (by show some (AV.own _ _ _ _) = some (AV.own _ _ _ _); rw [ht]; simp), trivial⟩ (by show some [(_, AObj.rows _ _ _)] = some [(_, AObj.rows _ _ _)]; rw [ht]; simp) (by decide) rfl rfl⟩
  | true =>
  rw [show goT l[i] = true by unfold goT; rw [h4, decide_eq_true h3]; rfl, if_pos rfl] at ht
  refine wk ?_
  refine zE (Zhb (f := Ty.cells) (n := 2) (fun _ => rfl) i hi rfl rfl rfl rfl) ?_
  refine zE (Zhc (f := Ty.cells) (x := l[i].av) hi rfl rfl Z2t) ?_
  refine zCG (Zcp l[i] hcs) ?_
  refine Z15 (w0 rfl) rfl (fun id => Z0o id (ps := [(0, .tmp 53)]) rfl rfl rfl rfl rfl rfl rfl rfl) (fun id4 => ?_)
  refine Z14 1 (w0 rfl) rfl rfl rfl rfl (by simp) rfl ⟨rfl, _, _, List.mem_of_getElem? (i := 0) rfl, by simp, rfl⟩ (by simp; omega) (by simp [maxLen]; omega) (fun id5 => ?_)
  refine wk ?_
  exact ⟨(id5, i + 1), (by show i + 1 ≤ l.length; omega), (by show l.length - (i + 1) < l.length - i; omega), Zc [1] ⟨rfl, rfl, (by show some (AV.own _ _ _ _) = some (AV.own _ _ _ _); rw [ht]; simp), trivial⟩ (by show some [(_, AObj.rows _ _ _)] = some [(_, AObj.rows _ _ _)]; rw [ht]; simp [cellsA]) (by decide) rfl rfl⟩
 ·have hi : ¬ i < l.length := by simpa using hc
  clear hc
  have hi : i = l.length := by omega
  subst hi
  refine Z1e (s' := ⟨[(5, row1 sA (txs more l l.length)), (0, .lst (l.map Ty.cells))], [], [], 135⟩) (Z2s 0 5 (T' := [(0, .lst (l.map Ty.cells))]) rfl rfl (by simp only [List.length_map]) ⟨rfl, trivial⟩) ?_
  refine wk ?_
  have hmem := fun (j : Nat) (hj : j < l.length) (h : goT l[j] = true) => Zhy more l hj h
  generalize txs more l l.length = x at htl hmem
  refine zCG (Zib x (by omega)) ?_
  refine wk ?_
  by_cases h0 : (makeP x).2 = 0
  rotate_left
  ·rw [show makeP x = ([], 3) by unfold makeP at h0 ⊢; split at h0; rename_i h5; rw [if_pos h5]; exact absurd rfl h0]
   refine zCG (Zg9 [] (by unfold small; decide) (by decide +kernel)) ?_
   refine wk ?_
   refine zCG Z7b ?_
   refine wk ?_
   exact Z0y rfl (Zf rfl Ze) (gvr rfl)
  rw [h0]
  obtain ⟨h3, h4⟩ := Zff h0
  rw [h3]
  have hpm := fun (j : Nat) (hj : j < l.length) (h : goT l[j] = true) => (Zb6 x _).2 (hmem j hj h)
  generalize risF x = p at h4 hpm
  have hps := (Z2p h4).1
  have hpl : (poolL p).length ≤ 100000 := by have := Zfm p; unfold putB at this; rw [if_pos h4] at this; omega
  refine zCG (Zg9 p (by unfold small; omega) h4) ?_
  refine wk ?_
  refine zCP [] [] (.refl _) (Zie (poolL p) (by unfold small; omega)) (fun k _ => ?_)
  have ht := Zh5 k (poolL p) (Zdq h4) (by unfold small; omega) (0, 0, 0)
  rw [Zjj h4, show resT (p, (((poolL p).length : Nat) : Int), 0, 0) = row1 sA p from if_pos rfl] at ht
  refine zCW ht ?_
  refine wk ?_
  refine Z06 (α := Nat) (fun i => ⟨[(12, iA i), (0, .lst (l.map Ty.cells)), (11, row1 sA p)], [], [], 135⟩) (fun i => i ≤ l.length) (fun i => l.length - i) 0 (Nat.zero_le _) (Zc [] ⟨rfl, rfl, rfl, trivial⟩ rfl (by decide) rfl rfl) ?_
  intro i hi
  refine wk ?_
  rw [List.length_map]
  refine Za rfl (fun hc => ?_) (fun hc => ?_)
  rotate_left
  ·clear hc
   refine wk ?_
   refine zCG Z7b ?_
   refine wk ?_
   exact Z0y rfl (Zf rfl Ze) (gvr rfl)
  have hi : i < l.length := by simpa using hc
  clear hc
  have hcs := hc l[i] (List.getElem_mem hi)
  refine wk ?_
  refine zE (Zhb (f := Ty.cells) (n := 2) (fun _ => rfl) i hi rfl rfl rfl rfl) ?_
  refine wk ?_
  refine zE (Zhc (f := Ty.cells) (x := sA l[i].cls) hi rfl rfl Zo) ?_
  refine wk ?_
  by_cases h5 : l[i].cls.size < 100
  rotate_left
  ·rw [show decide ((l[i].cls.size : Int) ≥ 100) = true from decide_eq_true (by omega)]
   refine wk ?_
   exact ⟨i + 1, (by show i + 1 ≤ l.length; omega), (by show l.length - (i + 1) < l.length - i; omega), Zc [] ⟨rfl, rfl, rfl, trivial⟩ rfl (by decide) rfl rfl⟩
  rw [show decide ((l[i].cls.size : Int) ≥ 100) = false from decide_eq_false (by omega)]
  refine wk ?_
  refine zYE (Zhb (f := Ty.cells) (n := 2) (fun _ => rfl) i hi rfl rfl rfl rfl) ?_
  refine zYE (Zhc (f := Ty.cells) (x := l[i].av) hi rfl rfl Z2t) ?_
  refine zYE (Zp [] rfl rfl rfl (Z4y l[i] hcs) List.nodup_nil) ?_
  refine wk ?_
  cases h6 : rightT l[i] with
  | false =>
   refine wk ?_
   exact ⟨i + 1, (by show i + 1 ≤ l.length; omega), (by show l.length - (i + 1) < l.length - i; omega), Zc [] ⟨rfl, rfl, rfl, trivial⟩ rfl (by decide) rfl rfl⟩
  | true =>
  refine wk ?_
  refine zE (Zhb (f := Ty.cells) (n := 2) (fun _ => rfl) i hi rfl rfl rfl rfl) ?_
  refine zE (Zhc (f := Ty.cells) (x := l[i].av) hi rfl rfl Z2t) ?_
  refine zCG (Zcp l[i] hcs) ?_
  refine zCG (Zgy p (by unfold small; omega) (textT l[i])) ?_
  refine Zbx h4 (hpm i hi (by unfold goT; rw [h6, decide_eq_true h5]; rfl)) (fun q hq hfq hpq => ?_)
  rw [hfq]
  refine wk ?_
  rw [show decide ((q : Int) < 0) = false from decide_eq_false (by omega)]
  refine wk ?_
  rw [List.length_map, show decide ((q : Int) ≥ p.length) = false from decide_eq_false (by omega)]
  refine wk ?_
  refine zE (eIx q hq rfl rfl rfl rfl) ?_
  refine zE (eLx hq rfl rfl) ?_
  rw [← Z1c hq, hpq]
  refine zCG (Zh2 l[i] h6) ?_
  refine wk ?_
  refine Zed (fun id => ?_)
  refine wk ?_
  refine Zk4 (Zhb (f := Ty.cells) (n := 2) (fun _ => rfl) i hi rfl rfl rfl rfl) ?_
  refine Zk4 (Zhc (f := Ty.cells) (x := l[i].av) hi rfl rfl Z2t) ?_
  refine Zk4 (Zz (y := bA false) (Z4i rfl rfl rfl rfl rfl) (congrArg bA (by rw [show ceqs [iA l[i].kind, sA l[i].cls] l[i].cells = true by simp [ceqs, ceq, Ty.cells]]; rfl))) ?_
  refine wk ?_
  exact ⟨i + 1, (by show i + 1 ≤ l.length; omega), (by show l.length - (i + 1) < l.length - i; omega), Zc [] ⟨rfl, rfl, rfl, trivial⟩ rfl (by decide) rfl rfl⟩
end Go.Sx
