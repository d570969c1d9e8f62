/- YtcadlppohbngnaaRaB4: texts of this claim, one behind the other. -/
import Derived.Test.YtcadlppohbngnaaRaB3
set_option linter.unusedVariables false
set_option linter.unusedSimpArgs false
set_option linter.unusedSectionVars false
set_option linter.unnecessarySimpa false
namespace Go.Sx
open Go
theorem Calm.tellV {V : Nat → Prop} {k0 : Nat} (hV : ∀ i, k0 ≤ i → V i) {P : Program} {ops : Array Oper} {H0 : AHeap} {K : St → Prop} {T0 : List (Nat × AV)} {D : List Nat} {n : Nat} (L : List Nat) {k : Nat} {l : List Oper} {M : List (Nat × (Nat × AObj))} {s : St}
  (h : Calm P ops H0 K k l M s) : k0 ≤ k → ∀ (xs : Nat → AV) (os : Nat → AHeap), ops.toList.drop k = l ++ ops.toList.drop (k + l.length) → s = ⟨TT ops xs T0 k, HH os H0 k, D, n⟩ → (∀ i, i < k → V i → Good P ops n xs os T0 H0 i) →
   (∀ j p, (j, p) ∈ M → j < k ∧ p ∈ os j) → (∀ i p, i < k → p ∈ os i → p.1 ∉ L) → (∀ i j p q, i < k → j < k → p ∈ os i → q ∈ os j → p.1 = q.1 → i = j) → (∀ i, i < k → ((os i).map Prod.fst).Nodup) →
   ∃ (ys : Nat → AV) (ps : Nat → AHeap), K ⟨TT ops ys T0 (k + l.length), HH ps H0 (k + l.length), D, n⟩ ∧ (∀ i, i < k + l.length → V i → Good P ops n ys ps T0 H0 i) ∧ (∀ i, i < k → ys i = xs i ∧ ps i = os i) ∧
    (∀ i p, i < k + l.length → p ∈ ps i → p.1 ∉ L) ∧ (∀ i j p q, i < k + l.length → j < k + l.length → p ∈ ps i → q ∈ ps j → p.1 = q.1 → i = j) ∧ (∀ i, i < k + l.length → ((ps i).map Prod.fst).Nodup) := by
 -- one step: the value x and the things obs at place k
 have step : ∀ (k : Nat) (o : Oper) (r : List Oper) (M : List (Nat × (Nat × AObj))) (xs : Nat → AV) (os : Nat → AHeap) (x : AV) (obs : AHeap), ops[k]? = some o →
   (∀ i, i < k → V i → Good P ops n xs os T0 H0 i) →
   (dok o.dst n = true ∧ ((Wanted ops (TT ops xs T0 k) o false ∧ x = .v undef ∧ obs = []) ∨
    (Wanted ops (TT ops xs T0 k) o true ∧ ∃ Hn, Eff P o (TT ops xs T0 k) Hn x obs ∧ ∀ p, p ∈ Hn → p ∈ H0 ∨ ∃ j, j < k ∧ p ∈ os j ∧ anc ops k k j = true))) →
   ∃ (ys : Nat → AV) (ps : Nat → AHeap), (∀ i, i < k → ys i = xs i) ∧ (∀ i, i < k → ps i = os i) ∧ ys k = x ∧ ps k = obs ∧ (∀ i, i < k + 1 → V i → Good P ops n ys ps T0 H0 i) := by
  intro k o r M xs os x obs ho hg hx
  refine ⟨fun i => if i = k then x else xs i, fun i => if i = k then obs else os i, fun i hi => if_neg (by omega), fun i hi => if_neg (by omega), if_pos rfl, if_pos rfl, ?_⟩
  intro i hi hvi
  rcases Nat.lt_or_ge i k with hlt | hge
  ·exact (hg i hlt hvi).congr (fun j hj => (if_neg (by omega)).symm) (fun j hj => (if_neg (by omega)).symm)
  ·have e : i = k := by omega
   subst e
   obtain ⟨hd, hx⟩ := hx
   refine ⟨o, ho, hd, ?_⟩
   have e1 : TT ops (fun j => if j = i then x else xs j) T0 i = TT ops xs T0 i := Zb i (fun j hj => if_neg (by omega))
   simp only [e1, if_true]
   rcases hx with hx | ⟨hw, Hn, he, hn⟩
   ·exact .inl hx
   ·refine .inr ⟨hw, Hn, he, fun p hp => (hn p hp).imp id (fun ⟨j, a, b, c⟩ => ⟨j, a, ?_, c⟩)⟩
    rw [if_neg (by omega)]; exact b
 induction h with
 | done h =>
  intro hk0 xs os hl hs hg hM hL hij hnd
  subst hs
  exact ⟨xs, os, h, hg, fun _ _ => ⟨rfl, rfl⟩, hL, hij, hnd⟩
 | @eff k o r M s Hn x hw hd he hn h ih =>
  intro hk0 xs os hl hs hg hM hL hij hnd
  subst hs
  obtain ⟨h1, h2⟩ := Z3 (l := ops.toList) (k := k) (o := o) (r := r ++ ops.toList.drop (k + (o :: r).length)) hl
  have ho : ops[k]? = some o := by rw [← Array.getElem?_toList]; exact h1
  obtain ⟨ys, ps, e1, e2, e3, e4, e5⟩ := step k o r M xs os x [] ho hg ⟨hd, .inr ⟨hw, Hn, he, fun p hp => (hn p hp).imp id (fun ⟨j, a, b⟩ => ⟨j, (hM j p a).1, (hM j p a).2, b⟩)⟩⟩
  have hlen : k + (o :: r).length = k + 1 + r.length := by simp; omega
  rw [hlen]
  obtain ⟨y2, p2, z1, z2, z3, z4⟩ := ih (by omega) ys ps (by rw [h2, hlen]) (by
    simp only [TT, HH, ho, Option.bind_some, e3, e4, List.nil_append]
    rw [Zb k e1, Z0v k e2]) e5 (by
    intro j p hp; obtain ⟨a, b⟩ := hM j p hp; exact ⟨by omega, by rw [e2 j a]; exact b⟩) (by
    intro i p hi hp
    rcases Nat.lt_or_ge i k with hlt | hge
    ·rw [e2 i hlt] at hp; exact hL i p hlt hp
    ·have : i = k := by omega
     subst this; rw [e4] at hp; cases hp) (by
    intro i j p q hi hj hp hq hpq
    rcases Nat.lt_or_ge i k with hlt | hge <;> rcases Nat.lt_or_ge j k with hlt' | hge'
    ·rw [e2 i hlt] at hp; rw [e2 j hlt'] at hq; exact hij i j p q hlt hlt' hp hq hpq
    ·have : j = k := by omega
     subst this; rw [e4] at hq; cases hq
    ·have : i = k := by omega
     subst this; rw [e4] at hp; cases hp
    ·omega) (by
    intro i hi
    rcases Nat.lt_or_ge i k with hlt | hge
    ·rw [e2 i hlt]; exact hnd i hlt
    ·have : i = k := by omega
     subst this; rw [e4]; exact List.nodup_nil)
  exact ⟨y2, p2, z1, z2, fun i hi => ⟨(z3 i (by omega)).1.trans (e1 i hi), (z3 i (by omega)).2.trans (e2 i hi)⟩, z4⟩
 | @eff1 k o r M s Hn x ob hw hd he hn h ih =>
  intro hk0 xs os hl hs hg hM hL hij hnd
  subst hs
  obtain ⟨h1, h2⟩ := Z3 (l := ops.toList) (k := k) (o := o) (r := r ++ ops.toList.drop (k + (o :: r).length)) hl
  have ho : ops[k]? = some o := by rw [← Array.getElem?_toList]; exact h1
  obtain ⟨id, hid⟩ := Z4b (L ++ ((List.range k).flatMap fun i => (os i).map Prod.fst))
  rw [List.mem_append, not_or] at hid
  have hidn : ∀ i p, i < k → p ∈ os i → p.1 ≠ id := by
   intro i p hi hp e
   exact hid.2 (List.mem_flatMap.2 ⟨i, List.mem_range.2 hi, List.mem_map.2 ⟨p, hp, e⟩⟩)
  obtain ⟨ys, ps, e1, e2, e3, e4, e5⟩ := step k o r M xs os (x id) [(id, ob id)] ho hg ⟨hd, .inr ⟨hw, Hn, he id, fun p hp => (hn p hp).imp (fun a => a) (fun ⟨j, a, b⟩ => ⟨j, (hM j p a).1, (hM j p a).2, b⟩)⟩⟩
  have hlen : k + (o :: r).length = k + 1 + r.length := by simp; omega
  rw [hlen]
  obtain ⟨y2, p2, z1, z2, z3, z4⟩ := ih id (by omega) ys ps (by rw [h2, hlen]) (by
    simp only [TT, HH, ho, Option.bind_some, e3, e4, List.cons_append, List.nil_append]
    rw [Zb k e1, Z0v k e2]) e5 (by
    intro j p hp
    rcases List.mem_cons.1 hp with hp | hp
    ·cases hp; exact ⟨by omega, by rw [e4]; exact List.mem_cons_self⟩
    ·obtain ⟨a, b⟩ := hM j p hp; exact ⟨by omega, by rw [e2 j a]; exact b⟩) (by
    intro i p hi hp
    rcases Nat.lt_or_ge i k with hlt | hge
    ·rw [e2 i hlt] at hp; exact hL i p hlt hp
    ·have : i = k := by omega
     subst this; rw [e4] at hp; simp at hp; subst hp; exact hid.1) (by
    intro i j p q hi hj hp hq hpq
    rcases Nat.lt_or_ge i k with hlt | hge <;> rcases Nat.lt_or_ge j k with hlt' | hge'
    ·rw [e2 i hlt] at hp; rw [e2 j hlt'] at hq; exact hij i j p q hlt hlt' hp hq hpq
    ·have : j = k := by omega
     subst this; rw [e4] at hq; simp at hq; subst hq
     rw [e2 i hlt] at hp; exact (hidn i p hlt hp hpq).elim
    ·have : i = k := by omega
     subst this; rw [e4] at hp; simp at hp; subst hp
     rw [e2 j hlt'] at hq; exact (hidn j q hlt' hq hpq.symm).elim
    ·omega) (by
    intro i hi
    rcases Nat.lt_or_ge i k with hlt | hge
    ·rw [e2 i hlt]; exact hnd i hlt
    ·have : i = k := by omega
     subst this; rw [e4]; simp)
  exact ⟨y2, p2, z1, z2, fun i hi => ⟨(z3 i (by omega)).1.trans (e1 i hi), (z3 i (by omega)).2.trans (e2 i hi)⟩, z4⟩
 | @off k o r M s hw hd h ih =>
  intro hk0 xs os hl hs hg hM hL hij hnd
  subst hs
  obtain ⟨h1, h2⟩ := Z3 (l := ops.toList) (k := k) (o := o) (r := r ++ ops.toList.drop (k + (o :: r).length)) hl
  have ho : ops[k]? = some o := by rw [← Array.getElem?_toList]; exact h1
  obtain ⟨ys, ps, e1, e2, e3, e4, e5⟩ := step k o r M xs os (.v undef) [] ho hg ⟨hd, .inl ⟨hw, rfl, rfl⟩⟩
  have hlen : k + (o :: r).length = k + 1 + r.length := by simp; omega
  rw [hlen]
  obtain ⟨y2, p2, z1, z2, z3, z4⟩ := ih (by omega) ys ps (by rw [h2, hlen]) (by
    simp only [TT, HH, ho, Option.bind_some, e3, e4, List.nil_append]
    rw [Zb k e1, Z0v k e2]) e5 (by
    intro j p hp; obtain ⟨a, b⟩ := hM j p hp; exact ⟨by omega, by rw [e2 j a]; exact b⟩) (by
    intro i p hi hp
    rcases Nat.lt_or_ge i k with hlt | hge
    ·rw [e2 i hlt] at hp; exact hL i p hlt hp
    ·have : i = k := by omega
     subst this; rw [e4] at hp; cases hp) (by
    intro i j p q hi hj hp hq hpq
    rcases Nat.lt_or_ge i k with hlt | hge <;> rcases Nat.lt_or_ge j k with hlt' | hge'
    ·rw [e2 i hlt] at hp; rw [e2 j hlt'] at hq; exact hij i j p q hlt hlt' hp hq hpq
    ·have : j = k := by omega
     subst this; rw [e4] at hq; cases hq
    ·have : i = k := by omega
     subst this; rw [e4] at hp; cases hp
    ·omega) (by
    intro i hi
    rcases Nat.lt_or_ge i k with hlt | hge
    ·rw [e2 i hlt]; exact hnd i hlt
    ·have : i = k := by omega
     subst this; rw [e4]; exact List.nodup_nil)
  exact ⟨y2, p2, z1, z2, fun i hi => ⟨(z3 i (by omega)).1.trans (e1 i hi), (z3 i (by omega)).2.trans (e2 i hi)⟩, z4⟩
section
variable {P : Program} {ro : Option Nat} {ops : Array Oper}
def tidyC (ops : Array Oper) (ms : List Nat) (m : Nat) : Bool := Nat.blt m ops.size && (okEdges ops && (okCert ops ms && (okDst ops ops.size && (okLooksM ops ms ops.size && ((List.range m).all (fun j => bitOf ms m j) && (List.range (ops.size - (m + 1))).all (fun d => bitOf ms (m + 1 + d) m))))))
theorem Zb0 {xs : Nat → AV} {T0 : List (Nat × AV)} {np j t : Nat} (hD : okDst ops np = true) (hj : (ops[j]?).bind (·.dst) = some t) : ∀ k, k ≤ np → j < k → lk (TT ops xs T0 k) t = some (xs j)
 | 0, _, h => absurd h (Nat.not_lt_zero _)
 | k + 1, hk, h => by
  show lk (put (TT ops xs T0 k) ((ops[k]?).bind (·.dst)) (xs k)) t = _
  rcases Nat.eq_or_lt_of_le (Nat.le_of_lt_succ h) with rfl | h2
  ·rw [hj]; simp [Sx.put, lk]
  ·have ih := Zb0 (xs := xs) (T0 := T0) hD hj k (by omega) h2
   cases hb : (ops[k]?).bind (·.dst) with
   | none => exact ih
   | some d =>
    have h3 := List.all_eq_true.1 (List.all_eq_true.1 hD k (List.mem_range.2 (by omega))) j (List.mem_range.2 h2)
    rw [hb, hj] at h3
    have hne : Nat.beq d t = false := by simpa using h3
    simp only [Sx.put, lk, hne, cond_false]
    exact ih
theorem Zay {ps : Nat → AHeap} {H : AHeap} : ∀ (i : Nat), (∀ j, j < i → ps j = []) → HH ps H i = H
 | 0, _ => rfl
 | i + 1, h => by
  show ps i ++ HH ps H i = H
  rw [h i (Nat.lt_succ_self _), List.nil_append, Zay i fun j hj => h j (by omega)]
theorem Z88 {Q : Exit → St → Prop} {s : St} {id : Nat} (ms : List Nat) (pre tail : List Oper) (om : Oper) {l : List Oper} (hl : l = pre ++ om :: tail) (hm : P.follows .mixedOrders = true) (ht : tidyC l.toArray ms pre.length = true)
  (h : Calm P l.toArray s.H (fun s1 => Wanted l.toArray s1.T om true ∧ Step P ro om (fun s2 => (∃ x, s2.T = put s1.T om.dst x) ∧ s2.D = s1.D ∧ s2.n = s1.n ∧ Calm P l.toArray s2.H (fun s3 => Q .normal s3) (pre.length + 1) tail [] s2) (fun ch => Q (.panic ch)) s1) 0 pre [] s) :
  AWp P ro (.region id l.toArray true) Q s := by
 intro Z C0 H0 w0 C a w he hs
 refine wpIn_region_any hm ?_
 generalize hops : l.toArray = ops at *
 have hopl : ops.toList = pre ++ om :: tail := by rw [← hops, hl]
 have hsz : ops.size = pre.length + 1 + tail.length := by rw [← Array.length_toList, hopl]; simp; omega
 simp only [tidyC, Bool.and_eq_true] at ht
 obtain ⟨hmlt, hE, hce, hD, hLm, hpre, hsuf⟩ := ht
 have hmlt : pre.length < ops.size := by rwa [Nat.blt_eq] at hmlt
 have hbit : ∀ i j, i < ops.size → j < i → bitOf ms i j = true → anc ops i i j = true := fun i j hi hj hb => Z31 hE hce i hi j hj hb
 have hLk : okLooks ops ops.size = true := by
  refine List.all_eq_true.2 fun i hi => ?_
  have h7 := List.all_eq_true.1 hLm i hi
  have hi' : i < ops.size := List.mem_range.1 hi
  rw [Array.getElem?_eq_getElem hi'] at h7 ⊢
  refine List.all_eq_true.2 fun t ht => List.all_eq_true.2 fun j hj => ?_
  have h8 := List.all_eq_true.1 (List.all_eq_true.1 h7 t ht) j hj
  simp only [Bool.or_eq_true, Bool.and_eq_true] at h8 ⊢
  exact h8.imp (fun z => z) fun h9 => ⟨h9.1, hbit i j hi' (Nat.blt_eq ▸ h9.1) h9.2⟩
 have hD1 : okDst ops pre.length = true := by
  refine List.all_eq_true.2 fun i hi => ?_
  have := List.mem_range.1 hi
  exact List.all_eq_true.1 hD i (List.mem_range.2 (by omega))
 have hL1 : okLooks ops pre.length = true := by
  refine List.all_eq_true.2 fun i hi => ?_
  have hi2 := List.mem_range.1 hi
  have h7 := List.all_eq_true.1 hLk i (List.mem_range.2 (by omega))
  cases ho : ops[i]? with
  | none => rw [ho] at h7; cases h7
  | some o =>
   rw [ho] at h7
   simp only
   refine List.all_eq_true.2 fun t ht => List.all_eq_true.2 fun j hj => ?_
   have := List.mem_range.1 hj
   exact List.all_eq_true.1 (List.all_eq_true.1 h7 t ht) j (List.mem_range.2 (by omega))
 obtain ⟨ys, ps, h1, h2, h3, h4, h5⟩ := h.tell (T0 := s.T) (D := s.D) (n := s.n) (C.U ++ Z) (fun _ => .v undef) (fun _ => []) (by rw [hopl]; simp) rfl (fun i hi => absurd hi (Nat.not_lt_zero _)) (fun j p hp => nomatch hp) (fun i p hi => absurd hi (Nat.not_lt_zero _)) (fun i j p q hi => absurd hi (Nat.not_lt_zero _)) (fun i hi => absurd hi (Nat.not_lt_zero _))
 simp only [Nat.zero_add] at h1 h2 h3 h4 h5
 obtain ⟨hwant, hstep⟩ := h1
 have hom : ops[pre.length]? = some om := by rw [← Array.getElem?_toList, hopl]; simp
 have hw1 : WR C s.H { w with drawn := w.drawn + 1 } := ⟨hs.wr.hp, hs.wr.nd, fun i o hi => ⟨(hs.wr.ids i o hi).1, (hs.wr.ids i o hi).2.keep (.refl C) (hs.wr.ids i o hi).1 (fun _ _ _ => rfl)⟩, hs.wr.inj, hs.wr.dis⟩
 have he1 : Ext Z C0 H0 w0 C s.H { w with drawn := w.drawn + 1 } := ⟨he.le, he.av, he.os, he.tape, he.output, he.size, he.fr, he.nhp, he.nbl, he.nid⟩
 have hf : ∀ i, (Array.replicate ops.size false).getD i false = false := by
  intro i
  rw [Array.getD_eq_getD_getElem?, Array.getElem?_replicate]
  split <;> rfl
 have hflat : (List.range pre.length).flatMap (fun j => if (Array.replicate ops.size false).getD j false = true then ps j else []) = [] := by
  rw [List.flatMap_eq_nil_iff]
  intro j hj
  rw [if_neg (by rw [hf]; nofun)]
 refine Z7f (C0 := C0) (H0 := H0) (w0 := w0) (Z := Z) (np := pre.length) (U := fun _ => True) (s := s) (ys := ys) (ps := ps) (by omega) hE hD1 hL1 (fun i hi _ => h2 i hi) (fun i p hi hp hz => h3 i p hi hp (List.mem_append_right _ hz)) h4 h5 (fun _ _ _ _ hn => absurd hn (by omega)) ?_ ops.size _ _ _ C (by simp) ?_ (fun i _ _ => hf i) (fun _ _ _ => trivial) ?_
 rotate_left
 ·unfold left
  rw [List.filter_eq_self.2 (fun i _ => by rw [hf]; rfl), List.length_range]
 ·exact ⟨by rw [hflat]; exact hw1, fun t x hx _ => hs.sl t x hx, fun j t _ hj => (by rw [hf] at hj; cases hj), hs.df, hs.du, hs.sz, fun j p hj _ hp => fun hu => h3 j p hj hp (List.mem_append_left _ hu), by rw [hflat]; exact he1, fun i o _ hi => (by rw [hf] at hi; cases hi)⟩
 -- the operation that changes something
 intro fuel listed a1 w1 C1 i hls hleft hun _ hI hin hi
 obtain ⟨hil, o, ho, hdeps⟩ := mem_ready.1 hi
 have hlt : i < ops.size := (Array.getElem?_eq_some_iff.1 ho).1
 have hi' : i = pre.length := by
  rcases Nat.lt_or_ge pre.length i with h | h
  ·have h7 := List.all_eq_true.1 hsuf (i - (pre.length + 1)) (List.mem_range.2 (by omega))
   rw [show pre.length + 1 + (i - (pre.length + 1)) = i from by omega] at h7
   have := Zu hI.dn i i pre.length o ho hdeps (hbit i pre.length hlt h h7)
   rw [hun pre.length (Nat.le_refl _) hmlt] at this; cases this
  ·omega
 subst hi'
 rw [hom] at ho
 cases ho
 have hall : ∀ j, j < pre.length → listed.getD j false = true := fun j hj => Zu hI.dn _ _ j om hom hdeps (hbit _ j hmlt hj (List.all_eq_true.1 hpre j (List.mem_range.2 hj)))
 have hp : ((List.range pre.length).flatMap (fun j => if listed.getD j false = true then ps j else []) ++ s.H).Perm (HH ps s.H pre.length) := by
  refine List.Perm.trans ?_ (Z37 ps s.H pre.length).symm
  refine List.Perm.append_right _ ?_
  have : ∀ l : List Nat, (∀ j, j ∈ l → j < pre.length) → l.flatMap (fun j => if listed.getD j false = true then ps j else []) = l.flatMap ps := by
   intro l
   induction l with
   | nil => intro _; rfl
   | cons x l ih => intro h; simp only [List.flatMap_cons]; rw [if_pos (hall x (h x List.mem_cons_self)), ih (fun j hj => h j (List.mem_cons_of_mem _ hj))]
  rw [this _ (fun j hj => List.mem_range.1 hj)]
 have hsr1 : SR C1 ⟨TT ops ys s.T pre.length, HH ps s.H pre.length, s.D, s.n⟩ a1 w1 := by
  refine ⟨hI.wr.perm hp, ?_, hI.df, hI.du, hI.sz⟩
  intro t x hx
  rcases Z1p pre.length hx with ⟨j, g1, g2, rfl⟩ | ⟨g1, g2⟩
  ·exact hI.sl1 j t g1 (hall j g1) g2
  ·exact hI.sl0 t x g1 g2
 have hext1 := hI.ext.permR hp
 unfold wpOpIn
 simp only [hom, hsr1.wanted hwant, if_true]
 refine ⟨fun _ _ => trivial, ?_⟩
 have hst := hstep Z C0 H0 w0 C1 a1 w1 hext1 hsr1
 have hgi : ∀ (la : Array Bool) (j : Nat), la.size = ops.size → (la.setIfInBounds pre.length true).getD j false = (if j = pre.length then true else la.getD j false) := by
  intro la j hla
  rw [Array.getD_eq_getD_getElem?, Array.getD_eq_getD_getElem?, Array.getElem?_setIfInBounds]
  by_cases hj : pre.length = j
  ·subst hj; simp [hla, hmlt]
  ·rw [if_neg hj, if_neg (Ne.symm hj)]
 refine Z14 ?_ (fun c w' hx => ⟨nofun, hx⟩) (fun ⟨a', w', hx⟩ => hx.elim) hst
 rintro a2 w2 ⟨C2, s2, ⟨⟨x, hT2⟩, hD2, hn2, hcalm⟩, hsr2, hext2⟩
 let zs : Nat → AV := fun i => if i = pre.length then x else ys i
 have hz0 : ∀ i, i < pre.length → zs i = ys i := fun i hi => if_neg (by omega)
 have hz1 : zs pre.length = x := if_pos rfl
 have hTT : TT ops zs s.T (pre.length + 1) = s2.T := by
  show put (TT ops zs s.T pre.length) ((ops[pre.length]?).bind (·.dst)) (zs pre.length) = _
  rw [hom, hz1, Zb (ops := ops) (T0 := s.T) pre.length hz0, hT2]; rfl
 have hs2 : s2 = ⟨TT ops zs s.T (pre.length + 1), HH (fun _ => []) s2.H (pre.length + 1), s2.D, s2.n⟩ := by
  rw [hTT, Zay _ fun _ _ => rfl]
 have hd1 : ops.toList.drop (pre.length + 1) = tail := by rw [hopl, show pre ++ om :: tail = (pre ++ [om]) ++ tail by simp, List.drop_left' (by simp)]
 obtain ⟨y2, p2, k1, k2, k3, k4, k5, k6⟩ := hcalm.tellV (V := fun i => pre.length + 1 ≤ i) (k0 := pre.length + 1) (fun i h => h) (T0 := s.T) (D := s2.D) (n := s2.n) (C2.U ++ Z) (Nat.le_refl _) zs (fun _ => []) (by rw [hd1, List.drop_eq_nil_of_le (by rw [hopl]; simp; omega), List.append_nil]) hs2 (fun i h1 h2 => absurd h2 (by omega)) nofun (fun i p _ hp => nomatch hp) (fun i j p q _ _ hp => nomatch hp) (fun _ _ => List.nodup_nil)
 rw [← hsz] at k1 k2 k4 k5 k6
 have hp0 : ∀ i, i < pre.length + 1 → p2 i = [] := fun i hi => (k3 i hi).2
 refine Z7f (C0 := C0) (H0 := H0) (w0 := w0) (Z := Z) (np := ops.size) (U := fun i => pre.length + 1 ≤ i) (s := ⟨s.T, s2.H, s2.D, s2.n⟩) (ys := y2) (ps := p2) (Nat.le_refl _) hE hD hLk (fun i hi hu => k2 i hi hu) (fun i p hi hp hz => k4 i p hi hp (List.mem_append_right _ hz)) k5 k6 ?_ (fun _ _ _ _ _ _ _ _ _ _ _ hge hr => by
  obtain ⟨_, o, ho, _⟩ := mem_ready.1 hr
  exact absurd (Array.getElem?_eq_some_iff.1 ho).1 (by omega)) fuel _ a2 w2 C2 (by rw [Array.size_setIfInBounds]; exact hls) ?_ (fun i h1 h2 => absurd h2 (by omega)) ?_ ?_
 ·intro la a3 w3 C3 _ hla hI3
  have hp3 : ((List.range ops.size).flatMap (fun j => if la.getD j false = true then p2 j else []) ++ s2.H).Perm (HH p2 s2.H ops.size) := by
   refine List.Perm.trans ?_ (Z37 p2 s2.H ops.size).symm
   refine List.Perm.append_right _ ?_
   have : ∀ l : List Nat, (∀ j, j ∈ l → j < ops.size) → l.flatMap (fun j => if la.getD j false = true then p2 j else []) = l.flatMap p2 := by
    intro l
    induction l with
    | nil => intro _; rfl
    | cons x l ih => intro h; simp only [List.flatMap_cons]; rw [if_pos (hla x (h x List.mem_cons_self)), ih (fun j hj => h j (List.mem_cons_of_mem _ hj))]
   rw [this _ (fun j hj => List.mem_range.1 hj)]
  refine ⟨nofun, C3, _, k1, ⟨hI3.wr.perm hp3, ?_, hI3.df, hI3.du, hI3.sz⟩, hI3.ext.permR hp3⟩
  intro t y hy
  rcases Z1p ops.size hy with ⟨j, g1, g2, rfl⟩ | ⟨g1, g2⟩
  ·exact hI3.sl1 j t g1 (hla j g1) g2
  ·exact hI3.sl0 t y g1 g2
 ·have := Z34 (ops := ops) hmlt hls (hun pre.length (Nat.le_refl _) hmlt)
  omega
 ·intro i hi hl
  rcases Nat.lt_or_ge pre.length i with h | h
  ·exact h
  ·exfalso
   rw [hgi listed i hls] at hl
   by_cases he : i = pre.length
   ·rw [if_pos he] at hl; cases hl
   ·rw [if_neg he, hall i (by omega)] at hl; cases hl
 ·have hflat2 : (List.range ops.size).flatMap (fun j => if (listed.setIfInBounds pre.length true).getD j false = true then p2 j else []) = [] := by
   rw [List.flatMap_eq_nil_iff]
   intro j hj
   rw [hgi listed j hls]
   by_cases he : j < pre.length + 1
   ·rw [hp0 j he]; simp
   ·have h8 : ¬ j = pre.length := by omega
    rw [if_neg h8, hun j (by omega) (List.mem_range.1 hj)]; rfl
  refine ⟨by rw [hflat2]; exact hsr2.wr, ?_, ?_, hsr2.df, hsr2.du, hsr2.sz, ?_, by rw [hflat2]; exact hext2, ?_⟩
  ·intro t y hy hno
   refine hsr2.sl t y ?_
   rw [← hTT, Z38 (j := 0) (pre.length + 1) (Nat.zero_le _) fun j _ hj => hno j (by omega)]
   exact hy
  ·intro j t hj hl hd
   rw [hgi listed j hls] at hl
   have hj2 : j < pre.length + 1 := by
    rcases Nat.lt_or_ge pre.length j with h | h
    ·rw [if_neg (by omega), hun j (by omega) hj] at hl; cases hl
    ·omega
   rw [(k3 j hj2).1]
   refine hsr2.sl t (zs j) ?_
   rw [← hTT]
   exact Zb0 (np := ops.size) hD hd (pre.length + 1) (by omega) hj2
  ·intro j p hj _ hp hu
   exact k4 j p hj hp (List.mem_append_left _ hu)
  ·intro i o ho hl e he hb
   rw [hgi listed i hls] at hl
   rw [hgi listed e.on hls]
   by_cases h7 : i = pre.length
   ·subst h7
    rw [hom] at ho; cases ho
    split
    ·rfl
    ·exact hdeps e he hb
   ·rw [if_neg h7] at hl
    split
    ·rfl
    ·exact hI.dn i o ho hl e he hb
end
section
variable {P : Program} {ro : Option Nat} {ops : Array Oper} {Q : Exit → St → Prop}
theorem Z0a {s1 : St} {om : Oper} {tail : List Oper} {k : Nat} {KQ : St → Prop} {KP : List PanicEntry → St → Prop} {fo : Operand} {args : Array Operand} {ats : Array TypeId} {g : Nat} {caps xs : List AV} {β : Type} {f : β → AV} {Hb : β → AHeap} {φ : β → Prop} (Hf Fr : AHeap) (hw : Wanted ops s1.T om true) (hd : dok om.dst s1.n = true)
  (ho : om.op = .call { callee := .value fo, args := args, argTypes := ats }) (hfo : ev s1.T fo = some (.fn (.func g) caps)) (hxs : evs s1.T args.toList = some xs) (hp : s1.H.Perm (Hf ++ Fr)) (hc : ACalls P g (xs ++ caps) Hf (GP f Hb φ))
  (h : ∀ b, φ b → Calm P ops (Hb b ++ Fr) KQ k tail [] ⟨put s1.T om.dst (f b), Hb b ++ Fr, s1.D, s1.n⟩) :
  Wanted ops s1.T om true ∧ Step P ro om (fun s2 => (∃ x, s2.T = put s1.T om.dst x) ∧ s2.D = s1.D ∧ s2.n = s1.n ∧ Calm P ops s2.H KQ k tail [] s2) KP s1 :=
 ⟨hw, Z64 Hf Fr ho hfo hxs hp hd hc (fun x H' hR => by obtain ⟨b, h1, h2, rfl⟩ := hR; cases h2; exact ⟨⟨_, rfl⟩, rfl, rfl, h b h1⟩) (fun ch H' hR => by obtain ⟨_, _, h, _⟩ := hR; cases h)⟩
def mskC (o : List Nat × Oper) : Nat := o.2.after.foldl (fun m e => bif Region.binds .any e then m ||| (1 <<< e.on) ||| o.1.getD e.on 0 else m) 0
def msksC (l : List Oper) : List Nat := l.foldl (fun ms o => ms ++ [mskC (ms, o)]) []
theorem Z6a {T : List (Nat × AV)} {H : AHeap} {D : List Nat} {n : Nat} {id : Nat} {l : List Oper} {om : Oper} (m : Nat)
  (h : Calm P l.toArray H (fun s1 => Wanted l.toArray s1.T om true ∧ Step P ro om (fun s2 => (∃ x, s2.T = put s1.T om.dst x) ∧ s2.D = s1.D ∧ s2.n = s1.n ∧ Calm P l.toArray s2.H (fun s3 => Q .normal s3) (m + 1) (l.drop (m + 1)) [] s2) (fun ch => Q (.panic ch)) s1) 0 (l.take m) [] ⟨T, H, D, n⟩)
  (hom : l[m]? = some om := by rfl) (hlt : Nat.ble m l.length = true := by rfl) (hm : P.follows .mixedOrders = true := by rfl) (ht : tidyC l.toArray (msksC l) m = true := by kernel_rfl) : AWp P ro (.region id l.toArray true) Q ⟨T, H, D, n⟩ := by
 have hml : m < l.length := (List.getElem?_eq_some_iff.1 hom).1
 have hlen : (l.take m).length = m := by rw [List.length_take]; omega
 have hl : l = l.take m ++ om :: l.drop (m + 1) := by
  have h1 := List.getElem_cons_drop hml
  rw [(List.getElem?_eq_some_iff.1 hom).2] at h1
  rw [h1, List.take_append_drop]
 refine Z88 (msksC l) (l.take m) (l.drop (m + 1)) om hl hm (by rw [hlen]; exact ht) ?_
 rw [hlen]; exact h
end
end Go.Sx
namespace Go.Sx
open Go Go.Proofs
theorem Zd7 (s l : Nat) (vs : List Value) (hv : vs.length < 256) : ACalls Try.prog 6 [.ptr s 1 0 0, .agg [.v (.int .i64 4), .v (.string ⟨#[]⟩)], .v (.int .i64 0)] [(s, .rows 62 1 [[.own l 1 0 vs.length]]), (l, .rows 65 1 (pl1 vs))]
  (GP (fun _ : Nat × Nat => .tup [.v (.int .i64 ((vs.length + 1 : Nat) : Int)), .v (.int .i64 0)]) (fun x => [(s, .rows 62 1 [[.own x.1 1 0 (vs.length + 1)]]), (x.1, .rows 65 1 (pl1 vs ++ [[.ptr x.2 5 0 0]]))]) (fun _ => True)) := by
 have hr := Z8g 0 (by decide)
 refine Zf (n := 44) Try.func6 rfl (by decide +kernel) rfl rfl ?_
 refine wk ?_
 refine Zb8 (fun id4 => ?_)
 refine wk ?_
 refine Zbv (fun id8 => ?_)
 refine zSt 0 ?_
 refine zN ?_
 refine tqN ?_
 refine qS ?_
 refine Z6a 11 ?_
 refine zcM ?_
 refine Z2t 1 ?_
 refine Zba ?_
 refine zcF ?_
 refine Z2t 0 ?_
 refine Z2t 0 ?_
 refine Z1o (w0 rfl) rfl (fun id => Zd id (ps := [(0, .tmp 35)]) rfl rfl rfl rfl rfl rfl rfl rfl) (fun idq => ?_)
 refine zcM ?_
 refine .eff1 [(idq, .rows 37 2 [zel])] (fun id => .own id 2 0 0) (fun id => .rows 37 2 (List.replicate 0 zel)) (w0 rfl) rfl (fun id => Z19 id rfl rfl rfl (hr idq)) (fun p hp => .inr ⟨6, by rw [List.mem_singleton.1 hp]; exact List.mem_cons_self, by kernel_rfl⟩) (fun idr => ?_)
 refine Zb9 ?_
 refine Z1o (w0 rfl) rfl (fun id => Z18 id rfl rfl rfl rfl rfl) (fun ido => ?_)
 refine Zbb ?_
 refine Z0a [_, _] [_, _, _, _, _] (w0 rfl) rfl rfl rfl rfl (List.perm_append_comm (l₁ := [_, _, _, _, _])) (Za4 s l ido vs hv) (fun l' _ => ?_)
 refine wk ?_
 exact Zj rfl (Z8 rfl (Z8 rfl Za)) (.cons_cons _ (.cons_cons _ (List.nil_sublist _))) (gp (l', ido) trivial rfl rfl)
theorem Zd8 (s l : Nat) (vs : List Value) (hv : vs.length < 256) : ACalls Try.prog 6 [.ptr s 1 0 0, .agg [.v (.int .i64 4), .v (.string ⟨#[]⟩)], .v (.int .i64 1)] [(s, .rows 62 1 [[.own l 1 0 vs.length]]), (l, .rows 65 1 (pl1 vs))]
  (GP (fun _ : Nat × Nat => .tup [.v (.int .i64 ((vs.length + 1 : Nat) : Int)), .v (.int .i64 0)]) (fun x => [(s, .rows 62 1 [[.own x.1 1 0 (vs.length + 1)]]), (x.1, .rows 65 1 (pl1 vs ++ [[.ptr x.2 5 0 0]]))]) (fun _ => True)) := by
 have hr := Z8g 1 (by decide)
 refine Zf (n := 44) Try.func6 rfl (by decide +kernel) rfl rfl ?_
 refine wk ?_
 refine Zb8 (fun id4 => ?_)
 refine wk ?_
 refine Zbv (fun id8 => ?_)
 refine zSt 0 ?_
 refine zN ?_
 refine tqN ?_
 refine qS ?_
 refine Z6a 11 ?_
 refine zcM ?_
 refine Z2t 1 ?_
 refine Zba ?_
 refine zcF ?_
 refine Z2t 0 ?_
 refine Z2t 0 ?_
 refine Z1o (w0 rfl) rfl (fun id => Zd id (ps := [(0, .tmp 35)]) rfl rfl rfl rfl rfl rfl rfl rfl) (fun idq => ?_)
 refine zcM ?_
 refine .eff1 [(idq, .rows 37 2 [zel])] (fun id => .own id 2 0 1) (fun id => .rows 37 2 (List.replicate 1 zel)) (w0 rfl) rfl (fun id => Z19 id rfl rfl rfl (hr idq)) (fun p hp => .inr ⟨6, by rw [List.mem_singleton.1 hp]; exact List.mem_cons_self, by kernel_rfl⟩) (fun idr => ?_)
 refine Zb9 ?_
 refine Z1o (w0 rfl) rfl (fun id => Z18 id rfl rfl rfl rfl rfl) (fun ido => ?_)
 refine Zbb ?_
 refine Z0a [_, _] [_, _, _, _, _] (w0 rfl) rfl rfl rfl rfl (List.perm_append_comm (l₁ := [_, _, _, _, _])) (Za4 s l ido vs hv) (fun l' _ => ?_)
 refine wk ?_
 exact Zj rfl (Z8 rfl (Z8 rfl Za)) (.cons_cons _ (.cons_cons _ (List.nil_sublist _))) (gp (l', ido) trivial rfl rfl)
theorem Zd9 (s l : Nat) (vs : List Value) (hv : vs.length < 256) : ACalls Try.prog 6 [.ptr s 1 0 0, .agg [.v (.int .i64 4), .v (.string ⟨#[]⟩)], .v (.int .i64 2)] [(s, .rows 62 1 [[.own l 1 0 vs.length]]), (l, .rows 65 1 (pl1 vs))]
  (GP (fun _ : Nat × Nat => .tup [.v (.int .i64 ((vs.length + 1 : Nat) : Int)), .v (.int .i64 0)]) (fun x => [(s, .rows 62 1 [[.own x.1 1 0 (vs.length + 1)]]), (x.1, .rows 65 1 (pl1 vs ++ [[.ptr x.2 5 0 0]]))]) (fun _ => True)) := by
 have hr := Z8g 2 (by decide)
 refine Zf (n := 44) Try.func6 rfl (by decide +kernel) rfl rfl ?_
 refine wk ?_
 refine Zb8 (fun id4 => ?_)
 refine wk ?_
 refine Zbv (fun id8 => ?_)
 refine zSt 0 ?_
 refine zN ?_
 refine tqN ?_
 refine qS ?_
 refine Z6a 11 ?_
 refine zcM ?_
 refine Z2t 1 ?_
 refine Zba ?_
 refine zcF ?_
 refine Z2t 0 ?_
 refine Z2t 0 ?_
 refine Z1o (w0 rfl) rfl (fun id => Zd id (ps := [(0, .tmp 35)]) rfl rfl rfl rfl rfl rfl rfl rfl) (fun idq => ?_)
 refine zcM ?_
 refine .eff1 [(idq, .rows 37 2 [zel])] (fun id => .own id 2 0 2) (fun id => .rows 37 2 (List.replicate 2 zel)) (w0 rfl) rfl (fun id => Z19 id rfl rfl rfl (hr idq)) (fun p hp => .inr ⟨6, by rw [List.mem_singleton.1 hp]; exact List.mem_cons_self, by kernel_rfl⟩) (fun idr => ?_)
 refine Zb9 ?_
 refine Z1o (w0 rfl) rfl (fun id => Z18 id rfl rfl rfl rfl rfl) (fun ido => ?_)
 refine Zbb ?_
 refine Z0a [_, _] [_, _, _, _, _] (w0 rfl) rfl rfl rfl rfl (List.perm_append_comm (l₁ := [_, _, _, _, _])) (Za4 s l ido vs hv) (fun l' _ => ?_)
 refine wk ?_
 exact Zj rfl (Z8 rfl (Z8 rfl Za)) (.cons_cons _ (.cons_cons _ (List.nil_sublist _))) (gp (l', ido) trivial rfl rfl)
theorem Zda (s l : Nat) (vs : List Value) (hv : vs.length < 256) : ACalls Try.prog 6 [.ptr s 1 0 0, .agg [.v (.int .i64 4), .v (.string ⟨#[]⟩)], .v (.int .i64 3)] [(s, .rows 62 1 [[.own l 1 0 vs.length]]), (l, .rows 65 1 (pl1 vs))]
  (GP (fun _ : Nat × Nat => .tup [.v (.int .i64 ((vs.length + 1 : Nat) : Int)), .v (.int .i64 0)]) (fun x => [(s, .rows 62 1 [[.own x.1 1 0 (vs.length + 1)]]), (x.1, .rows 65 1 (pl1 vs ++ [[.ptr x.2 5 0 0]]))]) (fun _ => True)) := by
 have hr := Z8g 3 (by decide)
 refine Zf (n := 44) Try.func6 rfl (by decide +kernel) rfl rfl ?_
 refine wk ?_
 refine Zb8 (fun id4 => ?_)
 refine wk ?_
 refine Zbv (fun id8 => ?_)
 refine zSt 0 ?_
 refine zN ?_
 refine tqN ?_
 refine qS ?_
 refine Z6a 11 ?_
 refine zcM ?_
 refine Z2t 1 ?_
 refine Zba ?_
 refine zcF ?_
 refine Z2t 0 ?_
 refine Z2t 0 ?_
 refine Z1o (w0 rfl) rfl (fun id => Zd id (ps := [(0, .tmp 35)]) rfl rfl rfl rfl rfl rfl rfl rfl) (fun idq => ?_)
 refine zcM ?_
 refine .eff1 [(idq, .rows 37 2 [zel])] (fun id => .own id 2 0 3) (fun id => .rows 37 2 (List.replicate 3 zel)) (w0 rfl) rfl (fun id => Z19 id rfl rfl rfl (hr idq)) (fun p hp => .inr ⟨6, by rw [List.mem_singleton.1 hp]; exact List.mem_cons_self, by kernel_rfl⟩) (fun idr => ?_)
 refine Zb9 ?_
 refine Z1o (w0 rfl) rfl (fun id => Z18 id rfl rfl rfl rfl rfl) (fun ido => ?_)
 refine Zbb ?_
 refine Z0a [_, _] [_, _, _, _, _] (w0 rfl) rfl rfl rfl rfl (List.perm_append_comm (l₁ := [_, _, _, _, _])) (Za4 s l ido vs hv) (fun l' _ => ?_)
 refine wk ?_
 exact Zj rfl (Z8 rfl (Z8 rfl Za)) (.cons_cons _ (.cons_cons _ (List.nil_sublist _))) (gp (l', ido) trivial rfl rfl)
theorem Zbd (m : Nat) (hm : m ≤ 3) (s l : Nat) (vs : List Value) (hv : vs.length < 256) : ACalls Try.prog 6 [.ptr s 1 0 0, .agg [.v (.int .i64 4), .v (.string ⟨#[]⟩)], .v (.int .i64 (m : Int))] [(s, .rows 62 1 [[.own l 1 0 vs.length]]), (l, .rows 65 1 (pl1 vs))]
  (GP (fun _ : Nat × Nat => .tup [.v (.int .i64 ((vs.length + 1 : Nat) : Int)), .v (.int .i64 0)]) (fun x => [(s, .rows 62 1 [[.own x.1 1 0 (vs.length + 1)]]), (x.1, .rows 65 1 (pl1 vs ++ [[.ptr x.2 5 0 0]]))]) (fun _ => True)) := by
 have h4 : m = 0 ∨ m = 1 ∨ m = 2 ∨ m = 3 := by omega
 rcases h4 with rfl | rfl | rfl | rfl
 ·exact Zd7 s l vs hv
 ·exact Zd8 s l vs hv
 ·exact Zd9 s l vs hv
 ·exact Zda s l vs hv
end Go.Sx
namespace Go.Sx
open Go Go.Proofs
theorem Zcu (s l o : Nat) (vs : List Value) (hv : vs.length = 256) : ACalls Try.prog 21 [.ptr s 1 0 0, .ptr o 5 0 0] [(s, .rows 62 1 [[.own l 1 0 vs.length]]), (l, .rows 65 1 (pl1 vs))]
  (GP (fun _ : Unit => .tup [.v (.int .i64 0), .v (.int .i64 7)]) (fun _ => [(s, .rows 62 1 [[.own l 1 0 vs.length]]), (l, .rows 65 1 (pl1 vs))]) (fun _ => True)) := by
 refine Zf (n := 27) Try.func21 rfl (by decide +kernel) rfl rfl ?_
 refine wk ?_
 refine Z0w rfl (fun _ => ?_) (fun hc => ?_)
 ·refine wk ?_
  exact Zj rfl (Z8 rfl (Z8 rfl Za)) (.refl _) (gp () trivial rfl rfl)
 ·have := of_decide_eq_false hc
  omega
theorem Zdb (s l : Nat) (vs : List Value) (hv : vs.length = 256) : ACalls Try.prog 6 [.ptr s 1 0 0, .agg [.v (.int .i64 4), .v (.string ⟨#[]⟩)], .v (.int .i64 0)] [(s, .rows 62 1 [[.own l 1 0 vs.length]]), (l, .rows 65 1 (pl1 vs))]
  (GP (fun _ : Unit => .tup [.v (.int .i64 0), .v (.int .i64 7)]) (fun _ => [(s, .rows 62 1 [[.own l 1 0 vs.length]]), (l, .rows 65 1 (pl1 vs))]) (fun _ => True)) := by
 have hr := Z8g 0 (by decide)
 refine Zf (n := 44) Try.func6 rfl (by decide +kernel) rfl rfl ?_
 refine wk ?_
 refine Zb8 (fun id4 => ?_)
 refine wk ?_
 refine Zbv (fun id8 => ?_)
 refine zSt 0 ?_
 refine zN ?_
 refine tqN ?_
 refine qS ?_
 refine Z6a 11 ?_
 refine zcM ?_
 refine Z2t 1 ?_
 refine Zba ?_
 refine zcF ?_
 refine Z2t 0 ?_
 refine Z2t 0 ?_
 refine Z1o (w0 rfl) rfl (fun id => Zd id (ps := [(0, .tmp 35)]) rfl rfl rfl rfl rfl rfl rfl rfl) (fun idq => ?_)
 refine zcM ?_
 refine .eff1 [(idq, .rows 37 2 [zel])] (fun id => .own id 2 0 0) (fun id => .rows 37 2 (List.replicate 0 zel)) (w0 rfl) rfl (fun id => Z19 id rfl rfl rfl (hr idq)) (fun p hp => .inr ⟨6, by rw [List.mem_singleton.1 hp]; exact List.mem_cons_self, by kernel_rfl⟩) (fun idr => ?_)
 refine Zb9 ?_
 refine Z1o (w0 rfl) rfl (fun id => Z18 id rfl rfl rfl rfl rfl) (fun ido => ?_)
 refine Zbb ?_
 refine Z0a [_, _] [_, _, _, _, _] (w0 rfl) rfl rfl rfl rfl (List.perm_append_comm (l₁ := [_, _, _, _, _])) (Zcu s l ido vs hv) (fun _ _ => ?_)
 refine wk ?_
 exact Zj rfl (Z8 rfl (Z8 rfl Za)) (.cons_cons _ (.cons_cons _ (List.nil_sublist _))) (gp () trivial rfl rfl)
theorem Zdd : ACalls Try.prog 5 [] [] (GP (fun s : Nat => .ptr s 1 0 0) (fun s => [(s, .rows 62 1 [[.v (.slice none 0 0)]])]) (fun _ => True)) := by
 refine Zf (n := 3) Try.func5 rfl (by decide +kernel) rfl rfl ?_
 refine wk ?_
 refine Zb8 (fun id => ?_)
 refine wk ?_
 exact Zj rfl (Z8 rfl Za) (.refl _) (gp id trivial rfl rfl)
theorem Zdc (s l : Nat) (vs : List Value) : ACalls Try.prog 8 [.ptr s 1 0 0] [(s, .rows 62 1 [[.own l 1 0 vs.length]]), (l, .rows 65 1 (pl1 vs))] (GP (fun _ : Unit => .v (.int .i64 vs.length)) (fun _ => [(s, .rows 62 1 [[.own l 1 0 vs.length]]), (l, .rows 65 1 (pl1 vs))]) (fun _ => True)) := by
 refine Zf (n := 10) Try.func8 rfl (by decide +kernel) rfl rfl ?_
 refine wk ?_
 exact Zj rfl (Z8 rfl Za) (.refl _) (gp () trivial rfl rfl)
theorem Z7i {P : Program} {f s n el el2 : Nat} {xs : List AV} {H : AHeap} {β : Type} {g : β → AV} {A : β → List (List AV)} {l : β → Nat} {vs : List Value} {y : β → AV}
  (h : ACalls P f xs H (GP g (fun b => [(s, .rows el2 n (A b)), (l b, .rows el 1 (pl1 vs ++ [[y b]]))]) (fun _ => True))) :
  ACalls P f xs H (GP (fun z : β × Value => g z.1) (fun z => [(s, .rows el2 n (A z.1)), (l z.1, .rows el 1 (pl1 (vs ++ [z.2])))]) (fun _ => True)) := by
 refine ⟨h.ok, fun Z C w vals hw hv => (h.run Z C w vals hw hv).mono ?_⟩
 rintro e w' ⟨C', H', x, ⟨b, _, rfl, rfl⟩, hw', he, hx⟩
 obtain ⟨hu, hor⟩ := hw'.ids (l b) _ (List.mem_cons_of_mem _ List.mem_cons_self)
 have hmem : ∀ i o, (i, o) ∈ [(s, AObj.rows el2 n (A b)), (l b, .rows el 1 (pl1 vs ++ [[y b]]))] ↔ ((i, o) = (s, AObj.rows el2 n (A b)) ∨ (i, o) = (l b, .rows el 1 (pl1 vs ++ [[y b]]))) := fun i o => by simp
 rcases hor with ⟨ho1, ⟨_, ho2⟩ | ⟨bb, N, cells, hb, hh, hs, hl, hc⟩⟩
 ·have := congrArg List.length ho2; simp at this
 ·obtain ⟨u, hu1, hu2, hu3⟩ := hc vs.length [y b] 0 (y b) (by simp [pl1]) rfl
  have hor2 : OR C' (l b) w' (.rows el 1 (pl1 (vs ++ [u]))) := by
   refine ⟨fun e he => ?_, .inr ⟨bb, N, cells, hb, hh, hs, by simpa [pl1] using hl, ?_⟩⟩
   ·simp only [pl1, List.mem_map] at he
    obtain ⟨v, _, rfl⟩ := he; rfl
   ·intro i e j c h1 h2
    simp only [pl1, List.getElem?_map] at h1
    cases hi : (vs ++ [u])[i]? with
    | none => rw [hi] at h1; cases h1
    | some v =>
     rw [hi] at h1
     simp only [Option.map_some, Option.some.injEq] at h1
     subst h1
     have hj : j = 0 := by
      cases j with
      | zero => rfl
      | succ j => simp at h2
     subst hj
     simp only [List.getElem?_cons_zero, Option.some.injEq] at h2
     subst h2
     rcases Nat.lt_or_ge i vs.length with hlt | hge
     ·rw [List.getElem?_append_left hlt] at hi
      obtain ⟨x, g1, g2, g3⟩ := hc i [.v v] 0 (.v v) (by rw [List.getElem?_append_left (by simpa [pl1] using hlt)]; simp [pl1, hi]) rfl
      exact ⟨x, g1, g2, g3⟩
     ·have hil : i = vs.length := by
       have := (List.getElem?_eq_some_iff.1 hi).1
       simp at this; omega
      subst hil
      simp at hi
      subst hi
      exact ⟨u, hu1, .v u, hu3⟩
  refine ⟨C', _, .ret (g b), ⟨(b, u), trivial, rfl, rfl⟩, ?_, ?_, hx⟩
  ·refine ⟨hw'.hp, hw'.nd, ?_, ?_, ?_⟩
   ·intro i o hi
    simp only [List.mem_cons, List.not_mem_nil, or_false, Prod.mk.injEq] at hi
    rcases hi with ⟨rfl, rfl⟩ | ⟨rfl, rfl⟩
    ·exact hw'.ids _ _ List.mem_cons_self
    ·exact ⟨hu, hor2⟩
   ·intro i j o o' b1 N1 N2 hi hj
    simp only [List.mem_cons, List.not_mem_nil, or_false, Prod.mk.injEq] at hi hj
    have hi' : ∃ o, (i, o) ∈ [(s, AObj.rows el2 n (A b)), (l b, .rows el 1 (pl1 vs ++ [[y b]]))] := by
     rcases hi with ⟨rfl, _⟩ | ⟨rfl, _⟩
     ·exact ⟨_, List.mem_cons_self⟩
     ·exact ⟨_, List.mem_cons_of_mem _ List.mem_cons_self⟩
    have hj' : ∃ o, (j, o) ∈ [(s, AObj.rows el2 n (A b)), (l b, .rows el 1 (pl1 vs ++ [[y b]]))] := by
     rcases hj with ⟨rfl, _⟩ | ⟨rfl, _⟩
     ·exact ⟨_, List.mem_cons_self⟩
     ·exact ⟨_, List.mem_cons_of_mem _ List.mem_cons_self⟩
    obtain ⟨o1, h1⟩ := hi'
    obtain ⟨o2, h2⟩ := hj'
    exact hw'.inj i j o1 o2 b1 N1 N2 h1 h2
   ·rintro b1 ⟨i, o, N1, hi, hm⟩
    simp only [List.mem_cons, List.not_mem_nil, or_false, Prod.mk.injEq] at hi
    rcases hi with ⟨rfl, _⟩ | ⟨rfl, _⟩
    ·exact hw'.dis b1 ⟨_, _, N1, List.mem_cons_self, hm⟩
    ·exact hw'.dis b1 ⟨_, _, N1, List.mem_cons_of_mem _ List.mem_cons_self, hm⟩
  ·refine ⟨he.le, he.av, he.os, he.tape, he.output, he.size, he.fr, he.nhp, ?_, ?_⟩
   ·rintro b1 ⟨i, o, N1, hi, hm⟩
    simp only [List.mem_cons, List.not_mem_nil, or_false, Prod.mk.injEq] at hi
    rcases hi with ⟨rfl, _⟩ | ⟨rfl, _⟩
    ·exact he.nbl b1 ⟨_, _, N1, List.mem_cons_self, hm⟩
    ·exact he.nbl b1 ⟨_, _, N1, List.mem_cons_of_mem _ List.mem_cons_self, hm⟩
   ·intro i o hi
    simp only [List.mem_cons, List.not_mem_nil, or_false, Prod.mk.injEq] at hi
    rcases hi with ⟨rfl, _⟩ | ⟨rfl, _⟩
    ·exact he.nid _ _ List.mem_cons_self
    ·exact he.nid _ _ (List.mem_cons_of_mem _ List.mem_cons_self)
theorem Za5 (m : Nat) (hm : m ≤ 3) (s l : Nat) (vs : List Value) (hv : vs.length < 256) : ACalls Try.prog 6 [.ptr s 1 0 0, .agg [.v (.int .i64 4), .v (.string ⟨#[]⟩)], .v (.int .i64 (m : Int))] [(s, .rows 62 1 [[.own l 1 0 vs.length]]), (l, .rows 65 1 (pl1 vs))]
  (GP (fun _ : (Nat × Nat) × Value => .tup [.v (.int .i64 ((vs.length + 1 : Nat) : Int)), .v (.int .i64 0)]) (fun z => [(s, .rows 62 1 [[.own z.1.1 1 0 (vs.length + 1)]]), (z.1.1, .rows 65 1 (pl1 (vs ++ [z.2])))]) (fun _ => True)) :=
 Z7i (g := fun _ : Nat × Nat => .tup [.v (.int .i64 ((vs.length + 1 : Nat) : Int)), .v (.int .i64 0)]) (A := fun x => [[.own x.1 1 0 (vs.length + 1)]]) (l := fun x => x.1) (y := fun x => .ptr x.2 5 0 0) (Zbd m hm s l vs hv)
end Go.Sx
namespace Go.Sx
open Go Go.Proofs
theorem Zab {P : Program} {o : Oper} {T : List (Nat × AV)} {t t' : TypeId} {p q : Operand} {k : IntKind} {x y z : Int} (ho : o.op = .binOp .rem t p q t') (hp : ev T p = some (.v (.int k x))) (hq : ev T q = some (.v (.int k y))) (hy : y ≠ 0) (hz : x.tmod y = z) : Eff P o T [] (.v (.int k z)) [] := hz ▸ Z8o ho hp hq hy
theorem c_fill (n : Int) (m : Nat) (hm : m ≤ 3) (hn : n.tmod 4 = m) : ACalls Try.prog 3 [.v (.int .u8 n)] [] (Gives (.v (.bool true))) := by
 refine Zf (n := 46) Try.func3 rfl (by decide +kernel) rfl rfl ?_
 refine wk ?_
 refine Z0k [] [] (w0 rfl) rfl rfl rfl rfl (.refl _) Zdd (fun s _ => ?_)
 refine zA ?_
 refine zN ?_
 refine tqN ?_
 refine qS ?_
 refine Z3e 0 (qe := 65) (qs := 1) rfl (fun l0 => ?_)
 refine qS ?_
 refine qR ?_
 refine zA ?_
 refine zN ?_
 refine tqN ?_
 refine qB ?_
 refine Z8b (α := Nat × List Value) (fun x => ⟨[(4, .v (.int .i64 ((x.2.length + 1 : Nat) : Int))), (3, .ptr s 1 0 0), (0, .v (.int .u8 n))], [(x.1, .rows 65 1 (pl1 x.2)), (s, .rows 62 1 [[.own x.1 1 0 x.2.length]])], [], 46⟩) (fun x => x.2.length ≤ 256) (fun x => 256 - x.2.length) (l0, []) (by simp) ?_ ?_
 ·exact Z49 [0, 1] ⟨rfl, rfl, rfl, trivial⟩ rfl (by decide) rfl rfl
 rintro ⟨l, vs⟩ hv
 have hv : vs.length ≤ 256 := hv
 refine qS ?_
 refine qS ?_
 refine qR ?_
 refine zM ?_
 refine zI ?_
 refine zN ?_
 refine tqN ?_
 refine Z0w rfl (fun hc => ?_) (fun hc => ?_)
 ·have hlt : vs.length < 256 := by
   have h1 := of_decide_eq_true hc
   simp only at h1
   omega
  refine wk ?_
  refine Z0 (w0 rfl) rfl (Zab (z := (m : Int)) rfl rfl rfl (by decide) hn) ?_
  refine zCv ?_ (hz := Z33 (by omega))
  refine Z0k [_, _] [] (w0 rfl) rfl rfl rfl rfl (List.Perm.swap ..) (Za5 m hm s l vs hlt) (fun z _ => ?_)
  refine zM ?_
  refine zX ?_
  refine zX ?_
  refine zA ?_
  refine zA ?_
  refine zN ?_
  refine tqN ?_
  refine qS ?_
  refine qR ?_
  refine zM ?_
  refine zM ?_
  refine zI (z := false) ?_ (hz := by simp [icmp])
  refine wk ?_
  have hl1 : (vs ++ [z.2]).length = vs.length + 1 := by simp
  refine ⟨(z.1.1, vs ++ [z.2]), by simp only [hl1]; omega, by simp only [hl1]; omega, Z49 [1, 0] ⟨?_, rfl, rfl, trivial⟩ ?_ (by decide) rfl rfl⟩
  ·show lk _ _ = some (.v (.int .i64 (((vs ++ [z.2]).length + 1 : Nat) : Int)))
   rw [hl1]; rfl
  ·simp only [hl1]; rfl
 ·have h256 : vs.length = 256 := by
   have h1 := of_decide_eq_false hc
   simp only at h1
   omega
  refine wk ?_
  refine Z0k [_, _] [] (w0 rfl) rfl rfl rfl rfl (List.Perm.swap ..) (Zdb s l vs h256) (fun _ _ => ?_)
  refine wk ?_
  refine Z0k [_, _] [] (wT rfl rfl rfl rfl) rfl rfl rfl rfl (.refl _) (Zdc s l vs) (fun _ _ => ?_)
  refine zgI (z := true) ?_ (hz := by simp [icmp, h256])
  refine wk ?_
  exact Z60 rfl (Z8 rfl Za) (gvr rfl)
end Go.Sx
