/- YtgaifmhbijbfgaaGreatRaB5: texts of this claim, one behind the other. -/
import Derived.Test.YtgaifmhbijbfgaaGreatRaB4
set_option linter.unusedVariables false
set_option linter.unusedSimpArgs false
set_option linter.unusedSectionVars false
set_option linter.unnecessarySimpa false
namespace Go.Sx
open Go Go.Proofs
def k138 : CallF := fun f xs H k => bif Nat.beq f 138 then (match xs with
 | [.fn (.func g) [.ptr i1 s1 a b]] => bif Nat.beq g 140 && (Nat.beq s1 1 && (Nat.beq a 0 && Nat.beq b 0)) then (match H.own i1 with
  | some (.rows el sz [[.map q]]) => bif Nat.beq el 95 && Nat.beq sz 1 then (match H.own q with
   | some (.mp [(.agg cs, x)]) => (match cs.toList with
    | [.string c, .string n] => bif Nat.beq i1 q || Nat.ble MM k then none else some (.ret (.own k 2 0 1), (dropObs H [i1, q]).put k (some (.rows 124 2 [[sA c, sA n]])), k + 1)
    | _ => none)
   | _ => none) else none
  | _ => none) else none
 | _ => none) else none
theorem Zeb : KOk Tryz.prog k138 := by
 intro f xs H k r H' k' h
 unfold k138 at h
 cases hf : Nat.beq f 138 with
 | false => rw [hf] at h; cases h
 | true =>
 rw [hf, cond_true] at h
 have hf := Nat.eq_of_beq_eq_true hf
 subst hf
 split at h
 case h_2 => cases h
 rename_i g i1 s1 a b
 cases hg : (Nat.beq g 140 && (Nat.beq s1 1 && (Nat.beq a 0 && Nat.beq b 0))) with
 | false => rw [hg] at h; cases h
 | true =>
 rw [hg, cond_true] at h
 simp only [Bool.and_eq_true] at hg
 obtain ⟨g1, g2, g3, g4⟩ := hg
 have g1 := Nat.eq_of_beq_eq_true g1
 have g2 := Nat.eq_of_beq_eq_true g2
 have g3 := Nat.eq_of_beq_eq_true g3
 have g4 := Nat.eq_of_beq_eq_true g4
 subst g1 g2 g3 g4
 split at h
 case h_2 => cases h
 rename_i el sz q hi1
 cases hg : (Nat.beq el 95 && Nat.beq sz 1) with
 | false => rw [hg] at h; cases h
 | true =>
 rw [hg, cond_true] at h
 simp only [Bool.and_eq_true] at hg
 obtain ⟨g1, g2⟩ := hg
 have g1 := Nat.eq_of_beq_eq_true g1
 have g2 := Nat.eq_of_beq_eq_true g2
 subst g1 g2
 split at h
 case h_2 => cases h
 rename_i cs x hq
 split at h
 case h_2 => cases h
 rename_i c n hcs
 cases hg : (Nat.beq i1 q || Nat.ble MM k) with
 | true => rw [hg] at h; cases h
 | false =>
 rw [hg, cond_false] at h
 cases h
 rw [Bool.or_eq_false_iff] at hg
 have hne : i1 ≠ q := by rintro rfl; have := hg.1; simp at this
 have hk : k < MM := by
  rcases Nat.lt_or_ge k MM with h | h
  ·exact h
  ·have h1 : Nat.ble MM k = true := by rw [Nat.ble_eq]; exact h
   rw [h1] at hg; exact absurd hg.2 (by simp)
 have hcs' : cs = #[.string c, .string n] := by apply Array.ext'; simpa using hcs
 subst hcs'
 have hc := Z60 140 [.ptr i1 1 0 0] _ _ _ (fun l hl => by have := AdmF.len hl; simp at this; omega) (Z7d [((⟨c, n⟩ : FRef), x)] (by simp) i1 q)
 refine Z7h (Hc := [(i1, .rows 95 1 [[.map q]]), (q, .mp [(.agg #[.string c, .string n], x)])]) hc ?_ ?_ ?_ hk
 ·rintro e H' ⟨⟨r, l⟩, hl, rfl, rfl⟩
  have : l = [⟨c, n⟩] := by simpa using (show l.Perm [⟨c, n⟩] from hl)
  subst this
  exact ⟨r, rfl, rfl⟩
 ·intro p hp
  simp only [List.mem_cons, List.not_mem_nil, or_false] at hp
  rcases hp with rfl | rfl
  ·exact hi1
  ·exact hq
 ·simp [hne]
def k138z : CallF := fun f xs H k => bif Nat.beq f 138 then (match xs with
 | [.fn (.func g) [.ptr i1 s1 a b]] => bif Nat.beq g 140 && (Nat.beq s1 1 && (Nat.beq a 0 && Nat.beq b 0)) then (match H.own i1 with
  | some (.rows el sz [[.map q]]) => bif Nat.beq el 95 && Nat.beq sz 1 then (match H.own q with
   | some (.mp []) => bif Nat.beq i1 q || Nat.ble MM k then none else some (.ret (.own k 2 0 0), (dropObs H [i1, q]).put k (some (.rows 124 2 [])), k + 1)
   | _ => none) else none
  | _ => none) else none
 | _ => none) else none
theorem Zct : KOk Tryz.prog k138z := by
 intro f xs H k r H' k' h
 unfold k138z at h
 cases hf : Nat.beq f 138 with
 | false => rw [hf] at h; cases h
 | true =>
 rw [hf, cond_true] at h
 have hf := Nat.eq_of_beq_eq_true hf
 subst hf
 split at h
 case h_2 => cases h
 rename_i g i1 s1 a b
 cases hg : (Nat.beq g 140 && (Nat.beq s1 1 && (Nat.beq a 0 && Nat.beq b 0))) with
 | false => rw [hg] at h; cases h
 | true =>
 rw [hg, cond_true] at h
 simp only [Bool.and_eq_true] at hg
 obtain ⟨g1, g2, g3, g4⟩ := hg
 have g1 := Nat.eq_of_beq_eq_true g1
 have g2 := Nat.eq_of_beq_eq_true g2
 have g3 := Nat.eq_of_beq_eq_true g3
 have g4 := Nat.eq_of_beq_eq_true g4
 subst g1 g2 g3 g4
 split at h
 case h_2 => cases h
 rename_i el sz q hi1
 cases hg : (Nat.beq el 95 && Nat.beq sz 1) with
 | false => rw [hg] at h; cases h
 | true =>
 rw [hg, cond_true] at h
 simp only [Bool.and_eq_true] at hg
 obtain ⟨g1, g2⟩ := hg
 have g1 := Nat.eq_of_beq_eq_true g1
 have g2 := Nat.eq_of_beq_eq_true g2
 subst g1 g2
 split at h
 case h_2 => cases h
 rename_i hq
 cases hg : (Nat.beq i1 q || Nat.ble MM k) with
 | true => rw [hg] at h; cases h
 | false =>
 rw [hg, cond_false] at h
 cases h
 rw [Bool.or_eq_false_iff] at hg
 have hne : i1 ≠ q := by rintro rfl; have := hg.1; simp at this
 have hk : k < MM := by
  rcases Nat.lt_or_ge k MM with h | h
  ·exact h
  ·have h1 : Nat.ble MM k = true := by rw [Nat.ble_eq]; exact h
   rw [h1] at hg; exact absurd hg.2 (by simp)
 have hc := Z60 140 [.ptr i1 1 0 0] _ _ _ (fun l hl => by have h := AdmF.len hl; simp only [List.map_nil, List.length_nil] at h; omega) (Z7d ([] : List (FRef × AV)) (by simp) i1 q)
 refine Z7h (Hc := [(i1, .rows 95 1 [[.map q]]), (q, .mp [])]) hc ?_ ?_ ?_ hk
 ·rintro e H' ⟨⟨r, l⟩, hl, rfl, rfl⟩
  have : l = [] := by simpa using (show l.Perm ([] : List FRef) from hl)
  subst this
  exact ⟨r, rfl, rfl⟩
 ·intro p hp
  simp only [List.mem_cons, List.not_mem_nil, or_false] at hp
  rcases hp with rfl | rfl
  ·exact hi1
  ·exact hq
 ·simp [hne]
def kR6 : CallF := orK k102 (orK k138 k138z)
theorem Zey : KOk Tryz.prog kR6 := Zbq Zea (Zbq Zeb Zct)
end Go.Sx
namespace Go.Sx
open Go Go.Proofs
theorem Zcf : ACalls Tryz.prog 22 [] [] (Gives (.v (.bool true))) := Z71 Zey (L := 2000) (m := 40) (by decide +kernel) (by decide +kernel) (by kernel_rfl)
end Go.Sx
namespace Go.Sx
open Go
mutual
def AV.ren (ρ : Nat → Nat) : AV → AV
 | .v x => .v x
 | .agg cs => .agg (renL ρ cs)
 | .tup cs => .tup (renL ρ cs)
 | .lst es => .lst (renLL ρ es)
 | .own id sz off len => .own (ρ id) sz off len
 | .ptr id sz i c => .ptr (ρ id) sz i c
 | .elt es i c => .elt (renLL ρ es) i c
 | .fn f cap => .fn f (renL ρ cap)
 | .map id => .map (ρ id)
 | .ifc t x => .ifc t (AV.ren ρ x)
 | .yld id => .yld (ρ id)
def renL (ρ : Nat → Nat) : List AV → List AV
 | [] => []
 | x :: r => AV.ren ρ x :: renL ρ r
def renLL (ρ : Nat → Nat) : List (List AV) → List (List AV)
 | [] => []
 | l :: r => renL ρ l :: renLL ρ r
end
theorem Z4m (ρ : Nat → Nat) : ∀ l, renL ρ l = l.map (AV.ren ρ)
 | [] => rfl
 | x :: r => by rw [renL, Z4m ρ r]; rfl
theorem Z2j (ρ : Nat → Nat) : ∀ l, renLL ρ l = l.map (renL ρ)
 | [] => rfl
 | x :: r => by rw [renLL, Z2j ρ r]; rfl
theorem Z2d {ρ : Nat → Nat} {l : List AV} {i : Nat} {c : AV} (h : (renL ρ l)[i]? = some c) : ∃ d, l[i]? = some d ∧ c = d.ren ρ := by
 rw [Z4m, List.getElem?_map] at h
 cases hl : l[i]? with
 | none => rw [hl] at h; cases h
 | some d => rw [hl] at h; exact ⟨d, rfl, (Option.some.inj h).symm⟩
theorem Z2k {ρ : Nat → Nat} {l : List AV} {i : Nat} {d : AV} (h : l[i]? = some d) : (renL ρ l)[i]? = some (d.ren ρ) := by
 rw [Z4m, List.getElem?_map, h]; rfl
theorem Z1q {ρ : Nat → Nat} {l : List (List AV)} {i : Nat} {c : List AV} (h : (renLL ρ l)[i]? = some c) : ∃ d, l[i]? = some d ∧ c = renL ρ d := by
 rw [Z2j, List.getElem?_map] at h
 cases hl : l[i]? with
 | none => rw [hl] at h; cases h
 | some d => rw [hl] at h; exact ⟨d, rfl, (Option.some.inj h).symm⟩
theorem Z2c {ρ : Nat → Nat} {l : List (List AV)} {i : Nat} {d : List AV} (h : l[i]? = some d) : (renLL ρ l)[i]? = some (renL ρ d) := by
 rw [Z2j, List.getElem?_map, h]; rfl
theorem renL_len {ρ : Nat → Nat} {l : List AV} : (renL ρ l).length = l.length := by rw [Z4m, List.length_map]
theorem Z1r {ρ : Nat → Nat} {l : List (List AV)} : (renLL ρ l).length = l.length := by rw [Z2j, List.length_map]
theorem renLL_nil {ρ : Nat → Nat} {l : List (List AV)} : renLL ρ l = [] ↔ l = [] := by rw [Z2j, List.map_eq_nil_iff]
theorem VR.ren {C C' : Ctx} {ρ : Nat → Nat} (hhp : ∀ b o, C.hp b = some o → C'.hp b = some o) (hm : ∀ i, i ∈ C.U → ρ i ∈ C'.U ∧ C'.m (ρ i) = C.m i) {x : AV} {v : Value} (h : VR C x v) : VR C' (x.ren ρ) v := by
 induction h with
 | v x => exact .v x
 | agg cs vs hl _ ih =>
  refine .agg _ vs (renL_len.trans hl) fun i c x hc hx => ?_
  obtain ⟨d, hd, rfl⟩ := Z2d hc
  exact ih i d x hd hx
 | tup cs vs hl _ ih =>
  refine .tup _ vs (renL_len.trans hl) fun i c x hc hx => ?_
  obtain ⟨d, hd, rfl⟩ := Z2d hc
  exact ih i d x hd hx
 | lstNil => exact .lstNil
 | lst es a sz cap cells elem fz xs hs hb hz hc _ ho hcap ih =>
  have h := VR.lst (C := C') (renLL ρ es) a sz cap cells elem fz xs (fun e => hs (fun h => e (renLL_nil.2 h))) (fun e => hhp _ _ (hb (fun h => e (renLL_nil.2 h))))
   (fun e he => by
    obtain ⟨i, hi⟩ := List.mem_iff_getElem?.1 he
    obtain ⟨d, hd, rfl⟩ := Z1q hi
    rw [renL_len]; exact hz d (List.mem_of_getElem? hd))
   (fun i e j c h1 h2 => by
    obtain ⟨d, hd, rfl⟩ := Z1q h1
    obtain ⟨y, hy, rfl⟩ := Z2d h2
    exact hc i d j y hd hy)
   (fun i e j c h1 h2 => by
    obtain ⟨d, hd, rfl⟩ := Z1q h1
    obtain ⟨y, hy, rfl⟩ := Z2d h2
    exact ih i d j y hd hy)
   (fun i e j c h1 h2 => by
    obtain ⟨d, hd, rfl⟩ := Z1q h1
    obtain ⟨y, hy, rfl⟩ := Z2d h2
    exact ho i d j y hd hy)
   (by rw [Z1r]; exact hcap)
  rw [Z1r] at h
  exact h
 | own id sz off len b N cap hid hu hcap hlen hml => exact .own (ρ id) sz off len b N cap ((hm id hu).2.trans hid) (hm id hu).1 hcap hlen hml
 | ownNil id sz hid hu => exact .ownNil (ρ id) sz ((hm id hu).2.trans hid) (hm id hu).1
 | ptr id sz i c b N hid hu => exact .ptr (ρ id) sz i c b N ((hm id hu).2.trans hid) (hm id hu).1
 | elt es i c a sz cap n _ hz hi ih =>
  refine .elt (renLL ρ es) i c a sz cap n ih (fun e he => ?_) (by rw [Z1r]; exact hi)
  obtain ⟨j, hj⟩ := List.mem_iff_getElem?.1 he
  obtain ⟨d, hd, rfl⟩ := Z1q hj
  rw [renL_len]; exact hz d (List.mem_of_getElem? hd)
 | fn f cap vs hl _ ih =>
  refine .fn f _ vs (renL_len.trans hl) fun i c x hc hx => ?_
  obtain ⟨d, hd, rfl⟩ := Z2d hc
  exact ih i d x hd hx
 | map id b N hid hu => exact .map (ρ id) b N ((hm id hu).2.trans hid) (hm id hu).1
 | ifc t x v _ ih => exact .ifc t _ v ih
 | yld id l N hid hu => exact .yld (ρ id) l N ((hm id hu).2.trans hid) (hm id hu).1
theorem VR.unren {C C' : Ctx} {ρ : Nat → Nat} {ok : Nat → Bool} (hhp : ∀ b o, C.hp b = some o → C'.hp b = some o) (hm : ∀ i, ok i = true → ρ i ∈ C.U → i ∈ C'.U ∧ C'.m i = C.m (ρ i)) {y : AV} {v : Value} (h : VR C y v) : ∀ x : AV, y = x.ren ρ → nmA ok x = true → VR C' x v := by
 induction h with
 | v z => intro x e hn; cases x <;> simp only [AV.ren, reduceCtorEq] at e; cases e; exact .v z
 | agg cs vs hl _ ih =>
  intro x e hn; cases x <;> simp only [AV.ren, reduceCtorEq] at e
  rename_i cs0
  have e := AV.agg.inj e
  subst e
  exact .agg cs0 vs (renL_len.symm.trans hl) fun i c x hc hx => ih i _ x (Z2k hc) hx c rfl (Z0s hn i c hc)
 | tup cs vs hl _ ih =>
  intro x e hn; cases x <;> simp only [AV.ren, reduceCtorEq] at e
  rename_i cs0
  have e := AV.tup.inj e
  subst e
  exact .tup cs0 vs (renL_len.symm.trans hl) fun i c x hc hx => ih i _ x (Z2k hc) hx c rfl (Z0s hn i c hc)
 | lstNil =>
  intro x e hn; cases x <;> simp only [AV.ren, reduceCtorEq] at e
  rename_i es
  have : es = [] := renLL_nil.1 (AV.lst.inj e).symm
  subst this
  exact .lstNil
 | lst es a sz cap cells elem fz xs hs hb hz hc _ ho hcap ih =>
  intro x e hn; cases x <;> simp only [AV.ren, reduceCtorEq] at e
  rename_i es0
  have e := AV.lst.inj e
  subst e
  rw [Z1r] at hcap ⊢
  exact .lst es0 a sz cap cells elem fz xs (fun h => hs fun e => h (renLL_nil.1 e)) (fun h => hhp _ _ (hb fun e => h (renLL_nil.1 e)))
   (fun d hd => by
    obtain ⟨i, hi⟩ := List.mem_iff_getElem?.1 hd
    have := hz _ (List.mem_of_getElem? (Z2c (ρ := ρ) hi))
    rwa [renL_len] at this)
   (fun i d j y h1 h2 => hc i _ j _ (Z2c h1) (Z2k h2))
   (fun i d j y h1 h2 => ih i _ j _ (Z2c h1) (Z2k h2) y rfl (Z0s (Z2a hn i d h1) j y h2))
   (fun i d j y h1 h2 => ho i _ j _ (Z2c h1) (Z2k h2)) hcap
 | own id sz off len b N cap hid hu hcap hlen hml =>
  intro x e hn; cases x <;> simp only [AV.ren, reduceCtorEq] at e
  cases e
  obtain ⟨h1, h2⟩ := hm _ hn hu
  exact .own _ sz off len b N cap (h2.trans hid) h1 hcap hlen hml
 | ownNil id sz hid hu =>
  intro x e hn; cases x <;> simp only [AV.ren, reduceCtorEq] at e
  cases e
  obtain ⟨h1, h2⟩ := hm _ hn hu
  exact .ownNil _ sz (h2.trans hid) h1
 | ptr id sz i c b N hid hu =>
  intro x e hn; cases x <;> simp only [AV.ren, reduceCtorEq] at e
  cases e
  obtain ⟨h1, h2⟩ := hm _ hn hu
  exact .ptr _ sz i c b N (h2.trans hid) h1
 | elt es i c a sz cap n _ hz hi ih =>
  intro x e hn; cases x <;> simp only [AV.ren, reduceCtorEq] at e
  rename_i es0 i0 c0
  obtain ⟨e1, rfl, rfl⟩ := AV.elt.inj e
  subst e1
  refine .elt es0 i c a sz cap n (ih (.lst es0) rfl hn) (fun d hd => ?_) (by rwa [Z1r] at hi)
  obtain ⟨j, hj⟩ := List.mem_iff_getElem?.1 hd
  have := hz _ (List.mem_of_getElem? (Z2c (ρ := ρ) hj))
  rwa [renL_len] at this
 | fn f cap vs hl _ ih =>
  intro x e hn; cases x <;> simp only [AV.ren, reduceCtorEq] at e
  rename_i f0 cs0
  obtain ⟨e1, e2⟩ := AV.fn.inj e
  subst e1
  subst e2
  exact .fn _ cs0 vs (renL_len.symm.trans hl) fun i c x hc hx => ih i _ x (Z2k hc) hx c rfl (Z0s hn i c hc)
 | map id b N hid hu =>
  intro x e hn; cases x <;> simp only [AV.ren, reduceCtorEq] at e
  cases e
  obtain ⟨h1, h2⟩ := hm _ hn hu
  exact .map _ b N (h2.trans hid) h1
 | ifc t z v _ ih =>
  intro x e hn; cases x <;> simp only [AV.ren, reduceCtorEq] at e
  cases e
  exact .ifc t _ v (ih _ rfl hn)
 | yld id l N hid hu =>
  intro x e hn; cases x <;> simp only [AV.ren, reduceCtorEq] at e
  cases e
  obtain ⟨h1, h2⟩ := hm _ hn hu
  exact .yld _ l N (h2.trans hid) h1
def AObj.ren (ρ : Nat → Nat) : AObj → AObj
 | .rows el sz es => .rows el sz (renLL ρ es)
 | .mp es => .mp (es.map fun p => (p.1, p.2.ren ρ))
 | o => o
theorem OR.ren {C C' : Ctx} {ρ : Nat → Nat} {w : World} {i : Nat} {o : AObj} (hhp : ∀ b o, C.hp b = some o → C'.hp b = some o) (hm : ∀ i, i ∈ C.U → ρ i ∈ C'.U ∧ C'.m (ρ i) = C.m i) (hi : i ∈ C.U) (hp : plainOb o = true) (h : OR C i w o) : OR C' (ρ i) w (o.ren ρ) := by
 have hmi := (hm i hi).2
 cases o with
 | rows el sz es =>
  refine ⟨fun e he => ?_, ?_⟩
  ·obtain ⟨j, hj⟩ := List.mem_iff_getElem?.1 he
   obtain ⟨d, hd, rfl⟩ := Z1q hj
   rw [renL_len]; exact h.1 d (List.mem_of_getElem? hd)
  ·rcases h.2 with ⟨a, b⟩ | ⟨b, N, cells, hb, hh, hs, hl, hc⟩
   ·exact .inl ⟨hmi.trans a, renLL_nil.2 b⟩
   ·refine .inr ⟨b, N, cells, hmi.trans hb, hh, hs, by rw [Z1r]; exact hl, fun i e j c h1 h2 => ?_⟩
    obtain ⟨d, hd, rfl⟩ := Z1q h1
    obtain ⟨y, hy, rfl⟩ := Z2d h2
    obtain ⟨x, g1, g2, g3⟩ := hc i d j y hd hy
    exact ⟨x, g1, g2.ren hhp hm, g3⟩
 | mp es =>
  obtain ⟨b, N, ents, clock, hb, hh, hs, h1, h2, h3⟩ := h
  refine ⟨b, N, ents, clock, hmi.trans hb, hh, by rw [List.length_map]; exact hs, h1, h2, fun i k x hi => ?_⟩
  rw [List.getElem?_map] at hi
  cases he : es[i]? with
  | none => rw [he] at hi; cases hi
  | some p =>
   rw [he] at hi
   simp only [Option.map_some, Option.some.injEq, Prod.mk.injEq] at hi
   obtain ⟨rfl, rfl⟩ := hi
   obtain ⟨e, g1, g2, g3⟩ := h3 i p.1 p.2 he
   exact ⟨e, g1, g2, g3.ren hhp hm⟩
 | raw o =>
  obtain ⟨b, N, hb, hh⟩ := h
  exact ⟨b, N, hmi.trans hb, hh⟩
 | _ => cases hp
theorem OR.unren {C C' : Ctx} {ρ : Nat → Nat} {ok : Nat → Bool} {w : World} {i : Nat} {o : AObj} (hhp : ∀ b o, C.hp b = some o → C'.hp b = some o) (hm : ∀ i, ok i = true → ρ i ∈ C.U → i ∈ C'.U ∧ C'.m i = C.m (ρ i)) (hi : ok i = true) (hu : ρ i ∈ C.U) (hp : plainOb o = true) (hn : nmOb ok o = true) (h : OR C (ρ i) w (o.ren ρ)) : OR C' i w o := by
 have hmi := (hm i hi hu).2
 cases o with
 | rows el sz es =>
  refine ⟨fun d hd => ?_, ?_⟩
  ·obtain ⟨j, hj⟩ := List.mem_iff_getElem?.1 hd
   have := h.1 _ (List.mem_of_getElem? (Z2c (ρ := ρ) hj))
   rwa [renL_len] at this
  ·rcases h.2 with ⟨a, b⟩ | ⟨b, N, cells, hb, hh, hs, hl, hc⟩
   ·exact .inl ⟨hmi.trans a, renLL_nil.1 b⟩
   ·refine .inr ⟨b, N, cells, hmi.trans hb, hh, hs, by rwa [Z1r] at hl, fun i d j y h1 h2 => ?_⟩
    obtain ⟨x, g1, g2, g3⟩ := hc i _ j _ (Z2c h1) (Z2k h2)
    exact ⟨x, g1, g2.unren hhp hm y rfl (Z0s (Z2a hn i d h1) j y h2), g3⟩
 | mp es =>
  obtain ⟨b, N, ents, clock, hb, hh, hs, h1, h2, h3⟩ := h
  refine ⟨b, N, ents, clock, hmi.trans hb, hh, by rwa [List.length_map] at hs, h1, h2, fun i k x hi => ?_⟩
  obtain ⟨e, g1, g2, g3⟩ := h3 i k (x.ren ρ) (by rw [List.getElem?_map, hi]; rfl)
  exact ⟨e, g1, g2, g3.unren hhp hm x rfl (Z5f hn i k x hi)⟩
 | raw o =>
  obtain ⟨b, N, hb, hh⟩ := h
  exact ⟨b, N, hmi.trans hb, hh⟩
 | _ => cases hp
def renH (ρ : Nat → Nat) (H : AHeap) : AHeap := H.map fun p => (ρ p.1, p.2.ren ρ)
def AEnd.ren (ρ : Nat → Nat) : AEnd → AEnd
 | .ret x => .ret (x.ren ρ)
 | .panic ch => .panic ch
theorem Z3r {ρ : Nat → Nat} {H : AHeap} {i : Nat} {o : AObj} (h : (i, o) ∈ renH ρ H) : ∃ j ob, (j, ob) ∈ H ∧ i = ρ j ∧ o = ob.ren ρ := by
 obtain ⟨⟨j, ob⟩, h1, h2⟩ := List.mem_map.1 h
 cases h2
 exact ⟨j, ob, h1, rfl, rfl⟩
theorem Zai {C C' : Ctx} {ρ : Nat → Nat} {H : AHeap} {b : Nat} (hm : ∀ i o, (i, o) ∈ H → C'.m (ρ i) = C.m i) : blk C' (renH ρ H) b ↔ blk C H b := by
 constructor
 ·rintro ⟨i, o, N, hi, hb⟩
  obtain ⟨j, ob, h1, rfl, rfl⟩ := Z3r hi
  exact ⟨j, ob, N, h1, (hm j ob h1).symm.trans hb⟩
 ·rintro ⟨i, o, N, hi, hb⟩
  exact ⟨ρ i, o.ren ρ, N, List.mem_map.2 ⟨_, hi, rfl⟩, (hm i o hi).trans hb⟩
theorem Z82 {α β : Type} {g : α → β} : ∀ {l : List α}, (l.map g).Nodup → ∀ {a b : α}, a ∈ l → b ∈ l → g a = g b → a = b
 | [], _, a, _, ha, _, _ => absurd ha List.not_mem_nil
 | c :: r, h, a, b, ha, hb, e => by
  simp only [List.map_cons, List.nodup_cons] at h
  rcases List.mem_cons.1 ha with h1 | h1 <;> rcases List.mem_cons.1 hb with h2 | h2
  ·rw [h1, h2]
  ·rw [h1] at e; exact absurd (show g c ∈ r.map g from List.mem_map.2 ⟨b, h2, e.symm⟩) h.1
  ·rw [h2] at e; exact absurd (show g c ∈ r.map g from List.mem_map.2 ⟨a, h1, e⟩) h.1
  ·exact Z82 h.2 h1 h2 e
theorem Z9e : ∀ (l : List Nat) (i : Nat), i ∈ l → i ≤ l.foldr max 0
 | [], i, h => absurd h List.not_mem_nil
 | a :: r, i, h => by
  simp only [List.foldr_cons]
  rcases List.mem_cons.1 h with rfl | h
  ·exact Nat.le_max_left ..
  ·exact Nat.le_trans (Z9e r i h) (Nat.le_max_right ..)
theorem Z2e {P : Program} {f k k' : Nat} {xs : List AV} {H H' : Hp} {r : AEnd} {Hc Hf : AHeap} (h : ECall P f xs H k r H' k') (hk : k ≤ MM)
  (hH : ∀ i ob, H.get i = some ob → (i, ob) ∈ Hc) (hc : ∀ p, p ∈ Hc → p.1 < k ∧ plainOb p.2 = true ∧ nmOb (fun i => Nat.blt i k) p.2 = true) (hx : nmL (fun i => Nat.blt i k) xs = true) (hcn : (Hc.map Prod.fst).Nodup)
  (hf : ∀ p, p ∈ Hf → H'.get p.1 = some p.2 ∧ plainOb p.2 = true ∧ (p.1 < k → p.1 ∈ Hc.map Prod.fst)) (hfn : (Hf.map Prod.fst).Nodup) (ρ : Nat → Nat) :
  ACalls P f (renL ρ xs) (renH ρ Hc) (fun e Hq => ∃ ρ', (∀ i, i < k → ρ' i = ρ i) ∧ e = r.ren ρ' ∧ Hq = renH ρ' Hf) := by
 refine ⟨h.1, fun Z C w vs hw hv => ?_⟩
 let C1 : Ctx := { hp := C.hp, m := fun i => if i < k then C.m (ρ i) else none, U := (List.range k).filter fun i => decide (ρ i ∈ C.U), df := fun i => if i < k then C.df (ρ i) else none }
 have hU1 : ∀ i, i ∈ C1.U ↔ i < k ∧ ρ i ∈ C.U := fun i => by simp [C1, List.mem_filter]
 have hm1 : ∀ i, i < k → C1.m i = C.m (ρ i) := fun i hi => if_pos hi
 have hmv : ∀ i, (fun i => Nat.blt i k) i = true → ρ i ∈ C.U → i ∈ C1.U ∧ C1.m i = C.m (ρ i) := fun i hi hu => by
  have hi : i < k := by simpa [Nat.blt_eq] using hi
  exact ⟨(hU1 i).2 ⟨hi, hu⟩, hm1 i hi⟩
 have hHc : ∀ i o, (i, o) ∈ Hc → (ρ i, o.ren ρ) ∈ renH ρ Hc := fun i o hi => List.mem_map.2 ⟨_, hi, rfl⟩
 have hinjc : ∀ i o j o', (i, o) ∈ Hc → (j, o') ∈ Hc → ρ i = ρ j → i = j := by
  intro i o j o' hi hj e
  have hnd := hw.nd
  unfold renH at hnd
  rw [List.map_map] at hnd
  have := Z82 hnd hi hj e
  exact congrArg Prod.fst this
 have hw1 : WR C1 Hc w := by
  refine ⟨hw.hp, hcn, ?_, ?_, ?_⟩
  ·intro i o hi
   obtain ⟨hlt, hp, hn⟩ := hc _ hi
   obtain ⟨h1, h2⟩ := hw.ids _ _ (hHc i o hi)
   exact ⟨(hU1 i).2 ⟨hlt, h1⟩, h2.unren (C := C) (C' := C1) (ρ := ρ) (ok := fun i => Nat.blt i k) (fun _ _ h => h) hmv (by simpa [Nat.blt_eq] using hlt) h1 hp hn⟩
  ·intro i j o o' b N N' hi hj h1 h2
   rw [hm1 i (hc _ hi).1] at h1
   rw [hm1 j (hc _ hj).1] at h2
   exact hinjc i o j o' hi hj (hw.inj _ _ _ _ b N N' (hHc i o hi) (hHc j o' hj) h1 h2)
  ·rintro b ⟨i, o, N, hi, hb⟩
   rw [hm1 i (hc _ hi).1] at hb
   exact hw.dis b ⟨_, _, N, hHc i o hi, hb⟩
 have hv1 : VRs C1 xs vs := ⟨renL_len.symm.trans hv.1, fun i x v h1 h2 => (hv.2 i _ v (Z2k h1) h2).unren (C := C) (C' := C1) (ρ := ρ) (ok := fun i => Nat.blt i k) (fun _ _ h => h) hmv x rfl (Z0s hx i x h1)⟩
 have hfr : Fr k C1 := fun z h1 _ h2 => by have := ((hU1 z).1 h2).1; omega
 refine (h.2.2 C1 Hc w vs hw1 (fun i ob hi => hH i ob hi) hfr hv1).mono ?_
 rintro en w' ⟨C2, Hl, her, hw2, hs2, hf2, hx2⟩
 let B := (C.U ++ Z).foldr max 0 + 1
 have hB : ∀ i, i ∈ C.U ++ Z → i < B := fun i hi => Nat.lt_succ_of_le (Z9e _ i hi)
 let ρ' : Nat → Nat := fun i => if i < k then ρ i else B + i
 let C' : Ctx := { hp := C2.hp, m := fun j => if j < B then C.m j else C2.m (j - B), U := C.U ++ (C2.U.filter fun i => decide (k ≤ i)).map (B + ·), df := fun j => if j < B then C.df j else C2.df (j - B) }
 have hr1 : ∀ i, i < k → ρ' i = ρ i := fun i hi => if_pos hi
 have hr2 : ∀ i, k ≤ i → ρ' i = B + i := fun i hi => if_neg (by omega)
 have hold : ∀ i, i ∈ C2.U → i < k → ρ i ∈ C.U := fun i hi hlt => by
  rcases hx2.nx i (by omega) hi with h1 | h1
  ·exact ((hU1 i).1 h1).2
  ·omega
 have hm2 : ∀ i, i ∈ C2.U → ρ' i ∈ C'.U ∧ C'.m (ρ' i) = C2.m i := by
  intro i hi
  by_cases hlt : i < k
  ·have h1 := hold i hi hlt
   rw [hr1 i hlt]
   refine ⟨List.mem_append_left _ h1, ?_⟩
   have hb := hB _ (List.mem_append_left Z h1)
   show (if ρ i < B then C.m (ρ i) else C2.m (ρ i - B)) = C2.m i
   rw [if_pos hb, hx2.le.m i ((hU1 i).2 ⟨hlt, h1⟩), hm1 i hlt]
  ·rw [hr2 i (by omega)]
   refine ⟨List.mem_append_right _ (List.mem_map.2 ⟨i, List.mem_filter.2 ⟨hi, by simpa using hlt⟩, rfl⟩), ?_⟩
   show (if B + i < B then C.m (B + i) else C2.m (B + i - B)) = C2.m i
   rw [if_neg (by omega), Nat.add_sub_cancel_left]
 have hsub : ∀ p, p ∈ Hf → p ∈ Hl := fun p hp => hs2 p.1 p.2 (hf p hp).1
 have hin : ∀ p, p ∈ Hf → p.1 ∈ C2.U := fun p hp => (hw2.ids p.1 p.2 (hsub p hp)).1
 have hinj : ∀ p q, p ∈ Hf → q ∈ Hf → ρ' p.1 = ρ' q.1 → p.1 = q.1 := by
  intro p q hp hq e
  by_cases h1 : p.1 < k <;> by_cases h2 : q.1 < k
  ·rw [hr1 _ h1, hr1 _ h2] at e
   obtain ⟨⟨i, o⟩, hi, hpi⟩ := List.mem_map.1 ((hf p hp).2.2 h1)
   obtain ⟨⟨j, o'⟩, hj, hqj⟩ := List.mem_map.1 ((hf q hq).2.2 h2)
   rw [← hpi, ← hqj] at e ⊢
   exact hinjc i o j o' hi hj e
  ·rw [hr1 _ h1, hr2 _ (by omega)] at e
   have := hB _ (List.mem_append_left Z (hold _ (hin p hp) h1))
   omega
  ·rw [hr2 _ (by omega), hr1 _ h2] at e
   have := hB _ (List.mem_append_left Z (hold _ (hin q hq) h2))
   omega
  ·rw [hr2 _ (by omega), hr2 _ (by omega)] at e
   omega
 have hblk1 : ∀ b, blk C1 Hc b ↔ blk C (renH ρ Hc) b := fun b => (Zai fun i o hi => (hm1 i (hc _ hi).1).symm).symm
 have hblk2 : ∀ b, blk C' (renH ρ' Hf) b → blk C2 Hl b := fun b hb => by
  obtain ⟨i, o, N, hi, hb⟩ := (Zai fun i o hi => (hm2 i (hin _ hi)).2).1 hb
  exact ⟨i, o, N, hsub _ hi, hb⟩
 have hle : C.Le C' := ⟨fun b o hb => hx2.le.hp b o hb, fun i hi => if_pos (hB i (List.mem_append_left Z hi)), fun i hi => List.mem_append_left _ hi, fun i hi => if_pos (hB i (List.mem_append_left Z hi))⟩
 refine ⟨C', renH ρ' Hf, r.ren ρ', ⟨ρ', hr1, rfl, rfl⟩, ⟨hw2.hp, ?_, ?_, ?_, fun b hb => hw2.dis b (hblk2 b hb)⟩, ⟨hle, ?_, hx2.x.os, hx2.x.tape, hx2.x.output, hx2.x.size, ?_, ?_, ?_, ?_⟩, ?_⟩
 ·unfold renH
  rw [List.map_map]
  refine List.pairwise_map.2 ?_
  have hpw := List.pairwise_map.1 hfn
  refine hpw.imp_of_mem ?_
  intro p q hp hq hne e
  exact hne (hinj p q hp hq e)
 ·intro i o hi
  obtain ⟨j, ob, h1, rfl, rfl⟩ := Z3r hi
  obtain ⟨h2, h3⟩ := hw2.ids j ob (hsub _ h1)
  exact ⟨(hm2 j h2).1, h3.ren (C := C2) (C' := C') (fun _ _ h => h) hm2 h2 (hf _ h1).2.1⟩
 ·intro i j o o' b N N' hi hj h1 h2
  obtain ⟨i, ob, g1, rfl, rfl⟩ := Z3r hi
  obtain ⟨j, ob', g2, rfl, rfl⟩ := Z3r hj
  rw [(hm2 i (hin _ g1)).2] at h1
  rw [(hm2 j (hin _ g2)).2] at h2
  rw [hw2.inj i j ob ob' b N N' (hsub _ g1) (hsub _ g2) h1 h2]
 ·intro z hz hzu hm
  rcases List.mem_append.1 hm with h1 | h1
  ·exact hzu h1
  ·obtain ⟨i, _, rfl⟩ := List.mem_map.1 h1
   have := hB (B + i) (List.mem_append_right _ hz)
   omega
 ·intro b hb hn
  exact hx2.x.fr b hb fun h => hn ((hblk1 b).1 h)
 ·intro b o hb
  rcases hx2.x.nhp b o hb with h1 | h1 | h1
  ·exact .inl h1
  ·exact .inr (.inl h1)
  ·exact .inr (.inr ((hblk1 b).1 h1))
 ·intro b hb
  rcases hx2.x.nbl b (hblk2 b hb) with h1 | h1
  ·exact .inl ((hblk1 b).1 h1)
  ·exact .inr h1
 ·intro i o hi
  obtain ⟨j, ob, h1, rfl, rfl⟩ := Z3r hi
  by_cases hlt : j < k
  ·obtain ⟨⟨i, o⟩, hic, hpi⟩ := List.mem_map.1 ((hf _ h1).2.2 hlt)
   simp only at hpi
   subst hpi
   rw [hr1 _ hlt]
   exact .inl ⟨_, hHc i o hic⟩
  ·rw [hr2 j (by omega)]
   exact .inr fun hu => by have := hB _ (List.mem_append_left Z hu); omega
 ·cases r with
  | ret x =>
   cases en with
   | returned v => exact VR.ren (C := C2) (C' := C') (fun _ _ h => h) hm2 her
   | panicked ch => exact her.elim
   | outgrown => exact her.elim
  | panic ch =>
   cases en with
   | returned v => exact her.elim
   | panicked ch' => exact her
   | outgrown => exact her.elim
end Go.Sx
namespace Go.Sx
open Go
end Go.Sx
namespace Go.Sx
open Go Go.Proofs
theorem Z7p {P : Program} {o : Oper} {T : List (Nat × AV)} {t t' e : TypeId} {p q : Operand} {a : Addr} {c : Nat} [hu : UD P t (.slice e)] (ho : o.op = .binOp .eql t p q t') (hp : ev T p = some (.v (.slice (some a) 0 c))) (hq : ev T q = some (.v (.slice none 0 0))) : Eff P o T [] (.v (.bool false)) [] :=
 Z2s (z := false) ho hp hq (fun C v hv => ⟨some a, 0, c, VR.val hv, rfl⟩) rfl
theorem Z5z : ACalls Tryz.prog 44 [.v (.slice none 0 0)] [] (Gives (.v (.slice none 0 0))) := by
 refine Zw (n := 8) Tryz.func44 rfl (by decide +kernel) rfl rfl ?_
 refine wk ?_
 refine Z2 (w0 rfl) rfl (Z2s (z := true) rfl rfl rfl (fun C v hv => ⟨none, 0, 0, VR.val hv, rfl⟩) rfl) ?_
 refine wk ?_
 exact Z5h rfl (Zt rfl Zq) (gvr rfl)
theorem Z9t (a : Addr) (cap : Nat) : ACalls Tryz.prog 44 [.v (.slice (some a) 0 cap)] [] (GP (fun k : Nat => .own k 2 0 0) (fun k => [(k, .rows 116 2 [])]) (fun _ => True)) := by
 refine Zw (n := 8) Tryz.func44 rfl (by decide +kernel) rfl rfl ?_
 refine wk ?_
 refine Z2 (w0 rfl) rfl (Z7p rfl rfl rfl) ?_
 refine wk ?_
 refine Z0w (w0 rfl) rfl (fun id => Z0l id (ps := []) rfl rfl rfl rfl rfl rfl rfl rfl) (fun id2 => ?_)
 refine Z2 (w0 rfl) rfl (Zaz (y := .lst []) (Z0 rfl rfl) (fun C v hv => by rw [VR.val hv]; exact .lst [] a 0 cap #[] 0 (0, 0) (fun _ _ => undef) (fun h => absurd rfl h) (fun h => absurd rfl h) (fun _ h => nomatch h) (fun i e j c h => by simp at h) (fun i e j c h => by simp at h) (fun i e j c h => by simp at h) (Nat.zero_le _))) ?_
 refine Z1c 0 (w0 rfl) rfl rfl rfl rfl rfl rfl ⟨rfl, nofun⟩ (by simp) (by simp) (fun id3 => ?_)
 refine wk ?_
 exact Zr rfl (Zt rfl Zq) (.refl _) (gp id3 trivial rfl rfl)
theorem Z9q : ACalls Tryz.prog 45 [.v (.slice none 0 0)] [] (Gives (.v (.slice none 0 0))) := by
 refine Zw (n := 8) Tryz.func45 rfl (by decide +kernel) rfl rfl ?_
 refine wk ?_
 refine Z2 (w0 rfl) rfl (Z2s (z := true) rfl rfl rfl (fun C v hv => ⟨none, 0, 0, VR.val hv, rfl⟩) rfl) ?_
 refine wk ?_
 exact Z5h rfl (Zt rfl Zq) (gvr rfl)
theorem Z9u (a : Addr) (cap : Nat) : ACalls Tryz.prog 45 [.v (.slice (some a) 0 cap)] [] (GP (fun k : Nat => .own k 1 0 0) (fun k => [(k, .rows 2 1 [])]) (fun _ => True)) := by
 refine Zw (n := 8) Tryz.func45 rfl (by decide +kernel) rfl rfl ?_
 refine wk ?_
 refine Z2 (w0 rfl) rfl (Z7p rfl rfl rfl) ?_
 refine wk ?_
 refine Z0w (w0 rfl) rfl (fun id => Z0l id (ps := []) rfl rfl rfl rfl rfl rfl rfl rfl) (fun id2 => ?_)
 refine Z2 (w0 rfl) rfl (Zaz (y := .lst []) (Z0 rfl rfl) (fun C v hv => by rw [VR.val hv]; exact .lst [] a 0 cap #[] 0 (0, 0) (fun _ _ => undef) (fun h => absurd rfl h) (fun h => absurd rfl h) (fun _ h => nomatch h) (fun i e j c h => by simp at h) (fun i e j c h => by simp at h) (fun i e j c h => by simp at h) (Nat.zero_le _))) ?_
 refine Z1c 0 (w0 rfl) rfl rfl rfl rfl rfl rfl ⟨rfl, nofun⟩ (by simp) (by simp) (fun id3 => ?_)
 refine wk ?_
 exact Zr rfl (Zt rfl Zq) (.refl _) (gp id3 trivial rfl rfl)
def clTab : List (Nat × Nat × Nat) := [(44, 116, 2), (45, 2, 1), (56, 145, 2), (93, 9, 1), (116, 25, 3), (117, 149, 7), (118, 152, 5), (119, 124, 2), (146, 185, 17), (170, 122, 4), (350, 3, 1)]
def clGet (f : Nat) : List (Nat × Nat × Nat) → Option (Nat × Nat)
 | [] => none
 | (g, x) :: r => bif Nat.beq g f then some x else clGet f r
def kCl : CallF := fun f xs H k => match clGet f clTab with
 | some (el, sz) => (match xs with
  | [.own id sz' 0 0] => (match H.get id with
   | some (.rows el' sz2 []) => bif (Nat.beq sz' sz && Nat.beq el' el) && (Nat.beq sz2 sz && (Nat.blt id k && Nat.blt k MM)) then some (.ret (.own k sz 0 0), putObs H [(k, .rows el sz [])], k + 1) else none
   | _ => none)
  | _ => none)
 | none => none
def kR7 : CallF := orK kR6 kCl
end Go.Sx
namespace Go.Sx
open Go Go.Proofs
theorem Zf8 {P : Program} {ro : Option Nat} {Q : Exit → St → Prop} {T : List (Nat × AV)} {H : AHeap} {D : List Nat} {n : Nat} {id : Nat} {l : List Oper} (np : Nat) (h : Calm P l.toArray H (AOps P ro l.toArray (l.drop np) Q) 0 (l.take np) [] ⟨T, H, D, n⟩) (hm : P.follows .mixedOrders = true := by rfl) (ht : tidyM l.toArray (masksOf l) (l.take np).length = true := by kernel_rfl) : AWp P ro (.region id l.toArray true) Q ⟨T, H, D, n⟩ := Z0e (masksOf l) np hm ht h
def GU : AEnd → AHeap → Prop := fun e H => ∃ u, e = .ret (.v u) ∧ H = []
theorem Z8a {e : List AV} {r : List (List AV)} (C : Ctx) (v : Value) (hv : VR C (.lst (e :: r)) v) : ∃ (ad : Option Addr) (n c : Nat), v = .slice ad n c ∧ ad.isNone = false := Z8b (x := .lst (e :: r)) rfl C v hv
theorem Z4i {P : Program} {ro : Option Nat} {c : Code} {Q : Exit → St → Prop} {s : St} {id el n : Nat} {e0 : List AV} {x : AV} (k c0 : Nat) (hH : s.H[k]? = some (id, .rows el n [e0])) (hc0 : e0[c0]? = some x)
  (h : ∀ u, AWp P ro c Q ⟨s.T, s.H.set k (id, .rows el n [e0.set c0 (.v u)]), s.D, s.n⟩) : AWp P ro c Q s := by
 intro Z C0 H0 w0 C a w he hs
 obtain ⟨hu, h1, ⟨_, h2⟩ | ⟨b, N, cells, hb, hh, hsz, hl, hcs⟩⟩ := hs.wr.ids id _ (List.mem_of_getElem? hH)
 ·cases h2
 ·obtain ⟨u, g1, g2, g3⟩ := hcs 0 e0 c0 x rfl hc0
  obtain ⟨w1, e1⟩ := Z0t (Z := Z) (C' := C) (id' := id) (o' := .rows el n [e0.set c0 (.v u)]) (w' := w) (k := k) hs.wr hH (.refl C) rfl (.inl rfl) hu (fun _ _ h => h) rfl rfl rfl (Nat.le_refl _) (fun b N' hm' => .inl ⟨N', hm'⟩) (fun _ _ _ => rfl)
   ⟨fun e he => by rw [List.mem_singleton.1 he, List.length_set]; exact h1 e0 List.mem_cons_self, .inr ⟨b, N, cells, hb, hh, hsz, by simpa using hl, fun i e j y k1 k2 => by
    cases i with
    | succ i => simp at k1
    | zero =>
     simp only [List.getElem?_cons_zero, Option.some.injEq] at k1
     subst k1
     rw [List.getElem?_set] at k2
     split at k2
     ·rename_i hj
      subst hj
      split at k2
      ·cases k2; exact ⟨u, g1, .v u, g3⟩
      ·cases k2
     ·exact hcs 0 e0 j y rfl k2⟩⟩
  exact h u Z C0 H0 w0 C a w (he.trans e1) ⟨w1, hs.sl, hs.df, hs.du, hs.sz⟩
def oH (x : Option (AEnd × Hp × Nat)) : Hp := match x with | some (_, H, _) => H | none => ⟨.lf, []⟩
def oK (x : Option (AEnd × Hp × Nat)) : Nat := match x with | some (_, _, k) => k | none => 0
theorem Z1v {f : Nat} {xs : List AV} {x : AV} {H' : Hp} {k' : Nat} (h : (evN Tryz.prog noK 100 40).call f xs ⟨.lf, []⟩ 0 = some (.ret x, H', k')) (hx : nmL (fun i => Nat.blt i 0) xs = true) (hr : ∀ ρ, x.ren ρ = x) (hxs : ∀ ρ, renL ρ xs = xs) : ACalls Tryz.prog f xs [] (Gives x) := by
 have hE := (Z7s (K := noK) (by decide +kernel) (Z2i (by decide +kernel)) Zdi 40).call _ _ _ _ _ _ _ h
 have h1 := Z2e (Hc := []) (Hf := []) hE (by decide) (fun i ob hi => by simp [Hp.get, getR, Tr.get, Tr.getF_lf] at hi) nofun hx List.nodup_nil nofun List.nodup_nil (fun i => i)
 rw [hxs] at h1
 exact h1.mono fun e Hq ⟨ρ', _, h2, h3⟩ => ⟨by rw [h2]; show AEnd.ret (x.ren ρ') = _; rw [hr], h3⟩
abbrev p0 : AV := .agg [.v (.slice none 0 0), .v (.slice none 0 0), .v (.string ⟨#[]⟩), .v (.string ⟨#[]⟩), .v (.string ⟨#[]⟩)]
noncomputable def fNc : Option (AEnd × Hp × Nat) := (evN Tryz.prog noK 100 40).call 42 [p0] ⟨.lf, []⟩ 0
theorem Zeu : fNc = some (.ret p0, oH fNc, oK fNc) := by kernel_rfl
instance i_nc0 : Con Tryz.prog 42 [p0] p0 := ⟨Z1v Zeu rfl (fun _ => rfl) (fun _ => rfl)⟩
theorem Zdx : ACalls Tryz.prog 43 [] [] (GP (fun s : Nat => .ptr s 1 0 0) (fun s => [(s, .rows 200 1 [[.v (.slice none 0 0)]])]) (fun _ => True)) := by
 refine Zw (n := 3) Tryz.func43 rfl (by decide +kernel) rfl rfl ?_
 refine wk ?_
 refine Zg4 (fun id => ?_)
 refine wk ?_
 exact Zr rfl (Zt rfl Zq) (.refl _) (gp id trivial rfl rfl)
end Go.Sx
namespace Go.Sx
open Go Go.Proofs
abbrev nl : AV := .v (.slice none 0 0)
abbrev nm0 : AV := .v (.map none)
abbrev zt : AV := .v (.string ⟨#[]⟩)
abbrev ii (n : Int) : AV := .v (.int .i64 n)
abbrev mcl (st tr : Int) (u1 u2 u3 u4 u5 u6 : Value) : List AV :=
 [nl, nl, zt, zt, zt, .v u1, .v u2, .v u3, .v u4, .v u5, nl, .v u6, nl, ii st, ii 0, ii tr, ii 0, nl, nl, nl, nl, nl, nl, nl, nl, nm0, nl, nm0, nl, nm0, nl, nm0, nl, nm0, nl, nm0]
noncomputable def fEv (f : Nat) (st tr : Int) (u1 u2 u3 u4 u5 u6 : Value) : Option (AEnd × Hp × Nat) := (evN Tryz.prog noK 100 40).call f [.ptr 0 36 0 0] ⟨Tr.lf.put 0 (some (.rows 113 36 [mcl st tr u1 u2 u3 u4 u5 u6])), []⟩ 1
theorem Zex (u1 u2 u3 u4 u5 u6 : Value) : fEv 48 0 0 u1 u2 u3 u4 u5 u6 = some (.ret (mkRes []), oH (fEv 48 0 0 u1 u2 u3 u4 u5 u6), oK (fEv 48 0 0 u1 u2 u3 u4 u5 u6)) := by kernel_rfl
theorem Ze9 (u1 u2 u3 u4 u5 u6 : Value) : (oH (fEv 48 0 0 u1 u2 u3 u4 u5 u6)).get 0 = some (.rows 113 36 [mcl 2 9 u1 u2 u3 u4 u5 u6]) := by kernel_rfl
theorem Zew (u1 u2 u3 u4 u5 u6 : Value) : fEv 17 2 9 u1 u2 u3 u4 u5 u6 = some (.ret (.v (.bool false)), oH (fEv 17 2 9 u1 u2 u3 u4 u5 u6), oK (fEv 17 2 9 u1 u2 u3 u4 u5 u6)) := by kernel_rfl
theorem Ze8 (u1 u2 u3 u4 u5 u6 : Value) : (oH (fEv 17 2 9 u1 u2 u3 u4 u5 u6)).get 0 = some (.rows 113 36 [mcl 2 9 u1 u2 u3 u4 u5 u6]) := by kernel_rfl
theorem Zev (u1 u2 u3 u4 u5 u6 : Value) : fEv 19 2 9 u1 u2 u3 u4 u5 u6 = some (.ret (.agg [ii 2, ii 0, ii 9, ii 0, nl, nl, nl, nl, nl, nl, nl]), oH (fEv 19 2 9 u1 u2 u3 u4 u5 u6), oK (fEv 19 2 9 u1 u2 u3 u4 u5 u6)) := by kernel_rfl
theorem Ze7 (u1 u2 u3 u4 u5 u6 : Value) : (oH (fEv 19 2 9 u1 u2 u3 u4 u5 u6)).get 0 = some (.rows 113 36 [mcl 2 9 u1 u2 u3 u4 u5 u6]) := by kernel_rfl
theorem Zee {i j : Nat} {ob ob' : AObj} (h : (⟨Tr.lf.put i (some ob), []⟩ : Hp).get j = some ob') : (j, ob') ∈ [(i, ob)] := by
 have h : (Tr.lf.put i (some ob)).get j = some ob' := h
 rcases Tr.put_get h with ⟨rfl, e⟩ | ⟨_, e⟩
 ·cases e; exact List.mem_cons_self
 ·rw [Tr.get, Tr.getF_lf] at e; cases e
theorem Zam {f : Nat} {st tr st' tr' : Int} {u1 u2 u3 u4 u5 u6 : Value} {x : AV} (hr : ∀ ρ, x.ren ρ = x) (h1 : fEv f st tr u1 u2 u3 u4 u5 u6 = some (.ret x, oH (fEv f st tr u1 u2 u3 u4 u5 u6), oK (fEv f st tr u1 u2 u3 u4 u5 u6))) (h2 : (oH (fEv f st tr u1 u2 u3 u4 u5 u6)).get 0 = some (.rows 113 36 [mcl st' tr' u1 u2 u3 u4 u5 u6])) (m : Nat) :
  ACalls Tryz.prog f [.ptr m 36 0 0] [(m, .rows 113 36 [mcl st tr u1 u2 u3 u4 u5 u6])] (GP (fun _ : Unit => x) (fun _ => [(m, .rows 113 36 [mcl st' tr' u1 u2 u3 u4 u5 u6])]) (fun _ => True)) := by
 have hE := (Z7s (K := noK) (by decide +kernel) (Z2i (by decide +kernel)) Zdi 40).call _ _ _ _ _ _ _ h1
 refine (Z2e (Hc := [(0, .rows 113 36 [mcl st tr u1 u2 u3 u4 u5 u6])]) (Hf := [(0, .rows 113 36 [mcl st' tr' u1 u2 u3 u4 u5 u6])]) hE (by decide) (fun i ob hi => Zee hi) ?_ rfl (by simp) ?_ (by simp) (fun _ => m)).mono ?_
 ·intro p hp
  rw [List.mem_singleton.1 hp]
  exact ⟨Nat.zero_lt_one, rfl, rfl⟩
 ·intro p hp
  rw [List.mem_singleton.1 hp]
  exact ⟨h2, rfl, fun _ => by simp⟩
 ·rintro e Hq ⟨ρ', hρ, rfl, rfl⟩
  refine ⟨(), trivial, by show AEnd.ret (x.ren ρ') = _; rw [hr], ?_⟩
  simp only [renH, List.map_cons, List.map_nil, AObj.ren, hρ 0 Nat.zero_lt_one]
  rfl
end Go.Sx
namespace Go.Sx
open Go Go.Proofs
theorem Z4x {f el sz : Nat} (hN : ACalls Tryz.prog f [.v (.slice none 0 0)] [] (Gives (.v (.slice none 0 0))))
  (hP : ∀ a cap, ACalls Tryz.prog f [.v (.slice (some a) 0 cap)] [] (GP (fun k : Nat => .own k sz 0 0) (fun k => [(k, .rows el sz [])]) (fun _ => True))) :
  ACalls Tryz.prog f [.lst []] [] (GP (fun k : Nat => .own k sz 0 0) (fun k => [(k, .rows el sz [])]) (fun _ => True)) := by
 refine ⟨hN.ok, fun Z C w vs hw hv => ?_⟩
 obtain ⟨v, rfl⟩ : ∃ v, vs = #[v] := by
  have h1 : vs.size = 1 := by simpa using hv.1.symm
  exact ⟨vs[0], Array.ext (by simpa using h1) fun i h2 h3 => by
   have : i = 0 := by omega
   subst this; rfl⟩
 have hx := hv.2 0 (.lst []) v rfl rfl
 cases hx with
 | lstNil =>
  refine (hN.run Z C w _ hw ⟨rfl, fun i x u a b => by
   cases i with
   | zero => simp at a b; subst a; subst b; exact .v _
   | succ i => simp at a⟩).mono ?_
  rintro en w' ⟨C', H', x, ⟨rfl, rfl⟩, hw', hx, her⟩
  obtain ⟨k, hk⟩ := Z4f (C'.U ++ Z)
  rw [List.mem_append, not_or] at hk
  obtain ⟨g1, g2⟩ := Z6s (Z := Z) k el sz hw' hk.1 hk.2
  refine ⟨_, _, .ret (.own k sz 0 0), ⟨k, trivial, rfl, rfl⟩, g1, hx.trans g2, ?_⟩
  cases en with
  | returned u => have e := VR.val her; subst e; exact .ownNil k sz (Ctx.bindO_m ..) List.mem_cons_self
  | panicked ch => exact her.elim
  | outgrown => exact her.elim
 | lst _ a sz cap => exact (hP a cap).run Z C w _ hw ⟨rfl, fun i x u a b => by
   cases i with
   | zero => simp at a b; subst a; subst b; exact .v _
   | succ i => simp at a⟩
theorem Z9r (es : List (List AV)) (hz : ∀ e : List AV, e ∈ es → e.length = 2) (hl : es.length ≤ 1000) : ACalls Tryz.prog 44 [.lst es] [] (fun e H' => ∃ k, e = .ret (.own k 2 0 es.length) ∧ H' = [] ++ [(k, .rows 116 2 es)]) := by
 cases es with
 | nil => exact (Z4x Z5z Z9t).mono fun e H' ⟨k, _, h1, h2⟩ => ⟨k, h1, h2⟩
 | cons e r =>
  refine Zw (n := 8) Tryz.func44 rfl (by decide +kernel) rfl rfl ?_
  refine wk ?_
  refine Z2 (w0 rfl) rfl (Z2s (z := false) (u := false) rfl rfl rfl Z8a rfl) ?_
  refine wk ?_
  refine Z0w (w0 rfl) rfl (fun id => Z0l id (ps := []) rfl rfl rfl rfl rfl rfl rfl rfl) (fun id2 => ?_)
  refine zM ?_
  refine Z1c 0 (w0 rfl) rfl rfl rfl rfl rfl rfl ⟨rfl, hz⟩ (by simp only [List.map_nil, List.length_nil]; omega) (by simp only [List.map_nil, List.length_nil, maxLen]; omega) (fun id3 => ?_)
  refine wk ?_
  exact Zr rfl (Zt rfl Zq) (.refl _) ⟨id3, by simp [mkRes], by simp⟩
theorem Z9s (es : List (List AV)) (hz : ∀ e : List AV, e ∈ es → e.length = 1) (hl : es.length ≤ 1000) : ACalls Tryz.prog 45 [.lst es] [] (GP (fun k : Nat => .own k 1 0 es.length) (fun k => [(k, .rows 2 1 es)]) (fun _ => True)) := by
 cases es with
 | nil => exact Z4x Z9q Z9u
 | cons e r =>
  refine Zw (n := 8) Tryz.func45 rfl (by decide +kernel) rfl rfl ?_
  refine wk ?_
  refine Z2 (w0 rfl) rfl (Z2s (z := false) (u := false) rfl rfl rfl Z8a rfl) ?_
  refine wk ?_
  refine Z0w (w0 rfl) rfl (fun id => Z0l id (ps := []) rfl rfl rfl rfl rfl rfl rfl rfl) (fun id2 => ?_)
  refine zM ?_
  refine Z1c 0 (w0 rfl) rfl rfl rfl rfl rfl rfl ⟨rfl, hz⟩ (by simp only [List.map_nil, List.length_nil]; omega) (by simp only [List.map_nil, List.length_nil, maxLen]; omega) (fun id3 => ?_)
  refine wk ?_
  exact Zr rfl (Zt rfl Zq) (.refl _) (gp id3 trivial (by simp [mkRes]) (by simp))
theorem Z9y {P : Program} {T : List (Nat × AV)} {o : Oper} {fo : Operand} {args : Array Operand} {ats : Array TypeId} {f sz len el : Nat} {Hn : AHeap} {es : List (List AV)} {caps xs : List AV} (id : Nat)
  (ho : o.op = .call { callee := .value fo, args := args, argTypes := ats }) (hfo : ev T fo = some (.fn (.func f) caps)) (hxs : evs T args.toList = some xs) (hnd : (Hn.map Prod.fst).Nodup)
  (hc : ACalls P f (xs ++ caps) Hn (fun e H' => ∃ r, e = .ret (.own r sz 0 len) ∧ H' = Hn ++ [(r, .rows el sz es)])) : Eff P o T Hn (.own id sz 0 len) [(id, .rows el sz es)] := by
 intro Z C H a w hw hn hv hi _ hz ro next R hk
 obtain ⟨vs, h1, h2⟩ := Z23 ho hfo hxs hc.ok hv ro w
 rw [h2]
 refine ⟨nofun, ?_⟩
 obtain ⟨Fr, hp⟩ := Z2l Hn H hn hnd
 refine ((hc.frame H Fr hp).run (id :: Z) C w vs hw h1).mono ?_
 rintro e w' ⟨C', K', y, ⟨H', ⟨r, hR, rfl⟩, rfl⟩, hw', he', hx⟩
 subst hR
 have hid : id ∉ C'.U := he'.av id List.mem_cons_self (hi _ List.mem_cons_self)
 have hpm : (Hn ++ [(r, AObj.rows el sz es)] ++ Fr).Perm ((r, .rows el sz es) :: (Hn ++ Fr)) := by
  rw [List.append_assoc]; exact List.perm_middle
 obtain ⟨C2, g1, g2, g3, g4, g5⟩ := Z68 (hw'.perm hpm) hid
 have hpm2 : ((id, AObj.rows el sz es) :: (Hn ++ Fr)).Perm ([(id, .rows el sz es)] ++ H) := (hp.symm.cons _)
 cases e with
 | returned v =>
  refine hk v w' C2 (g3 _ _ _ _ hx) (g2.perm hpm2) ?_
  have he2 := ((he'.permR hpm).subZ (Z' := Z) fun z h => List.mem_cons_of_mem _ h)
  refine (he2.trans ⟨g5.le, fun z h h2 h3 => ?_, g5.os, g5.tape, g5.output, g5.size, g5.fr, g5.nhp, g5.nbl, g5.nid⟩).permR hpm2
  rcases g4 z h3 with rfl | h4
  ·exact hz z h (by simp)
  ·exact h2 h4
 | panicked ch => exact hx.elim
 | outgrown => exact hx.elim
end Go.Sx
namespace Go.Sx
open Go Go.Proofs
instance i_cl44 : Con Tryz.prog 44 [nl] nl := ⟨Z5z⟩
abbrev N0 : Value := .slice none 0 0
theorem Zdw (es js : List (List AV)) (hz : ∀ e : List AV, e ∈ es → e.length = 2) (hl : es.length ≤ 1000) (hj : ∀ e : List AV, e ∈ js → e.length = 1) (hjl : js.length ≤ 1000) :
  ACalls Tryz.prog 15 [p0, .agg [.lst es, nl, nl], .lst js] [] (GP (fun z : Nat × Value × Value × Value × Value => .ptr z.1 36 0 0) (fun z => [(z.1, .rows 113 36 [mcl 2 9 z.2.1 N0 N0 z.2.2.1 z.2.2.2.1 z.2.2.2.2])]) (fun _ => True)) := by
 refine Zw (n := 86) Tryz.func15 rfl (by decide +kernel) rfl rfl ?_
 refine wk ?_
 refine Zg4 (fun id3 => ?_)
 refine Zg4 (fun id4 => ?_)
 refine zA ?_
 refine zN ?_
 refine tqN ?_
 refine qS ?_
 refine qR ?_
 refine zLd 1 ?_
 refine zC1 ?_
 refine Ze [] [_, _] (w0 rfl) rfl rfl rfl rfl (.refl _) Zdx (fun s _ => ?_)
 refine Z0w (w0 rfl) rfl (fun id => Z51 id rfl) (fun idq => ?_)
 refine Z2 (w0 rfl) rfl (Z00 (cs := [nl, nl, zt, zt, zt, nl, nl, nl, nl, .ptr s 1 0 0, nl, .map idq, nl, ii 0, ii 0, ii 0, ii 0, nl, nl, nl, nl, nl, nl, nl, nl, nm0, nl, nm0, nl, nm0, nl, nm0, nl, nm0, nl, nm0]) rfl rfl (by kernel_rfl)) ?_
 refine Z0w (w0 rfl) rfl (fun id => Z4z id rfl rfl rfl rfl rfl) (fun m => ?_)
 refine zA ?_
 refine zN ?_
 refine tqN ?_
 refine qS ?_
 refine Zf8 10 ?_
 refine zcM ?_
 refine zcF ?_
 refine Zc8 3 ?_
 refine .eff1 [] (fun id => .own id 2 0 es.length) (fun id => .rows 116 2 es) (w0 rfl) rfl (fun id => Z9y id rfl rfl rfl List.nodup_nil (Z9r es hz hl)) nofun (fun k1 => ?_)
 refine zcF ?_
 refine Zc8 3 ?_
 refine Zga ?_
 refine Zg9 ?_
 refine Zgc ?_
 refine zcF ?_
 refine Zgb ?_
 refine zSt 1 ?_
 refine zN ?_
 refine tqN ?_
 refine qS ?_
 refine qR ?_
 refine zM ?_
 refine zM ?_
 refine zM ?_
 refine zLn ?_
 refine Z2 (w0 rfl) rfl (Zay rfl rfl rfl) ?_
 refine Z2 (w0 rfl) rfl (Z54 rfl rfl rfl (by split <;> omega) (by split <;> omega)) ?_
 refine Ze [] [_, _, _, _, _, _] (w0 rfl) rfl rfl rfl rfl (.refl _) (Z9s _ (fun e he => hj e (List.mem_of_mem_take he)) (by rw [List.length_take]; omega)) (fun k2 _ => ?_)
 refine zNc ?_
 refine zF ?_
 refine zSt 2 ?_
 refine zN ?_
 refine tqN ?_
 refine Z4i 2 5 rfl rfl (fun u1 => ?_)
 refine Z4i 2 8 rfl rfl (fun u4 => ?_)
 refine Z4i 2 9 rfl rfl (fun u5 => ?_)
 refine Z4i 2 11 rfl rfl (fun u6 => ?_)
 refine qS ?_
 refine wk ?_
 refine Z5x 2 ?_
 refine zRd ?_
 refine wk ?_
 refine Ze [_] [_, _, _, _, _, _] (w0 rfl) rfl rfl rfl rfl (List.perm_middle (l₁ := [_, _])) (Zam (fun _ => rfl) (Zex u1 N0 N0 u4 u5 u6) (Ze9 u1 N0 N0 u4 u5 u6) m) (fun _ _ => ?_)
 refine wk ?_
 exact Zr rfl (Zt rfl Zq) (.cons_cons _ (List.nil_sublist _)) (gp (m, u1, u4, u5, u6) trivial rfl rfl)
end Go.Sx
namespace Go.Sx
open Go Go.Proofs
instance i_live22n : Con Tryz.prog 22 [] (.v (.bool true)) := ⟨Zcf⟩
abbrev pn : AV := .v (.pointer none)
abbrev r0 : AV := .agg [ii 0, ii 0, ii 0, ii 0, nl, nl, nl, nl, nl, nl, nl]
theorem Zez : Con Tryz.prog 25 [pn] (ii 0) := Zdd Tryz.func25
instance i_deep : Con Tryz.prog 25 [pn] (ii 0) := Zez
instance i_step : Con Tryz.prog 17 [pn] (.v (.bool false)) := Zdd Tryz.func17
noncomputable def fN (f : Nat) (xs : List AV) : Option (AEnd × Hp × Nat) := (evN Tryz.prog noK 100 40).call f xs ⟨.lf, []⟩ 0
theorem Zi5 : fN 19 [pn] = some (.ret r0, oH (fN 19 [pn]), oK (fN 19 [pn])) := by kernel_rfl
theorem Zi7 : fN 27 [pn] = some (.ret nl, oH (fN 27 [pn]), oK (fN 27 [pn])) := by kernel_rfl
theorem Zi4 : fN 18 [r0, r0] = some (.ret (.v (.bool true)), oH (fN 18 [r0, r0]), oK (fN 18 [r0, r0])) := by kernel_rfl
theorem Zi6 : fN 26 [pn] = some (.ret (.tup [.agg [zt, zt, zt], ii 0]), oH (fN 26 [pn]), oK (fN 26 [pn])) := by kernel_rfl
instance i_at : Con Tryz.prog 26 [pn] (.tup [.agg [zt, zt, zt], ii 0]) := ⟨Z1v Zi6 rfl (fun _ => rfl) (fun _ => rfl)⟩
instance i_res : Con Tryz.prog 19 [pn] r0 := ⟨Z1v Zi5 rfl (fun _ => rfl) (fun _ => rfl)⟩
instance i_held : Con Tryz.prog 27 [pn] nl := ⟨Z1v Zi7 rfl (fun _ => rfl) (fun _ => rfl)⟩
instance i_same : Con Tryz.prog 18 [r0, r0] (.v (.bool true)) := ⟨Z1v Zi4 rfl (fun _ => rfl) (fun _ => rfl)⟩
theorem c_stepNone (es js : List (List AV)) (hz : ∀ e : List AV, e ∈ es → e.length = 2) (hj : ∀ e : List AV, e ∈ js → e.length = 1) : ACalls Tryz.prog 7 [.lst es, .lst js] [] (Gives (.v (.bool true))) := by
 refine Zw (n := 71) Tryz.func7 rfl (by decide +kernel) rfl rfl ?_
 refine st2 ?_
 refine qS ?_
 refine qR ?_
 refine zA ?_
 refine zN ?_
 refine tqN ?_
 refine qS ?_
 refine qR ?_
 refine zA ?_
 refine zN ?_
 refine tqN ?_
 refine qS ?_
 refine qS ?_
 refine qR ?_
 refine zM ?_
 refine zLn ?_
 by_cases h1 : 60 < es.length
 ·refine zI (z := true) ?_ (hz := by simp [icmp]; omega)
  refine wk ?_
  exact Z5h rfl (Zt rfl Zq) (gvr rfl)
 refine zI (z := false) ?_ (hz := by simp [icmp]; omega)
 refine zM ?_
 refine zgM ?_
 refine Zgd ?_
 by_cases h2 : 300 < js.length
 ·refine zgI (z := true) ?_ (hz := by simp [icmp]; omega)
  refine wk ?_
  exact Z5h rfl (Zt rfl Zq) (gvr rfl)
 refine zgI (z := false) ?_ (hz := by simp [icmp]; omega)
 refine zPF ?_
 refine zN ?_
 refine tqN ?_
 refine qcF ?_
 refine qK ?_
 refine tqN ?_
 refine wk ?_
 refine Ze [] [] (w0 rfl) rfl rfl rfl rfl (.refl _) (Zdw es js hz (by omega) hj (by omega)) (fun z _ => ?_)
 refine wk ?_
 refine Zgi (fun id7 => ?_)
 refine wk ?_
 refine Z2 (wT rfl rfl rfl rfl) rfl (Z00 (cs := [ii 0, ii 0, ii 0, ii 0, nl, nl, nl, nl, nl, nl, nl]) rfl rfl (by kernel_rfl)) ?_
 refine wk ?_
 refine Ze [_] [_] (wT rfl rfl rfl rfl) rfl rfl rfl rfl (List.Perm.swap ..) (Zam (fun _ => rfl) (Zew z.2.1 N0 N0 z.2.2.1 z.2.2.2.1 z.2.2.2.2) (Ze8 z.2.1 N0 N0 z.2.2.1 z.2.2.2.1 z.2.2.2.2) z.1) (fun _ _ => ?_)
 refine wk ?_
 refine Ze [_] [_] (wT rfl rfl rfl rfl) rfl rfl rfl rfl (.refl _) (Zam (fun _ => rfl) (Zev z.2.1 N0 N0 z.2.2.1 z.2.2.2.1 z.2.2.2.2) (Ze7 z.2.1 N0 N0 z.2.2.1 z.2.2.2.1 z.2.2.2.2) z.1) (fun _ _ => ?_)
 refine Z2 (x := ii 9) (wT rfl rfl rfl rfl) rfl (Z7j rfl rfl rfl) ?_
 refine wk ?_
 exact Z5h rfl (Zt rfl Zq) (gvr rfl)
end Go.Sx
