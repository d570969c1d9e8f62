/- YtgaifmhbijbfgaaGreatRaB2: texts of this claim, one behind the other. -/
import Derived.Maps.RangeRun
import Derived.Lib.Bytealg
import Derived.Laws.Externs
import Derived.Test.YtgaifmhbijbfgaaGreatRaB1
set_option linter.unusedVariables false
set_option linter.unusedSimpArgs false
set_option linter.unusedSectionVars false
set_option linter.unnecessarySimpa false
namespace Go.Sx
open Go
structure LtOK {α : Type} (lt : α → α → Bool) : Prop where
 irr : ∀ x, lt x x = false
 asy : ∀ x y, lt x y = true → lt y x = false
 tr : ∀ x y z, lt y x = false → lt z y = false → lt z x = false
section
variable {α : Type} [Inhabited α]
def swp (l : List α) (i j : Nat) : List α := (l.set i (l.getD j default)).set j (l.getD i default)
theorem Z6h (l : List α) (i j : Nat) : (swp l i j).length = l.length := by simp [swp]
theorem Z44 {l : List α} {i j : Nat} (hi : i < l.length) (hj : j < l.length) (k : Nat) : (swp l i j).getD k default = if k = j then l.getD i default else if k = i then l.getD j default else l.getD k default := by
 unfold swp
 simp only [List.getD_eq_getElem?_getD, List.getElem?_set, List.length_set]
 by_cases h1 : j = k
 ·subst h1; simp [hj]
 ·by_cases h2 : i = k
  ·subst h2; simp [h1, Ne.symm h1, hi]
  ·simp [h1, h2, Ne.symm h1, Ne.symm h2]
theorem Z7s {l : List α} {i j : Nat} (hi : i < l.length) (hj : j < l.length) : (swp l i j).getD i default = l.getD j default := by
 rw [Z44 hi hj]; by_cases h : i = j
 ·subst h; simp
 ·simp [h]
theorem Zbv {l : List α} {i j : Nat} (hi : i < l.length) (hj : j < l.length) : (swp l i j).getD j default = l.getD i default := by rw [Z44 hi hj]; simp
theorem Z27 {l : List α} {i j k : Nat} (hi : i < l.length) (hj : j < l.length) (h1 : k ≠ i) (h2 : k ≠ j) : (swp l i j).getD k default = l.getD k default := by rw [Z44 hi hj]; simp [h1, h2]
theorem Zev {l : List α} {i j : Nat} (hi : i < l.length) (hj : j < l.length) : (swp l i j).Perm l := by
 unfold swp
 rw [show l.getD i default = l[i] from by simp [List.getD, hi], show l.getD j default = l[j] from by simp [List.getD, hj]]
 exact List.set_set_perm hi hj
inductive Sw (a b : Nat) (l : List α) : List α → Prop
 | refl : Sw a b l l
 | step {m : List α} (i j : Nat) (h : Sw a b l m) (hi : a ≤ i ∧ i < b) (hj : a ≤ j ∧ j < b) (hb : b ≤ m.length) : Sw a b l (swp m i j)
theorem Sw.len {a b : Nat} {l m : List α} (h : Sw a b l m) : m.length = l.length := by
 induction h with
 | refl => rfl
 | step i j _ _ _ _ ih => rw [Z6h, ih]
theorem Sw.out {a b : Nat} {l m : List α} (h : Sw a b l m) {k : Nat} (hk : k < a ∨ b ≤ k) : m.getD k default = l.getD k default := by
 induction h with
 | refl => rfl
 | step i j _ hi hj hb ih => rw [Z27 (by omega) (by omega) (by omega) (by omega), ih]
theorem Sw.all {a b : Nat} {l m : List α} (h : Sw a b l m) {Q : α → Prop} (hq : ∀ k, a ≤ k → k < b → Q (l.getD k default)) : ∀ k, a ≤ k → k < b → Q (m.getD k default) := by
 induction h with
 | refl => exact hq
 | step i j _ hi hj hb ih =>
  intro k h1 h2
  rw [Z44 (by omega) (by omega)]
  split
  ·exact ih i hi.1 hi.2
  ·split
   ·exact ih j hj.1 hj.2
   ·exact ih k h1 h2
theorem Sw.perm {a b : Nat} {l m : List α} (h : Sw a b l m) : m.Perm l := by
 induction h with
 | refl => exact .refl _
 | step i j _ hi hj hb ih => exact (Zev (by omega) (by omega)).trans ih
theorem Sw.trans {a b : Nat} {l m r : List α} (h : Sw a b l m) (k : Sw a b m r) : Sw a b l r := by
 induction k with
 | refl => exact h
 | step i j _ hi hj hb ih => exact .step i j ih hi hj hb
theorem Sw.mono {a b a' b' : Nat} {l m : List α} (h : Sw a b l m) (ha : a' ≤ a) (hb' : b ≤ b') (hl : b' ≤ l.length) : Sw a' b' l m := by
 induction h with
 | refl => exact .refl
 | step i j h hi hj hb ih => exact .step i j ih (by omega) (by omega) (by rw [h.len]; exact hl)
variable {lt : α → α → Bool}
def SAdj (lt : α → α → Bool) (a b : Nat) (l : List α) : Prop := ∀ k, a < k → k < b → lt (l.getD k default) (l.getD (k - 1) default) = false
def SOn (lt : α → α → Bool) (a b : Nat) (l : List α) : Prop := ∀ i j, a ≤ i → i ≤ j → j < b → lt (l.getD j default) (l.getD i default) = false
theorem SAdj.on (hO : LtOK lt) {a b : Nat} {l : List α} (h : SAdj lt a b l) : SOn lt a b l := by
 intro i j h1 h2 h3
 induction j with
 | zero =>
  have : i = 0 := by omega
  subst this; exact hO.irr _
 | succ j ih =>
  rcases Nat.lt_or_ge j i with h4 | h4
  ·have : i = j + 1 := by omega
   subst this; exact hO.irr _
  ·exact hO.tr _ _ _ (ih h4 (by omega)) (h (j + 1) (by omega) h3)
theorem SAdj.refl1 {a b : Nat} {l : List α} (h : b ≤ a + 1) : SAdj lt a b l := fun k h1 h2 => by omega
structure Ins (lt : α → α → Bool) (a j i : Nat) (l : List α) : Prop where
 one : ∀ k, a < k → k ≤ i → k ≠ j → lt (l.getD k default) (l.getD (k - 1) default) = false
 two : j < i → a < j → lt (l.getD (j + 1) default) (l.getD (j - 1) default) = false
theorem Ins.start {a i : Nat} {l : List α} (h : SAdj lt a i l) : Ins lt a i i l := ⟨fun k h1 h2 h3 => h k h1 (by omega), fun h => by omega⟩
theorem Ins.step (hO : LtOK lt) {a j i : Nat} {l : List α} (h : Ins lt a j i l) (hj : a < j) (hi : j ≤ i) (hl : i < l.length) (hlt : lt (l.getD j default) (l.getD (j - 1) default) = true) : Ins lt a (j - 1) i (swp l j (j - 1)) := by
 have hjl : j < l.length := by omega
 have hjl1 : j - 1 < l.length := by omega
 refine ⟨fun k h1 h2 h3 => ?_, fun h1 h2 => ?_⟩
 ·by_cases e1 : k = j
  ·subst e1; rw [Z7s hjl hjl1, Zbv hjl hjl1]; exact hO.asy _ _ hlt
  ·by_cases e2 : k = j + 1
   ·subst e2
    rw [Z27 hjl hjl1 (by omega) (by omega), show j + 1 - 1 = j from by omega, Z7s hjl hjl1]
    exact h.two (by omega) hj
   ·rw [Z27 hjl hjl1 e1 h3, Z27 hjl hjl1 (by omega) (by omega)]; exact h.one k h1 h2 e1
 ·rw [show j - 1 + 1 = j from by omega, Z7s hjl hjl1, Z27 hjl hjl1 (by omega) (by omega)]
  exact h.one (j - 1) h2 (by omega) (by omega)
theorem Ins.done {a j i : Nat} {l : List α} (h : Ins lt a j i l) (he : j ≤ a ∨ lt (l.getD j default) (l.getD (j - 1) default) = false) : SAdj lt a (i + 1) l := by
 intro k h1 h2
 by_cases e : k = j
 ·subst e; rcases he with he | he; omega; exact he
 ·exact h.one k h1 (by omega) e
def hp (l : List α) (f x : Nat) : α := l.getD (f + x) default
def Heap (lt : α → α → Bool) (lo hi f : Nat) (l : List α) : Prop := ∀ x c, lo ≤ x → (c = 2 * x + 1 ∨ c = 2 * x + 2) → c < hi → lt (hp l f x) (hp l f c) = false
structure Sift (lt : α → α → Bool) (lo hi f root : Nat) (l : List α) : Prop where
 one : ∀ x c, lo ≤ x → x ≠ root → (c = 2 * x + 1 ∨ c = 2 * x + 2) → c < hi → lt (hp l f x) (hp l f c) = false
 two : ∀ x c, lo ≤ x → (root = 2 * x + 1 ∨ root = 2 * x + 2) → (c = 2 * root + 1 ∨ c = 2 * root + 2) → c < hi → lt (hp l f x) (hp l f c) = false
theorem Sift.start {lo hi f : Nat} {l : List α} (h : Heap lt (lo + 1) hi f l) : Sift lt lo hi f lo l :=
 ⟨fun x c h1 h2 h3 h4 => h x c (by omega) h3 h4, fun x c h1 h2 => by omega⟩
theorem Zaq {l : List α} {f i j k : Nat} (hi : f + i < l.length) (hj : f + j < l.length) : hp (swp l (f + i) (f + j)) f k = if k = j then hp l f i else if k = i then hp l f j else hp l f k := by
 unfold hp; rw [Z44 hi hj]; simp only [Nat.add_left_cancel_iff]
theorem Sift.step (hO : LtOK lt) {lo hi f root c0 : Nat} {l : List α} (h : Sift lt lo hi f root l) (hlo : lo ≤ root) (hc : c0 = 2 * root + 1 ∨ c0 = 2 * root + 2) (hch : c0 < hi) (hl : f + hi ≤ l.length)
  (hmax : ∀ c, (c = 2 * root + 1 ∨ c = 2 * root + 2) → c < hi → lt (hp l f c0) (hp l f c) = false) (hlt : lt (hp l f root) (hp l f c0) = true) : Sift lt lo hi f c0 (swp l (f + root) (f + c0)) := by
 have h1 : f + root < l.length := by omega
 have h2 : f + c0 < l.length := by omega
 refine ⟨fun x c hx hne hcx hcl => ?_, fun x c hx hcx hcc hcl => ?_⟩
 ·rw [Zaq h1 h2, Zaq h1 h2, if_neg hne]
  by_cases e : x = root
  ·subst e
   rw [if_pos rfl]
   by_cases e2 : c = c0
   ·subst e2; rw [if_pos rfl]; exact hO.asy _ _ hlt
   ·rw [if_neg e2, if_neg (by omega)]; exact hmax c hcx hcl
  ·rw [if_neg e, if_neg (by omega : c ≠ c0)]
   by_cases e2 : c = root
   ·subst e2; rw [if_pos rfl]; exact h.two x c0 hx hcx hc hch
   ·rw [if_neg e2]; exact h.one x c hx e hcx hcl
 ·have e : x = root := by omega
  subst e
  rw [Zaq h1 h2, Zaq h1 h2, if_neg (by omega), if_pos rfl, if_neg (by omega), if_neg (by omega)]
  exact h.one c0 c (by omega) (by omega) hcc hcl
theorem Sift.leaf {lo hi f root : Nat} {l : List α} (h : Sift lt lo hi f root l) (hc : hi ≤ 2 * root + 1) : Heap lt lo hi f l := fun x c h1 h2 h3 => by
 by_cases e : x = root
 ·subst e; omega
 ·exact h.one x c h1 e h2 h3
theorem Sift.stop (hO : LtOK lt) {lo hi f root c0 : Nat} {l : List α} (h : Sift lt lo hi f root l) (hmax : ∀ c, (c = 2 * root + 1 ∨ c = 2 * root + 2) → c < hi → lt (hp l f c0) (hp l f c) = false) (hs : lt (hp l f root) (hp l f c0) = false) : Heap lt lo hi f l := fun x c h1 h2 h3 => by
 by_cases e : x = root
 ·subst e; exact hO.tr _ _ _ (hmax c h2 h3) hs
 ·exact h.one x c h1 e h2 h3
theorem Heap.top (hO : LtOK lt) {hi f : Nat} {l : List α} (h : Heap lt 0 hi f l) : ∀ x, x < hi → lt (hp l f 0) (hp l f x) = false := by
 intro x
 induction x using Nat.strongRecOn with
 | _ x ih =>
  intro hx
  by_cases e : x = 0
  ·subst e; exact hO.irr _
  ·exact hO.tr _ _ _ (h ((x - 1) / 2) x (by omega) (by omega) hx) (ih ((x - 1) / 2) (by omega) (by omega))
theorem Heap.none {hi f : Nat} {l : List α} {lo : Nat} (h : hi ≤ 2 * lo + 1) : Heap lt lo hi f l := fun x c h1 h2 h3 => by omega
structure Pops (lt : α → α → Bool) (a b i : Nat) (l : List α) : Prop where
 heap : Heap lt 0 i a l
 srt : SOn lt (a + i) b l
 le : ∀ x y, a ≤ x → x < a + i → a + i ≤ y → y < b → lt (l.getD y default) (l.getD x default) = false
theorem Pops.start {a b : Nat} {l : List α} (hab : a ≤ b) (h : Heap lt 0 (b - a) a l) : Pops lt a b (b - a) l :=
 ⟨h, fun i j h1 h2 h3 => by omega, fun x y h1 h2 h3 h4 => by omega⟩
theorem Pops.swap (hO : LtOK lt) {a b i : Nat} {l : List α} (h : Pops lt a b (i + 1) l) (hb : a + i < b) (hl : b ≤ l.length) :
  Heap lt 1 i a (swp l a (a + i)) ∧ SOn lt (a + i) b (swp l a (a + i)) ∧ ∀ x y, a ≤ x → x < a + i → a + i ≤ y → y < b → lt ((swp l a (a + i)).getD y default) ((swp l a (a + i)).getD x default) = false := by
 have ha : a < l.length := by omega
 have hi : a + i < l.length := by omega
 have top := h.heap.top hO
 have htop : ∀ x, a ≤ x → x < a + (i + 1) → lt (l.getD a default) (l.getD x default) = false := fun x h1 h2 => by
  have := top (x - a) (by omega)
  unfold hp at this
  rwa [show a + (x - a) = x from by omega, Nat.add_zero] at this
 refine ⟨fun x c h1 h2 h3 => ?_, fun x y h1 h2 h3 => ?_, fun x y h1 h2 h3 h4 => ?_⟩
 ·have := h.heap x c (by omega) h2 (by omega)
  unfold hp at this ⊢
  rwa [Z27 ha hi (by omega) (by omega), Z27 ha hi (by omega) (by omega)]
 ·by_cases e : y = a + i
  ·have : x = a + i := by omega
   subst e; subst this; exact hO.irr _
  ·rw [Z27 ha hi (by omega : y ≠ a) e]
   by_cases e2 : x = a + i
   ·subst e2; rw [Zbv ha hi]; exact h.le a y (by omega) (by omega) (by omega) h3
   ·rw [Z27 ha hi (by omega) e2]; exact h.srt x y (by omega) h2 h3
 ·have hx : ∃ z, a ≤ z ∧ z < a + (i + 1) ∧ (swp l a (a + i)).getD x default = l.getD z default := by
   by_cases e : x = a
   ·subst e; exact ⟨x + i, by omega, by omega, Z7s ha hi⟩
   ·exact ⟨x, h1, by omega, Z27 ha hi e (by omega)⟩
  obtain ⟨z, z1, z2, z3⟩ := hx
  rw [z3]
  by_cases e : y = a + i
  ·subst e; rw [Zbv ha hi]; exact htop z z1 z2
  ·rw [Z27 ha hi (by omega) e]; exact h.le z y z1 z2 (by omega) h4
theorem Pops.sift {a b i : Nat} {l m : List α} (hs : SOn lt (a + i) b l) (hle : ∀ x y, a ≤ x → x < a + i → a + i ≤ y → y < b → lt (l.getD y default) (l.getD x default) = false) (h : Sw a (a + i) l m) (hh : Heap lt 0 i a m) : Pops lt a b i m := by
 refine ⟨hh, fun x y h1 h2 h3 => ?_, fun x y h1 h2 h3 h4 => ?_⟩
 ·rw [h.out (.inr h1), h.out (.inr (by omega : a + i ≤ y))]; exact hs x y h1 h2 h3
 ·rw [h.out (.inr h3)]
  exact h.all (Q := fun z => lt (l.getD y default) z = false) (fun k h5 h6 => hle k y h5 h6 h3 h4) x h1 h2
structure Part (lt : α → α → Bool) (a b i j : Nat) (l : List α) : Prop where
 lo : ∀ k, a < k → k < i → lt (l.getD k default) (l.getD a default) = true
 hi : ∀ k, j < k → k < b → lt (l.getD k default) (l.getD a default) = false
structure PartR (lt : α → α → Bool) (a b m : Nat) (l : List α) : Prop where
 lo : ∀ k, a ≤ k → k < m → lt (l.getD k default) (l.getD m default) = true
 hi : ∀ k, m < k → k < b → lt (l.getD k default) (l.getD m default) = false
theorem Part.swap {a b i j : Nat} {l : List α} (h : Part lt a b i j l) (hai : a < i) (hij : i ≤ j) (hj : j < b) (hl : b ≤ l.length) (h1 : lt (l.getD i default) (l.getD a default) = false) (h2 : lt (l.getD j default) (l.getD a default) = true) :
  Part lt a b (i + 1) (j - 1) (swp l i j) := by
 have x : i < l.length := by omega
 have y : j < l.length := by omega
 refine ⟨fun k k1 k2 => ?_, fun k k1 k2 => ?_⟩
 ·rw [Z27 x y (by omega : a ≠ i) (by omega)]
  by_cases e : k = i
  ·subst e; rw [Z7s x y]; exact h2
  ·rw [Z27 x y e (by omega)]; exact h.lo k k1 (by omega)
 ·rw [Z27 x y (by omega : a ≠ i) (by omega)]
  by_cases e : k = j
  ·subst e; rw [Zbv x y]; exact h1
  ·rw [Z44 x y, if_neg e, if_neg (by omega)]; exact h.hi k (by omega) k2
theorem Part.fin {a b i j : Nat} {l : List α} (h : Part lt a b i j l) (hij : i = j + 1) (ha : a ≤ j) (hj : j < b) (hl : b ≤ l.length) (hai : a < i) : PartR lt a b j (swp l j a) := by
 have x : j < l.length := by omega
 have y : a < l.length := by omega
 refine ⟨fun k k1 k2 => ?_, fun k k1 k2 => ?_⟩
 ·rw [Z7s x y]
  by_cases e : k = a
  ·subst e; rw [Zbv x y]; exact h.lo j (by omega) (by omega)
  ·rw [Z27 x y (by omega) e]; exact h.lo k (by omega) (by omega)
 ·rw [Z7s x y, Z27 x y (by omega) (by omega)]; exact h.hi k k1 k2
structure PartE (lt : α → α → Bool) (a b i j : Nat) (l : List α) : Prop where
 lo : ∀ k, a < k → k < i → lt (l.getD a default) (l.getD k default) = false
 hi : ∀ k, j < k → k < b → lt (l.getD a default) (l.getD k default) = true
theorem PartE.swap {a b i j : Nat} {l : List α} (h : PartE lt a b i j l) (hai : a < i) (hij : i ≤ j) (hj : j < b) (hl : b ≤ l.length) (h1 : lt (l.getD a default) (l.getD i default) = true) (h2 : lt (l.getD a default) (l.getD j default) = false) :
  PartE lt a b (i + 1) (j - 1) (swp l i j) := by
 have x : i < l.length := by omega
 have y : j < l.length := by omega
 refine ⟨fun k k1 k2 => ?_, fun k k1 k2 => ?_⟩
 ·rw [Z27 x y (by omega : a ≠ i) (by omega)]
  by_cases e : k = i
  ·subst e; rw [Z7s x y]; exact h2
  ·rw [Z27 x y e (by omega)]; exact h.lo k k1 (by omega)
 ·rw [Z27 x y (by omega : a ≠ i) (by omega)]
  by_cases e : k = j
  ·subst e; rw [Zbv x y]; exact h1
  ·rw [Z44 x y, if_neg e, if_neg (by omega)]; exact h.hi k (by omega) k2
def Bd (lt : α → α → Bool) (a b : Nat) (l : List α) : Prop := a = 0 ∨ ∀ k, a ≤ k → k < b → lt (l.getD k default) (l.getD (a - 1) default) = false
theorem Bd.sw {a b : Nat} {l m : List α} (h : Bd lt a b l) (k : Sw a b l m) : Bd lt a b m := by
 rcases h with h | h
 ·exact .inl h
 ·by_cases e : a = 0
  ·exact .inl e
  ·refine .inr ?_
   rw [k.out (.inl (by omega : a - 1 < a))]
   exact k.all (Q := fun z => lt z (l.getD (a - 1) default) = false) h
structure Rest (lt : α → α → Bool) (a0 b0 : Nat) (l0 : List α) (a b : Nat) (l : List α) : Prop where
 ha : a0 ≤ a
 hb : b ≤ b0
 hab : a ≤ b
 sw : Sw a0 b0 l0 l
 bd : Bd lt a b l
 fin : ∀ m, Sw a b l m → SOn lt a b m → SOn lt a0 b0 m
theorem Rest.start {a b : Nat} {l : List α} (hab : a ≤ b) (h : Bd lt a b l) : Rest lt a b l a b l := ⟨Nat.le_refl _, Nat.le_refl _, hab, .refl, h, fun m _ h => h⟩
theorem Rest.move {a0 b0 a b : Nat} {l0 l m : List α} (h : Rest lt a0 b0 l0 a b l) (hl : b0 ≤ l0.length) (k : Sw a b l m) : Rest lt a0 b0 l0 a b m :=
 ⟨h.ha, h.hb, h.hab, h.sw.trans (k.mono h.ha h.hb (by rw [h.sw.len]; exact hl)), h.bd.sw k, fun r hr hs => h.fin r (k.trans hr) hs⟩
theorem Rest.equal (hO : LtOK lt) {a0 b0 a b i j : Nat} {l0 l : List α} (h : Rest lt a0 b0 l0 a b l) (hl : b0 ≤ l0.length) (ha : 0 < a) (hp : lt (l.getD (a - 1) default) (l.getD a default) = false) (h2 : PartE lt a b i j l) (hij : i = j + 1) (hai : a < i) (hib : i ≤ b) : Rest lt a0 b0 l0 i b l := by
 have hbd : ∀ k, a ≤ k → k < b → lt (l.getD k default) (l.getD (a - 1) default) = false := by
  rcases h.bd with h3 | h3
  ·omega
  ·exact h3
 have hll : b ≤ l.length := by rw [h.sw.len]; have := h.hb; omega
 have lo : ∀ k, a ≤ k → k < i → lt (l.getD a default) (l.getD k default) = false := fun k k1 k2 => by
  by_cases e : k = a
  ·subst e; exact hO.irr _
  ·exact h2.lo k (by omega) k2
 refine ⟨by have := h.ha; omega, h.hb, hib, h.sw, .inr fun k k1 k2 => ?_, fun m hm hs => ?_⟩
 ·exact hO.tr _ _ _ (lo (i - 1) (by omega) (by omega)) (hO.asy _ _ (h2.hi k (by omega) k2))
 ·refine h.fin m (hm.mono (by omega) (Nat.le_refl _) hll) ?_
  intro x y h1 h3 h4
  by_cases e : i ≤ x
  ·exact hs x y e h3 h4
  ·rw [hm.out (.inl (by omega : x < i))]
   by_cases e2 : i ≤ y
   ·have := hm.all (Q := fun z => lt (l.getD a default) z = true) (fun k k1 k2 => h2.hi k (by omega) k2) y e2 h4
    exact hO.tr _ _ _ (lo x h1 (by omega)) (hO.asy _ _ this)
   ·rw [hm.out (.inl (by omega : y < i))]
    exact hO.tr _ _ _ (lo x h1 (by omega)) (hO.tr _ _ _ hp (hbd y (by omega) h4))
theorem PartR.swL {a b m : Nat} {l r : List α} (h : PartR lt a b m l) (k : Sw a m l r) : PartR lt a b m r := by
 refine ⟨?_, fun x h1 h2 => ?_⟩
 ·rw [k.out (.inr (Nat.le_refl m))]
  exact k.all (Q := fun z => lt z (l.getD m default) = true) h.lo
 ·rw [k.out (.inr (Nat.le_refl m)), k.out (.inr (by omega : m ≤ x))]; exact h.hi x h1 h2
theorem PartR.swR {a b m : Nat} {l r : List α} (h : PartR lt a b m l) (k : Sw (m + 1) b l r) : PartR lt a b m r := by
 refine ⟨fun x h1 h2 => ?_, fun x h1 h2 => ?_⟩
 ·rw [k.out (.inl (by omega : x < m + 1)), k.out (.inl (by omega : m < m + 1))]; exact h.lo x h1 h2
 ·rw [k.out (.inl (by omega : m < m + 1))]
  exact k.all (Q := fun z => lt z (l.getD m default) = false) (fun k k1 k2 => h.hi k (by omega) k2) x (by omega) h2
theorem PartR.glue (hO : LtOK lt) {a b m : Nat} {l : List α} (h : PartR lt a b m l) (h1 : SOn lt a m l) (h2 : SOn lt (m + 1) b l) : SOn lt a b l := by
 intro x y k1 k2 k3
 rcases Nat.lt_trichotomy y m with e | e | e
 ·exact h1 x y k1 k2 e
 ·subst e
  by_cases e2 : x = y
  ·subst e2; exact hO.irr _
  ·exact hO.asy _ _ (h.lo x k1 (by omega))
 ·have hy := h.hi y e k3
  rcases Nat.lt_trichotomy x m with e2 | e2 | e2
  ·exact hO.tr _ _ _ (hO.asy _ _ (h.lo x k1 e2)) hy
  ·subst e2; exact hy
  ·exact h2 x y e2 k2 k3
theorem Rest.lower (hO : LtOK lt) {a0 b0 a b m : Nat} {l0 l r : List α} (h : Rest lt a0 b0 l0 a b l) (hl : b0 ≤ l0.length) (hm : a ≤ m ∧ m < b) (hp : PartR lt a b m l) (k : Sw a m l r) (hs : SOn lt a m r) : Rest lt a0 b0 l0 (m + 1) b r := by
 have hll : b ≤ l.length := by rw [h.sw.len]; have := h.hb; omega
 have h2 := h.move hl (k.mono (Nat.le_refl _) (by omega) hll)
 have hp2 := hp.swL k
 refine ⟨by have := h.ha; omega, h.hb, by omega, h2.sw, .inr fun x x1 x2 => hp2.hi x (by omega) x2, fun q hq hsq => ?_⟩
 have hrl : b ≤ r.length := by rw [k.len]; exact hll
 refine h2.fin q (hq.mono (by omega) (Nat.le_refl _) hrl) ?_
 refine (hp2.swR hq).glue hO ?_ hsq
 intro x y x1 x2 x3
 rw [hq.out (.inl (by omega : x < m + 1)), hq.out (.inl (by omega : y < m + 1))]; exact hs x y x1 x2 x3
theorem Rest.upper (hO : LtOK lt) {a0 b0 a b m : Nat} {l0 l r : List α} (h : Rest lt a0 b0 l0 a b l) (hl : b0 ≤ l0.length) (hm : a ≤ m ∧ m < b) (hp : PartR lt a b m l) (k : Sw (m + 1) b l r) (hs : SOn lt (m + 1) b r) : Rest lt a0 b0 l0 a m r := by
 have hll : b ≤ l.length := by rw [h.sw.len]; have := h.hb; omega
 have h2 := h.move hl (k.mono (by omega) (Nat.le_refl _) hll)
 have hp2 := hp.swR k
 have hrl : b ≤ r.length := by rw [k.len]; exact hll
 refine ⟨h.ha, by have := h.hb; omega, hm.1, h2.sw, ?_, fun q hq hsq => ?_⟩
 ·rcases h2.bd with h3 | h3
  ·exact .inl h3
  ·exact .inr fun x x1 x2 => h3 x x1 (by omega)
 refine h2.fin q (hq.mono (Nat.le_refl _) (by omega) hrl) ?_
 refine (hp2.swL hq).glue hO hsq ?_
 intro x y x1 x2 x3
 rw [hq.out (.inr (by omega : m ≤ x)), hq.out (.inr (by omega : m ≤ y))]; exact hs x y x1 x2 x3
theorem SAdj.swp_ge {a u i j : Nat} {l : List α} (h : SAdj lt a u l) (hi : u ≤ i) (hj : u ≤ j) (hil : i < l.length) (hjl : j < l.length) : SAdj lt a u (swp l i j) := fun k h1 h2 => by
 rw [Z27 hil hjl (by omega) (by omega), Z27 hil hjl (by omega) (by omega)]; exact h k h1 h2
theorem SAdj.le {a u v : Nat} {l : List α} (h : SAdj lt a u l) (hv : v ≤ u) : SAdj lt a v l := fun k h1 h2 => h k h1 (by omega)
theorem SAdj.succ {a u : Nat} {l : List α} (h : SAdj lt a u l) (hv : lt (l.getD u default) (l.getD (u - 1) default) = false) : SAdj lt a (u + 1) l := fun k h1 h2 => by
 rcases Nat.lt_succ_iff_lt_or_eq.1 h2 with h3 | h3
 ·exact h k h1 h3
 ·subst h3; exact hv
theorem Bd.gt {a b j : Nat} {l : List α} (h : Bd lt a b l) (h1 : a ≤ j) (h2 : j < b) (h0 : 1 ≤ j) (hlt : lt (l.getD j default) (l.getD (j - 1) default) = true) : a < j := by
 rcases Nat.lt_or_ge a j with h3 | h3
 ·exact h3
 ·have e : j = a := by omega
  subst e
  rcases h with h | h
  ·omega
  ·rw [h j (Nat.le_refl _) h2] at hlt; cases hlt
theorem Bd.le {a b c : Nat} {l : List α} (h : Bd lt a b l) (hc : c ≤ b) : Bd lt a c l := by
 rcases h with h | h
 ·exact .inl h
 ·exact .inr fun k h1 h2 => h k h1 (by omega)
theorem PartR.bd {a b m : Nat} {l : List α} (h : PartR lt a b m l) : Bd lt (m + 1) b l := .inr fun k h1 h2 => h.hi k (by omega) h2
end
end Go.Sx
namespace Go.Sx
open Go
theorem Zf2 : ∀ l : List UInt8, Op.bytesLess l l = false
 | [] => rfl
 | x :: l => by simp [Op.bytesLess, Zf2 l]
theorem Zf1 : ∀ l r : List UInt8, Op.bytesLess l r = true → Op.bytesLess r l = false
 | [], [], h => rfl
 | [], _ :: _, h => rfl
 | _ :: _, [], h => by simp [Op.bytesLess] at h
 | x :: l, y :: r, h => by
  simp only [Op.bytesLess] at h ⊢
  by_cases h1 : x < y
  ·have h2 : ¬ y < x := fun h => by simp [UInt8.lt_iff_toNat_lt] at h h1; omega
   have h3 : ¬ y = x := fun e => by subst e; simp at h1
   simp [h2, h3]
  ·by_cases h2 : x = y
   ·subst h2; simp at h; simp [Zf1 l r h]
   ·simp [h1, h2] at h
theorem Zgf : ∀ x y z : List UInt8, Op.bytesLess y x = false → Op.bytesLess z y = false → Op.bytesLess z x = false
 | [], _, [], _, _ => rfl
 | [], _, _ :: _, _, _ => rfl
 | _ :: _, [], _, h, _ => by simp [Op.bytesLess] at h
 | _ :: _, _ :: _, [], _, h => by simp [Op.bytesLess] at h
 | a :: x, b :: y, c :: z, h, k => by
  simp only [Op.bytesLess] at h k ⊢
  have ih := Zgf x y z
  simp only [UInt8.lt_iff_toNat_lt, Bool.or_eq_false_iff, Bool.and_eq_false_iff, decide_eq_false_iff_not, beq_eq_false_iff_ne, ne_eq] at h k ⊢
  refine ⟨by omega, ?_⟩
  by_cases e : c = a
  ·subst e
   have e2 : b = c := UInt8.toNat_inj.1 (by omega)
   subst e2
   exact .inr (ih (h.2.resolve_left (fun h => h rfl)) (k.2.resolve_left (fun h => h rfl)))
  ·exact .inl e
theorem ltS_ok : LtOK ltS := ⟨fun x => Zf2 _, fun x y h => Zf1 _ _ h, fun x y z h k => Zgf _ _ _ h k⟩
end Go.Sx
namespace Go.Sx
open Go
theorem Zag : ∀ x y : List UInt8, (Op.bytesLess x y || x == y) = !Op.bytesLess y x
 | [], [] => rfl
 | [], _ :: _ => by simp [Op.bytesLess]
 | _ :: _, [] => by simp [Op.bytesLess]
 | a :: x, b :: y => by
  have ih := Zag x y
  by_cases h1 : a < b
  ·have h2 : ¬ b < a := fun h => by simp [UInt8.lt_iff_toNat_lt] at h h1; omega
   have h3 : ¬ b = a := fun e => by subst e; simp at h1
   simp [Op.bytesLess, h1, h2, h3]
  ·by_cases h2 : b < a
   ·have h3 : ¬ a = b := fun e => by subst e; simp at h2
    simp [Op.bytesLess, h1, h2, h3]
   ·have h3 : a = b := UInt8.toNat_inj.1 (by simp [UInt8.lt_iff_toNat_lt] at h1 h2; omega)
    subst h3
    simp [Op.bytesLess] at ih ⊢
    exact ih
theorem Zg3 (x y : Str) : (Op.bytesLess x.toList y.toList || x.toList == y.toList) = !ltS y x := Zag _ _
theorem Zcz {x y : Str} (h : ltS x y = false) (k : ltS y x = false) : x = y := by
 have h2 := Zg3 x y
 rw [k] at h2
 have h3 : Op.bytesLess x.toList y.toList = false := h
 rw [h3] at h2
 have h4 : beqS x y = true := by unfold beqS; simpa using h2
 exact beqS_iff.1 h4
def longS (s : Str) : Bool := decide (s.size > 64)
def allN (g : Nat → Bool) (n : Nat) : Bool := (List.range n).all fun i => Nat.beq i 0 || g i
def gS (l : List Str) (k : Nat) : Bool := ltS (l.getD (k - 1) default) (l.getD k default)
def rightL (l : List Str) : Bool := decide (l.length ≤ 1024) && !l.any longS && allN (gS l) l.length
def findL (l : List Str) (s : Str) : Int := if rightL l then idxFrom (fun x => beqS x s) l 0 else -1
theorem Zfy {α : Type} (f : α → Bool) (l : List α) : decide (idxFrom f l 0 ≥ 0) = l.any f := by
 rcases Z59 f l 0 with ⟨h1, h2⟩ | ⟨j, hj, h1, h2, h3⟩
 ·rw [h1]
  rw [List.find?_eq_none] at h2
  have : l.any f = false := by rw [List.any_eq_false]; exact h2
  rw [this]; rfl
 ·rw [h1]
  have : l.any f = true := List.any_eq_true.2 ⟨_, List.getElem_mem hj, h3⟩
  rw [this]; simp
def sameT : List Str → List Str → Bool
 | [], [] => true
 | x :: l, y :: r => beqS x y && sameT l r
 | _, _ => false
theorem Zas : ∀ (k i : Nat) (l : List Str), Ins ltS 0 k i l → k ≤ i → i < l.length → SAdj ltS 0 (i + 1) (insK k l)
 | 0, i, l, h, _, _ => h.done (.inl (Nat.le_refl _))
 | k + 1, i, l, h, hk, hl => by
  unfold insK
  cases hlt : ltS (l.getD (k + 1) default) (l.getD k default) with
  | true =>
   rw [if_pos rfl]
   exact Zas k i _ (h.step ltS_ok (by omega) hk hl hlt) (by omega) (by rw [Z6g]; exact hl)
  | false => exact h.done (.inr hlt)
theorem Zax : ∀ (f i : Nat) (l : List Str), SAdj ltS 0 i l → i + f ≤ l.length → SAdj ltS 0 (i + f) (outF f i l)
 | 0, i, l, h, _ => h
 | f + 1, i, l, h, hl => by
  unfold outF
  rw [show i + (f + 1) = i + 1 + f from by omega]
  exact Zax f (i + 1) _ (Zas i i l (Ins.start h) (Nat.le_refl _) (by omega)) (by rw [Z7k]; omega)
theorem Z7o (l : List Str) : SOn ltS 0 (risF l).length (risF l) := by
 have hl : (risF l).length = (dd l).length := (Z4p l).length_eq
 rw [hl]
 unfold risF
 cases h : (dd l).length with
 | zero => intro i j h1 h2 h3; omega
 | succ n =>
  have := Zax n 1 (dd l) (SAdj.refl1 (by omega)) (by omega)
  rw [show n + 1 - 1 = n from by omega, show n + 1 = 1 + n from by omega]
  exact this.on ltS_ok
theorem SOn.pw {m : List Str} (h : SOn ltS 0 m.length m) : m.Pairwise fun x y => ltS y x = false := by
 rw [List.pairwise_iff_getElem]
 intro i j hi hj hij
 have := h i j (by omega) (by omega) hj
 rwa [Z65 hj, Z65 hi] at this
theorem SOn.uniq {m r : List Str} (hp : m.Perm r) (hm : SOn ltS 0 m.length m) (hr : SOn ltS 0 r.length r) : m = r :=
 List.Perm.eq_of_pairwise (fun a b _ _ h k => Zcz k h) hm.pw hr.pw hp
def makeP (l : List Str) : List Str × Int := if l.any longS || decide (1024 < (dd l).length) then ([], 3) else (risF l, 0)
theorem Zar {l : List Str} {s : Str} {i : Nat} (h : i < l.length) : inL (l.take (i + 1)) s = (inL (l.take i) s || beqS l[i] s) := by
 unfold inL; rw [List.take_succ_eq_append_getElem h, List.any_append]; simp
end Go.Sx
namespace Go.Sx
open Go
theorem Zcb {a b : List Str} (h : ∀ x, x ∈ a ↔ x ∈ b) : (dd a).Perm (dd b) :=
 (List.perm_ext_iff_of_nodup (Z7d a) (Z7d b)).2 fun x => by rw [Zca, Zca, h]
theorem Zg9 {a b : List Str} (h : ∀ x, x ∈ a ↔ x ∈ b) : risF a = risF b :=
 SOn.uniq ((Z4p a).trans ((Zcb h).trans (Z4p b).symm)) (Z7o a) (Z7o b)
def rotF (l : List Str) (k i : Nat) : List Str := (List.range i).map fun j => l.getD ((j + k) % l.length) default
end Go.Sx
namespace Go.Sx
open Go
def SeqGR {α : Type} (Fin : List α → Prop) (J Jx : List α → AHeap → Prop) : AEnd → AHeap → Prop :=
 fun e H' => (∃ v, e = .ret v) ∧ ((∃ l H'', Fin l ∧ H'.Perm H'' ∧ J l H'') ∨ (∃ pre H'', H'.Perm H'' ∧ Jx pre H''))
structure SeqG {α : Type} (P : Program) (gf : Nat) (caps : List AV) (Hit : AHeap) (enc : α → List AV) (Adm Fin : List α → Prop) : Prop where
 ok : Callable P gf
 run : ∀ (id : Nat) (J Jx : List α → AHeap → Prop),
  (∀ pre x H, Adm (pre ++ [x]) → J pre H → YCalls P id (enc x) H (fun e H' => (e = .ret (.v (.bool true)) ∧ J (pre ++ [x]) H') ∨ (e = .ret (.v (.bool false)) ∧ Jx (pre ++ [x]) H'))) →
  ∀ H, J [] H → ACalls P gf (.yld id :: caps) (Hit ++ H) (SeqGR Fin J Jx)
theorem Z6p {P : Program} {Q : Exit → St → Prop} {s : St} {g : Operand} {ps : Array Tmp} {assign body : Code} {gf : Nat} {caps : List AV} {α : Type} (enc : α → List AV) (Adm Fin : List α → Prop) (Hit Hb0 : AHeap)
  (I : List α → AHeap → Prop) (Ix : Code → List α → AHeap → Prop) (hg : ev s.T g = some (.fn (.func gf) caps)) (hp : s.H.Perm (Hit ++ Hb0)) (hI0 : I [] Hb0) (hseq : SeqG P gf caps Hit enc Adm Fin)
  (hps : ∀ x, (enc x).length = ps.size) (hpn : ∀ t, t ∈ ps.toList → t < s.n)
  (round : ∀ l pre x Hb, Adm (pre ++ [x]) → I pre Hb → AWp P (some l) assign (fun e s' => e = .normal ∧ AWp P (some l) body (roundQ I Ix (pre ++ [x])) s') ⟨prm s.T ps.toList (enc x), Hb, [], s.n⟩)
  (done : ∀ i ll Hb, Fin ll → I ll Hb → Q .normal ⟨s.T, Hb ++ [(i, .raw (.deferred (some [])))], i :: s.D, s.n⟩)
  (stop : ∀ i c pre Hb, Ix c pre Hb → AWp P none c Q ⟨s.T, Hb ++ [(i, .raw (.deferred (some [])))], i :: s.D, s.n⟩) :
  AWp P none (.rangeFunc g ps assign body) Q s := by
 intro Z C0 H0 w0 C a w he hs
 refine wpIn_rangeFunc (F := Wd none) (n := 0) (fun fn _ => ?_)
 -- two new blocks
 obtain ⟨i1, hi1⟩ := Z5c (C.U ++ Z)
 rw [List.mem_append, not_or] at hi1
 have hd1 : OR (C.bind i1 w.heap.size 0) i1 (w.alloc (.deferred (some []))) (.raw (.deferred (some []))) := ⟨_, 0, Ctx.bind_m .., heap_alloc_new w _⟩
 obtain ⟨hw1, he1⟩ := Z1t (Z := Z) hs.wr hi1.1 hi1.2 hd1
 obtain ⟨i2, hi2⟩ := Z5c ((C.bind i1 w.heap.size 0).U ++ Z)
 rw [List.mem_append, not_or] at hi2
 let rec0 : Loop := { state := .ready, pending := none, fn := fn, tmps := a.tmps, params := ps, assign := assign, body := body, defers := w.heap.size }
 let C2 := (C.bind i1 w.heap.size 0).bind i2 (w.alloc (.deferred (some []))).heap.size 0
 let w2 := (w.alloc (.deferred (some []))).alloc (.loop rec0)
 have hsz1 : (w.alloc (.deferred (some []))).heap.size = w.heap.size + 1 := by simp
 have hl2 : OR C2 i2 w2 (.loop s.T s.n ps assign body .ready none) := by
  refine ⟨_, 0, rec0, Ctx.bind_m .., heap_alloc_new _ _, rfl, rfl, rfl, rfl, rfl, hs.sz, fun t x ht => ?_⟩
  obtain ⟨v, h1, h2⟩ := hs.sl t x ht
  exact ⟨v, h1, (h2.mono he1.le).mono (Ctx.le_bind hi2.1)⟩
 obtain ⟨hw2, he2⟩ := Z1t (Z := Z) hw1 hi2.1 hi2.2 hl2
 have he12 := he1.trans he2
 have hm2 : C2.m i2 = some (w.heap.size + 1, 0) := by rw [← hsz1]; exact Ctx.bind_m ..
 have hm1 : C2.m i1 = some (w.heap.size, 0) := by rw [he2.le.m i1 List.mem_cons_self]; exact Ctx.bind_m ..
 -- the function's value
 have hgv := hs.ev hg
 generalize hge : a.eval g = gv at hgv
 cases hgv with
 | fn _ _ vcaps hcl hcv =>
  refine ⟨w.heap.size + 1, [{ target := .collected w.heap.size, args := #[] }], w2, { target := .fn (.func gf) vcaps, args := #[.func (.yield (w.heap.size + 1)) #[] #[]] }, w2, gf, #[.func (.yield (w.heap.size + 1)) #[] #[]] ++ vcaps, w2, run_enterLoop_outer fn a.tmps ps assign body, ?_, fun _ _ => trivial, ?_, nofun, ?_⟩
  ·simp only [resolve, rangeCall, Deferred.ofValue, hge, Sem.run_pure]
   simp [Act.eval]
  ·simp only [invoke]; exact Z4q hseq.ok _ w2
  -- the rounds
  let J : List α → AHeap → Prop := fun pre H => ∃ Hb, I pre Hb ∧ H = (i2, .loop s.T s.n ps assign body .ready none) :: Hb
  let Jx : List α → AHeap → Prop := fun pre H => ∃ c Hb, Ix c pre Hb ∧ H = (i2, .loop s.T s.n ps assign body .done (some c)) :: Hb
  have hY : ∀ pre x H, Adm (pre ++ [x]) → J pre H → YCalls P i2 (enc x) H (fun e H' => (e = .ret (.v (.bool true)) ∧ J (pre ++ [x]) H') ∨ (e = .ret (.v (.bool false)) ∧ Jx (pre ++ [x]) H')) := by
   rintro pre x H hxs ⟨Hb, hI, rfl⟩
   intro Z1 C1 w1 vs l N hm hwr hvs
   obtain ⟨hu, hor⟩ := hwr.ids _ _ List.mem_cons_self
   obtain ⟨r, h1, h2, h3, h4, h5, h6, h7, h8⟩ := Z1m hor hm
   refine ⟨r.fn, _, r.assign, r.body, run_yield h1 (by rw [← hvs.1, hps, h4]), ?_⟩
   refine roundIn_of_wpIn (F := Wd none) trivial ?_
   have hwb : WR C1 Hb w1 := (hwr.perm (List.perm_append_comm (l₁ := [(i2, _)]) (l₂ := Hb))).left
   have hfold : ((r.params.zip vs).foldl (fun tmps (x : Tmp × Value) => tmps.setIfInBounds x.1 x.2) r.tmps) = ((ps.toList.zip vs.toList).foldl (fun tmps (x : Tmp × Value) => tmps.setIfInBounds x.1 x.2) r.tmps) := by
    rw [h4, ← Array.foldl_toList, Array.toList_zip]
   obtain ⟨hq1, hq2⟩ := Z5l (C := C1) (n := s.n) ps.toList (enc x) s.T r.tmps vs.toList (by rw [hps]; simp) (by rw [hvs.1]; simp) hpn h7 h8 (fun i y v hy hv => hvs.2 i y v hy (by rw [← Array.getElem?_toList]; exact hv))
   have hSR : SR C1 ⟨prm s.T ps.toList (enc x), Hb, [], s.n⟩ { tmps := (r.params.zip vs).foldl (fun tmps (x : Tmp × Value) => tmps.setIfInBounds x.1 x.2) r.tmps, defers := [] } w1 := by
    refine ⟨hwb, ?_, rfl, nofun, ?_⟩
    ·rw [hfold]; exact hq2
    ·rw [hfold]; exact hq1
   rw [h5, h6]
   refine wpIn_mono (round l pre x Hb hxs hI (Z1 ++ []) C1 Hb w1 C1 _ w1 (.refl ..) hSR) ?_
   rintro e a' w' ⟨_, C', s', ⟨rfl, hbody⟩, hs', he'⟩
   -- the record is beside
   have hperm : ((i2, AObj.loop s.T s.n ps assign body .ready none) :: Hb).Perm (Hb ++ [(i2, .loop s.T s.n ps assign body .ready none)]) := List.perm_append_comm (l₁ := [(i2, _)]) (l₂ := Hb)
   obtain ⟨hf1, hf2⟩ := he'.frame (hwr.perm hperm) hs'.wr
   have hperm' : (s'.H ++ [(i2, AObj.loop s.T s.n ps assign body .ready none)]).Perm ((i2, .loop s.T s.n ps assign body .ready none) :: s'.H) := List.perm_append_comm (l₁ := s'.H) (l₂ := [(i2, _)])
   have hwr' := hf1.perm hperm'
   have hm' : C'.m i2 = some (l, N) := by rw [he'.le.m i2 hu]; exact hm
   obtain ⟨_, hor'⟩ := hwr'.ids _ _ List.mem_cons_self
   obtain ⟨r', g1, g2, g3, g4, g5, g6, g7, g8⟩ := Z1m hor' hm'
   obtain ⟨hb1, hb2⟩ := Z2l (Z := Z1) (st' := .busy) (pend' := r'.pending) hwr' hm' g1
   refine ⟨_, run_beginRound g1 g2, ?_⟩
   have hwbusy : WR C' s'.H (w'.putObj l (.loop { r' with state := .busy })) := (hb1.perm (List.perm_append_comm (l₁ := [(i2, _)]) (l₂ := s'.H))).left
   refine wpIn_mono (hbody (Z1 ++ []) C' s'.H _ C' a' _ (.refl ..) ⟨hwbusy, hs'.sl, hs'.df, hs'.du, hs'.sz⟩) ?_
   rintro e a'' w'' ⟨hno, C'', s'', hq, hs'', he''⟩
   have big : ∀ s3, Weak s'' s3 → ∀ (jump : Option Code) (st : LoopState), st = (if jump.isNone then .ready else .done) →
     ∃ v w4, (Instr.endRound l jump).run P w'' = .ok v w4 ∧ v = .bool jump.isNone ∧ ∃ C3, WR C3 ((i2, .loop s.T s.n ps assign body st jump) :: s3.H) w4 ∧ Ext Z1 C1 ((i2, .loop s.T s.n ps assign body .ready none) :: Hb) w1 C3 ((i2, .loop s.T s.n ps assign body st jump) :: s3.H) w4 := by
    intro s3 hwk jump st hst
    obtain ⟨C3, hs3, he3⟩ := hwk Z1 C'' a'' w'' hs''
    have he4 : Ext Z1 C' s'.H (w'.putObj l (.loop { r' with state := .busy })) C3 s3.H w'' := (he''.subZ (fun z hz => List.mem_append_left _ hz)).trans he3
    obtain ⟨hf3, hf4⟩ := he4.frame (hb1.perm (List.perm_append_comm (l₁ := [(i2, _)]) (l₂ := s'.H))) hs3.wr
    have hwr3 := hf3.perm (List.perm_append_comm (l₁ := s3.H) (l₂ := [(i2, _)]))
    have hm3 : C3.m i2 = some (l, N) := by
     rw [he4.le.m i2 (he'.le.U i2 hu)]; exact hm'
    obtain ⟨_, hor3⟩ := hwr3.ids _ _ List.mem_cons_self
    obtain ⟨r3, k1, k2, k3, k4, k5, k6, k7, k8⟩ := Z1m hor3 hm3
    obtain ⟨ht1, ht2⟩ := Z2l (Z := Z1) (st' := st) (pend' := jump) hwr3 hm3 k1
    refine ⟨_, _, run_endRound jump k1, rfl, C3, by rw [← hst]; exact ht1, ?_⟩
    rw [← hst]
    have x1 : Ext Z1 C1 ((i2, .loop s.T s.n ps assign body .ready none) :: Hb) w1 C' ((i2, .loop s.T s.n ps assign body .ready none) :: s'.H) w' := ((hf2.subZ (fun z hz => List.mem_append_left _ hz)).permL hperm.symm).permR hperm'
    have x2 := (hf4.permL (List.perm_append_comm (l₁ := s'.H) (l₂ := [(i2, _)]))).permR (List.perm_append_comm (l₁ := s3.H) (l₂ := [(i2, _)]))
    exact ((x1.trans hb2).trans x2).trans ht2
   cases e with
   | normal =>
    obtain ⟨s3, hwk, hI3⟩ := hq
    obtain ⟨v, w4, k1, rfl, C3, k2, k3⟩ := big s3 hwk none .ready rfl
    exact ⟨_, w4, k1, C3, _, .ret (.v (.bool true)), .inl ⟨rfl, s3.H, hI3, rfl⟩, k2, k3, .v _⟩
   | ret =>
    obtain ⟨s3, hwk, hI3⟩ := hq
    obtain ⟨v, w4, k1, rfl, C3, k2, k3⟩ := big s3 hwk (some .ret) .done rfl
    exact ⟨_, w4, k1, C3, _, .ret (.v (.bool false)), .inr ⟨rfl, _, s3.H, hI3, rfl⟩, k2, k3, .v _⟩
   | exit i =>
    obtain ⟨s3, hwk, hI3⟩ := hq
    obtain ⟨v, w4, k1, rfl, C3, k2, k3⟩ := big s3 hwk (some (.exit i)) .done rfl
    exact ⟨_, w4, k1, C3, _, .ret (.v (.bool false)), .inr ⟨rfl, _, s3.H, hI3, rfl⟩, k2, k3, .v _⟩
   | goto i =>
    obtain ⟨s3, hwk, hI3⟩ := hq
    obtain ⟨v, w4, k1, rfl, C3, k2, k3⟩ := big s3 hwk (some (.goto i)) .done rfl
    exact ⟨_, w4, k1, C3, _, .ret (.v (.bool false)), .inr ⟨rfl, _, s3.H, hI3, rfl⟩, k2, k3, .v _⟩
   | panic ch => exact hq.elim
   | outgrown => exact hno rfl
  -- the one call
  have hcall := hseq.run i2 J Jx hY _ ⟨Hb0, hI0, rfl⟩
  have hpa : ((i2, AObj.loop s.T s.n ps assign body .ready none) :: (i1, .raw (.deferred (some []))) :: s.H).Perm ((Hit ++ (i2, .loop s.T s.n ps assign body .ready none) :: Hb0) ++ [(i1, .raw (.deferred (some [])))]) := by
   refine List.Perm.trans ?_ (List.perm_append_comm (l₁ := [(i1, AObj.raw (.deferred (some [])))]) (l₂ := Hit ++ (i2, .loop s.T s.n ps assign body .ready none) :: Hb0))
   refine (List.Perm.swap _ _ _).trans ?_
   refine List.Perm.cons _ ?_
   exact (List.Perm.cons _ hp).trans List.perm_middle.symm
  have hvs : VRs C2 (.yld i2 :: caps) (#[.func (.yield (w.heap.size + 1)) #[] #[]] ++ vcaps) := by
   have h1 : VRs C2 [.yld i2] #[.func (.yield (w.heap.size + 1)) #[] #[]] := ⟨rfl, by
    intro i x v hx hv
    cases i with
    | zero => simp at hx hv; subst hx; subst hv; exact .yld i2 _ 0 hm2 List.mem_cons_self
    | succ i => simp at hx⟩
   exact h1.append ⟨hcl, fun i x v hx hv => ((hcv i x v hx hv).mono he1.le).mono he2.le⟩
  refine ((hcall.frame _ _ hpa).run Z C2 w2 _ hw2 hvs).mono ?_
  rintro e w3 ⟨C3, K3, x, ⟨H', ⟨⟨v, rfl⟩, hfin⟩, rfl⟩, hw3, he3, hx⟩
  have hm3 : C3.m i2 = some (w.heap.size + 1, 0) := by rw [he3.le.m i2 List.mem_cons_self]; exact hm2
  -- behind it
  have fin : ∀ (st : LoopState) (pend : Option Code) (Hb : AHeap), H'.Perm ((i2, .loop s.T s.n ps assign body st pend) :: Hb) → st ≠ .busy →
    ∃ w4, (Instr.endLoop (w.heap.size + 1)).run P w3 = .ok pend w4 ∧ SR C3 ⟨s.T, Hb ++ [(i1, .raw (.deferred (some [])))], i1 :: s.D, s.n⟩ { a with defers := [{ target := .collected w.heap.size, args := #[] }] ++ a.defers } w4 ∧
     Ext Z C0 H0 w0 C3 (Hb ++ [(i1, .raw (.deferred (some [])))]) w4 := by
   intro st pend Hb hpm hst
   have hpm' : (H' ++ [(i1, AObj.raw (.deferred (some [])))]).Perm ((i2, .loop s.T s.n ps assign body st pend) :: (Hb ++ [(i1, .raw (.deferred (some [])))])) := by
    exact List.Perm.append_right _ hpm
   have hwl := hw3.perm hpm'
   obtain ⟨_, hor⟩ := hwl.ids _ _ List.mem_cons_self
   obtain ⟨r, g1, g2, g3, _⟩ := Z1m hor hm3
   obtain ⟨ht1, ht2⟩ := Z2l (Z := Z) (st' := .exhausted) (pend' := r.pending) hwl hm3 g1
   refine ⟨_, by rw [← g3]; exact run_endLoop g1 (by rw [g2]; exact hst), ?_, ?_⟩
   ·have hsub : ∀ p, p ∈ (Hb ++ [(i1, AObj.raw (.deferred (some [])))]) → p ∈ (i2, AObj.loop s.T s.n ps assign body .exhausted r.pending) :: (Hb ++ [(i1, AObj.raw (.deferred (some [])))]) := fun p hp => List.mem_cons_of_mem _ hp
    have hnd := ht1.nd
    simp only [List.map_cons, List.nodup_cons] at hnd
    refine ⟨ht1.sub hsub hnd.2, fun t x ht => ?_, ?_, ?_, hs.sz⟩
    ·obtain ⟨v, h1, h2⟩ := hs.sl t x ht
     exact ⟨v, h1, (h2.mono he12.le).mono he3.le⟩
    ·simp only [List.map_cons, List.cons_append, List.nil_append]
     have e1 : mark C3 i1 = { target := .collected w.heap.size, args := #[] } := by
      simp [mark, he3.le.m i1 (List.mem_cons_of_mem _ List.mem_cons_self), hm1]
     rw [e1, hs.df]
     congr 1
     exact List.map_congr_left fun i hi => by
      have e2 : C3.m i = C.m i := (he3.le.m i (he12.le.U i (hs.du i hi))).trans (he12.le.m i (hs.du i hi))
      have e3 : C3.df i = C.df i := (he3.le.df i (he12.le.U i (hs.du i hi))).trans (he12.le.df i (hs.du i hi))
      simp only [mark, e2, e3]
    ·intro i hi
     rcases List.mem_cons.1 hi with rfl | hi
     ·exact he3.le.U _ (List.mem_cons_of_mem _ List.mem_cons_self)
     ·exact he3.le.U i (he12.le.U i (hs.du i hi))
   ·refine (he.trans (he12.trans ((he3.permR hpm').trans ht2))).trans (Ext.sub (fun p hp => List.mem_cons_of_mem _ hp))
  cases e with
  | returned v' =>
   rcases hfin with ⟨ll, H'', hfl, hpm, Hb, hI, rfl⟩ | ⟨pre, H'', hpm, c, Hb, hIx, rfl⟩
   ·obtain ⟨w4, h1, h2, h3⟩ := fin .ready none Hb hpm nofun
    exact ⟨none, w4, h1, nofun, C3, _, done i1 ll Hb hfl hI, h2, h3⟩
   ·obtain ⟨w4, h1, h2, h3⟩ := fin .done (some c) Hb hpm nofun
    exact ⟨some c, w4, h1, stop i1 c pre Hb hIx Z C0 H0 w0 C3 _ w4 h3 h2⟩
  | panicked ch => exact hx.elim
  | outgrown => exact hx.elim
end Go.Sx
namespace Go.Sx
open Go
open Go.ChangeMaps (setBlock)
def AWpO (Z : List Nat) (C0 : Ctx) (H0 : AHeap) (w0 : World) (P : Program) (ro : Option Nat) (c : Code) (Q : Exit → St → Prop) (s : St) : Prop :=
 ∀ C a w, Ext Z C0 H0 w0 C s.H w → SR C s a w → c.wpIn (Wd ro) 0 P (Post Z C0 H0 w0 Q) a w
def AOpsO (Z : List Nat) (C0 : Ctx) (H0 : AHeap) (w0 : World) (P : Program) (ro : Option Nat) (ops : Array Oper) (l : List Oper) (Q : Exit → St → Prop) (s : St) : Prop :=
 ∀ k, ops.toList.drop k = l → ∀ C a w, Ext Z C0 H0 w0 C s.H w → SR C s a w → wpOpsIn (Wd ro) 0 P ops (Post Z C0 H0 w0 Q) (List.range' k l.length) a w
section
variable {Z : List Nat} {C0 : Ctx} {H0 : AHeap} {w0 : World} {P : Program} {ro : Option Nat} {Q : Exit → St → Prop} {s : St}
theorem Z2r {c : Code} (h : AWp P ro c Q s) : AWpO Z C0 H0 w0 P ro c Q s := h Z C0 H0 w0
theorem Zae {ops : Array Oper} {l : List Oper} (h : AOps P ro ops l Q s) : AOpsO Z C0 H0 w0 P ro ops l Q s := fun k hk => h k hk Z C0 H0 w0
theorem Z0z {x y : Code} (h : AWpO Z C0 H0 w0 P ro x (thenQ (AWpO Z C0 H0 w0 P ro y Q) Q) s) : AWpO Z C0 H0 w0 P ro (.seq x y) Q s :=
 fun C a w he hs => wpIn_seq (wpIn_mono (h C a w he hs) (by
  rintro e a' w' ⟨h1, C', s', hq, hs', he'⟩
  cases e with
  | normal => exact hq C' a' w' he' hs'
  | outgrown => exact absurd rfl h1
  | _ => exact ⟨h1, C', s', hq, hs', he'⟩))
theorem Z2g {c : Operand} {x y : Code} {t : Bool} (hc : ev s.T c = some (.v (.bool t))) (ht : t = true → AWpO Z C0 H0 w0 P ro x Q s) (hf : t = false → AWpO Z C0 H0 w0 P ro y Q s) : AWpO Z C0 H0 w0 P ro (.cond c x y) Q s :=
 fun C a w he hs => wpIn_cond_split (t := t) (VR.val (hs.ev hc)) (fun h => ht h C a w he hs) (fun h => hf h C a w he hs)
theorem Z1y {id : Nat} {c : Code} (h : AWpO Z C0 H0 w0 P ro c (blockQ id Q) s) : AWpO Z C0 H0 w0 P ro (.block id c) Q s :=
 fun C a w he hs => wpIn_block (wpIn_mono (h C a w he hs) (by
  rintro e a' w' ⟨h1, C', s', hq, hs', he'⟩
  cases e with
  | exit i =>
   by_cases hi : i = id
   ·simp only [blockQ, hi, if_true] at hq
    simp only [Exit.inBlock, hi, if_true]
    exact ⟨nofun, C', s', hq, hs', he'⟩
   ·simp only [blockQ, hi, if_false] at hq
    simp only [Exit.inBlock, hi, if_false]
    exact ⟨nofun, C', s', hq, hs', he'⟩
  | _ => exact ⟨h1, C', s', hq, hs', he'⟩))
theorem Zc2 {c : Code} {s' : St} (hw : Weak s s') (h : AWpO Z C0 H0 w0 P ro c Q s') : AWpO Z C0 H0 w0 P ro c Q s :=
 fun C a w he hs => let ⟨C', h1, h2⟩ := hw Z C a w hs; h C' a w (he.trans h2) h1
theorem Zc1 {c : Code} {α : Type} (inv : α → St) (μ : α → Nat) (x0 : α) (h0 : Weak s (inv x0))
  (round : ∀ x, AWpO Z C0 H0 w0 P ro c (thenQ (fun s' => ∃ y, μ y < μ x ∧ Weak s' (inv y)) Q) (inv x)) : AWpO Z C0 H0 w0 P ro (.loop c) Q s := by
 refine Zc2 h0 ?_
 intro C a w he hs
 let I : Act → World → Nat → Prop := fun a w n => ∃ x C, μ x ≤ n ∧ SR C (inv x) a w ∧ Ext Z C0 H0 w0 C (inv x).H w
 have hI : ∃ n, I a w n := ⟨μ x0, x0, C, Nat.le_refl _, hs, he⟩
 classical
 refine wpIn_loop (fun a w => ∃ n, I a w n) (fun a w => if h : ∃ n, I a w n then Classical.choose (Z2x h) else 0) hI ?_
 intro a w hx
 obtain ⟨x, C, hle, hs, he⟩ := (Classical.choose_spec (Z2x hx)).1
 refine wpIn_mono (round x C a w he hs) ?_
 rintro e a' w' ⟨h1, C', s', hq, hs', he'⟩
 cases e with
 | normal =>
  obtain ⟨y, hy, hwk⟩ := hq
  obtain ⟨C'', h2, h3⟩ := hwk Z C' a' w' hs'
  have hi : I a' w' (μ y) := ⟨y, C'', Nat.le_refl _, h2, he'.trans h3⟩
  refine ⟨⟨_, hi⟩, ?_⟩
  rw [dif_pos ⟨_, hi⟩, dif_pos hx]
  exact Nat.lt_of_le_of_lt ((Classical.choose_spec (Z2x ⟨_, hi⟩)).2 _ hi) (Nat.lt_of_lt_of_le hy hle)
 | outgrown => exact absurd rfl h1
 | _ => exact ⟨h1, C', s', hq, hs', he'⟩
theorem Z4y {c : Code} {α : Type} (inv : α → St) (J : α → Prop) (μ : α → Nat) (x0 : α) (j0 : J x0) (h0 : Weak s (inv x0))
  (round : ∀ x, J x → AWpO Z C0 H0 w0 P ro c (thenQ (fun s' => ∃ y, J y ∧ μ y < μ x ∧ Weak s' (inv y)) Q) (inv x)) : AWpO Z C0 H0 w0 P ro (.loop c) Q s :=
 Zc1 (α := { x : α // J x }) (fun x => inv x.1) (fun x => μ x.1) ⟨x0, j0⟩ h0 fun x => by
  intro C a w he hs
  refine wpIn_mono (round x.1 x.2 C a w he hs) ?_
  rintro e a' w' ⟨h1, C', s', hq, hs', he'⟩
  refine ⟨h1, C', s', ?_, hs', he'⟩
  cases e with
  | normal => obtain ⟨y, h2, h3, h4⟩ := hq; exact ⟨⟨y, h2⟩, h3, h4⟩
  | _ => exact hq
theorem Z0y {id : Nat} {l : List Oper} (h : AOpsO Z C0 H0 w0 P ro l.toArray l Q s) : AWpO Z C0 H0 w0 P ro (.region id l.toArray false) Q s :=
 fun C a w he hs => wpIn_region (by
  have := h 0 (by simp) C a w he hs
  rw [List.range_eq_range']
  simpa using this)
theorem Z1d {ops : Array Oper} (h : Q .normal s) : AOpsO Z C0 H0 w0 P ro ops [] Q s := fun _ _ C _ _ he hs => by
 simp only [List.length_nil, List.range'_zero, wpOpsIn]
 exact ⟨nofun, C, s, h, hs, he⟩
def StepO (Z : List Nat) (C0 : Ctx) (H0 : AHeap) (w0 : World) (P : Program) (ro : Option Nat) (o : Oper) (K : St → Prop) (KP : List PanicEntry → St → Prop) (s : St) : Prop :=
 ∀ C a w, Ext Z C0 H0 w0 C s.H w → SR C s a w →
  o.uponIn (Wd ro) 0 P a (Sat Z C0 H0 w0 K) (fun e a' w' => match e with | .panic ch => Sat Z C0 H0 w0 (KP ch) a' w' | _ => False) ((o.semAt ro a.eval).run P w)
theorem Z2e {ops : Array Oper} {o : Oper} {rest : List Oper} (hw : Wanted ops s.T o true)
  (h : StepO Z C0 H0 w0 P ro o (AOpsO Z C0 H0 w0 P ro ops rest Q) (fun ch => Q (.panic ch)) s) : AOpsO Z C0 H0 w0 P ro ops (o :: rest) Q s := by
 intro k hk C a w he hs
 obtain ⟨h1, h2⟩ := Z06 hk
 have ho : ops[k]? = some o := by rw [← Array.getElem?_toList]; exact h1
 rw [List.length_cons, List.range'_succ, wpOpsIn_cons]
 unfold wpOpIn
 simp only [ho, hs.wanted hw, if_true]
 refine ⟨fun _ _ => trivial, ?_⟩
 refine Z45 ?_ ?_ ?_ (h C a w he hs)
 ·rintro a' w' ⟨C', s', hk', hs', he'⟩
  exact hk' (k + 1) h2 C' a' w' he' hs'
 ·intro c w' hx
  exact ⟨nofun, hx⟩
 ·rintro ⟨a', w', hx⟩
  exact hx.elim
theorem Z5o {ops : Array Oper} {o : Oper} {rest : List Oper} (Hn : AHeap) (x : AV) (hw : Wanted ops s.T o true) (hd : dok o.dst s.n = true)
  (he : Eff P o s.T Hn x []) (hn : ∀ p, p ∈ Hn → p ∈ s.H) (h : AOpsO Z C0 H0 w0 P ro ops rest Q { s with T := Sx.put s.T o.dst x }) : AOpsO Z C0 H0 w0 P ro ops (o :: rest) Q s := by
 refine Z2e hw ?_
 intro C a w hx hs
 refine he Z C s.H a w hs.wr hn (fun p _ y hy => hs.ev hy) nofun List.nodup_nil (fun _ _ => by simp) ro _ _ ?_
 intro v w1 C1 hv hw1 he1
 exact ⟨C1, _, h, hs.put he1.le hw1 (Z0r hd) hv, hx.trans he1⟩
theorem Z2c {ops : Array Oper} {o : Oper} {rest : List Oper} {x : AV} (hw : Wanted ops s.T o true) (hd : dok o.dst s.n = true)
  (he : Eff P o s.T [] x []) (h : AOpsO Z C0 H0 w0 P ro ops rest Q { s with T := Sx.put s.T o.dst x }) : AOpsO Z C0 H0 w0 P ro ops (o :: rest) Q s := by
 refine Z2e hw ?_
 intro C a w hx hs
 refine he Z C s.H a w hs.wr nofun (fun p _ y hy => hs.ev hy) nofun List.nodup_nil (fun _ _ => by simp) ro _ _ ?_
 intro v w1 C1 hv hw1 he1
 exact ⟨C1, _, h, hs.put he1.le hw1 (Z0r hd) hv, hx.trans he1⟩
theorem Zd9 {C : Ctx} {H : AHeap} {w : World} {k id b N : Nat} {o : Obj} (hw : WR C H w) (hH : H[k]? = some (id, .raw o)) (hm : C.m id = some (b, N)) : w.heap[b]? = some o := by
 obtain ⟨_, b', N', h1, h2⟩ := hw.ids _ _ (List.mem_of_getElem? hH)
 rw [hm] at h1; cases h1
 exact h2
theorem Z3w {ops : Array Oper} {o : Oper} {rest : List Oper} {t kt et q mb N : Nat} {p : Operand} {ents : Array MapEntry} {clock : Nat} (k : Nat) [hu : UD P t (.map kt et)] (hw : Wanted ops s.T o true) (hd : dok o.dst s.n = true)
  (ho : o.op = .range t p) (hp : ev s.T p = some (.map q)) (hH : s.H[k]? = some (q, .raw (.map ents clock))) (hq : C0.m q = some (mb, N)) (hqu : q ∈ C0.U)
  (h : ∀ id, AOpsO Z C0 H0 w0 P ro ops rest Q { s with T := Sx.put s.T o.dst (.ptr id 1 0 0), H := (id, .raw (.mapIter (some mb) clock #[] clock)) :: s.H }) : AOpsO Z C0 H0 w0 P ro ops (o :: rest) Q s := by
 refine Z2e hw ?_
 intro C a w hx hs
 have hm : C.m q = some (mb, N) := (hx.le.m q hqu).trans hq
 have hb := Zd9 hs.wr hH hm
 have hpv := hs.ev hp
 have hpe : a.eval p = .map (some mb) := by
  generalize a.eval p = u at hpv
  cases hpv with
  | map _ b' N' hid _ => rw [hm] at hid; cases hid; rfl
 obtain ⟨id, hid⟩ := Z5c (C.U ++ Z)
 rw [List.mem_append, not_or] at hid
 have hor : OR (C.bind id w.heap.size 1) id (w.alloc (.mapIter (some mb) clock #[] clock)) (.raw (.mapIter (some mb) clock #[] clock)) := ⟨_, 1, Ctx.bind_m .., heap_alloc_new w _⟩
 obtain ⟨hw1, he1⟩ := Z1t (Z := Z) hs.wr hid.1 hid.2 hor
 have hrun : (o.semAt ro a.eval).run P w = .ok (.value (.pointer (some ⟨w.heap.size, 0, none⟩))) (w.alloc (.mapIter (some mb) clock #[] clock)) := by
  rw [Oper.semAt_eq _ _ _ (by intro c; rw [ho]; nofun)]
  simp only [execOp, ho, hpe]
  simp [Sem.run_bind, run_range_map w t kt et mb ents clock hu.ud hb, Result.andThen]
 rw [hrun]
 refine ⟨_, _, h id, hs.put he1.le hw1 (Z0r hd) ?_, hx.trans he1⟩
 have := VR.ptr (C := C.bind id w.heap.size 1) id 1 0 0 w.heap.size 1 (Ctx.bind_m ..) List.mem_cons_self
 simpa using this
theorem Z4w {ops : Array Oper} {o : Oper} {rest : List Oper} {q it mb N since c0 : Nat} {p : Operand} {ents : Array MapEntry} {clock : Nat} {seen : Array Nat} (j k : Nat) (hw : Wanted ops s.T o true) (hd : dok o.dst s.n = true)
  (ho : o.op = .next p false) (hp : ev s.T p = some (.ptr it 1 0 0)) (hI : s.H[j]? = some (it, .raw (.mapIter (some mb) since seen c0))) (hH : s.H[k]? = some (q, .raw (.map ents clock))) (hq : C0.m q = some (mb, N)) (hqu : q ∈ C0.U)
  (hold : ∀ x ∈ ents.toList, x.born < since) (hsc : since ≤ c0)
  (h0 : (leftOf ents seen).size = 0 → AOpsO Z C0 H0 w0 P ro ops rest Q { s with T := Sx.put s.T o.dst (.tup [.v (.bool false)]) })
  (h1 : ∀ e ∈ (leftOf ents seen).toList, AOpsO Z C0 H0 w0 P ro ops rest Q { s with T := Sx.put s.T o.dst (.tup [.v (.bool true), .v e.key, .v e.val]), H := s.H.set j (it, .raw (.mapIter (some mb) since (seen.push e.born) clock)) }) : AOpsO Z C0 H0 w0 P ro ops (o :: rest) Q s := by
 refine Z2e hw ?_
 intro C a w hx hs
 have hm : C.m q = some (mb, N) := (hx.le.m q hqu).trans hq
 have hb := Zd9 hs.wr hH hm
 have hpv := hs.ev hp
 have tup1 : ∀ C' : Ctx, VR C' (.tup [.v (.bool false)]) (.tuple #[.bool false]) := fun C' => .tup _ _ rfl (fun i c x hc hv => by
  cases i with
  | zero => simp at hc hv; subst hc; subst hv; exact .v _
  | succ i => simp at hc)
 have tup3 : ∀ (C' : Ctx) (x y : Value), VR C' (.tup [.v (.bool true), .v x, .v y]) (.tuple #[.bool true, x, y]) := fun C' x y => .tup _ _ rfl (fun i c z hc hv => by
  rcases i with _ | _ | _ | i
  ·simp at hc hv; subst hc; subst hv; exact .v _
  ·simp at hc hv; subst hc; subst hv; exact .v _
  ·simp at hc hv; subst hc; subst hv; exact .v _
  ·simp at hc)
 obtain ⟨hu', r, N', hmi, hr⟩ := hs.wr.ids _ _ (List.mem_of_getElem? hI)
 have hpe : a.eval p = .pointer (some ⟨r, 0, none⟩) := by
  generalize a.eval p = u at hpv
  cases hpv with
  | ptr _ _ _ _ b' N'' hid _ => rw [hmi] at hid; cases hid; rfl
 have hsem : ∀ (v : Value) (w' : World), (Instr.next (.pointer (some ⟨r, 0, none⟩)) false o.type).run P w = .ok v w' → (o.semAt ro a.eval).run P w = .ok (.value v) w' := fun v w' hv => by
  rw [Oper.semAt_eq _ _ _ (by intro c; rw [ho]; nofun)]
  simp only [execOp, ho, hpe]
  simp [Sem.run_bind, hv, Result.andThen]
 rcases run_next_at (P := P) w o.type r mb since c0 seen ents clock hr hb hold hsc with ⟨hz, hrun⟩ | ⟨e, hem, w1, hw1, hrun⟩
 ·rw [hsem _ _ hrun]
  exact ⟨C, _, h0 hz, hs.put (.refl C) hs.wr (Z0r hd) (tup1 C), hx⟩
 ·rw [hsem _ _ hrun]
  have hlt : r < w.heap.size := (Array.getElem?_eq_some_iff.1 hr).1
  have hh : w1.heap = w.heap ∧ w1.os = w.os ∧ w1.tape = w.tape ∧ w1.output = w.output := by rcases hw1 with rfl | rfl <;> exact ⟨rfl, rfl, rfl, rfl⟩
  have hget : ∀ b, (setBlock w1 r (.mapIter (some mb) since (seen.push e.born) clock)).heap[b]? = if b = r then some (.mapIter (some mb) since (seen.push e.born) clock) else w.heap[b]? := fun b => by
   simp only [setBlock, hh.1]
   rw [Array.getElem?_setIfInBounds]
   split
   ·rename_i hbr; subst hbr; simp [hlt]
   ·rename_i hbr; rw [if_neg (fun h => hbr h.symm)]
  obtain ⟨g1, g2⟩ := Z10 (Z := Z) (C' := C) (id' := it) (o' := .raw (.mapIter (some mb) since (seen.push e.born) clock)) (w' := setBlock w1 r (.mapIter (some mb) since (seen.push e.born) clock)) hs.wr hI (.refl C) rfl (.inl rfl) hu' (fun _ _ h => h)
   hh.2.1 hh.2.2.1 hh.2.2.2 (by simp [setBlock, hh.1]) (fun b N' hm' => .inl ⟨N', hm'⟩) (fun b2 hb2 hne => by rw [hget, if_neg (by rintro rfl; exact hne _ hmi)]) ⟨r, N', hmi, by rw [hget, if_pos rfl]⟩
  exact ⟨C, _, h1 e hem, hs.put g2.le g1 (Z0r hd) (tup3 C _ _), hx.trans g2⟩
theorem Z3v {ops : Array Oper} {o : Oper} {rest : List Oper} {q it mb N since : Nat} {p : Operand} {ents : Array MapEntry} {clock : Nat} {seen : Array Nat} {e : MapEntry} (j k : Nat) (hw : Wanted ops s.T o true) (hd : dok o.dst s.n = true)
  (ho : o.op = .entry p) (hp : ev s.T p = some (.ptr it 1 0 0)) (hI : s.H[j]? = some (it, .raw (.mapIter (some mb) since (seen.push e.born) clock))) (hH : s.H[k]? = some (q, .raw (.map ents clock))) (hq : C0.m q = some (mb, N)) (hqu : q ∈ C0.U)
  (hem : e ∈ ents.toList) (hn : (ents.toList.map (·.born)).Nodup)
  (h : AOpsO Z C0 H0 w0 P ro ops rest Q { s with T := Sx.put s.T o.dst (.tup [.v e.key, .v e.val]) }) : AOpsO Z C0 H0 w0 P ro ops (o :: rest) Q s := by
 refine Z2e hw ?_
 intro C a w hx hs
 have hm : C.m q = some (mb, N) := (hx.le.m q hqu).trans hq
 have hb := Zd9 hs.wr hH hm
 have hpv := hs.ev hp
 obtain ⟨hu', r, N', hmi, hr⟩ := hs.wr.ids _ _ (List.mem_of_getElem? hI)
 have hpe : a.eval p = .pointer (some ⟨r, 0, none⟩) := by
  generalize a.eval p = u at hpv
  cases hpv with
  | ptr _ _ _ _ b' N'' hid _ => rw [hmi] at hid; cases hid; rfl
 have hrun : (o.semAt ro a.eval).run P w = .ok (.value (.tuple #[e.key, e.val])) w := by
  rw [Oper.semAt_eq _ _ _ (by intro c; rw [ho]; nofun)]
  simp only [execOp, ho, hpe]
  simp [Sem.run_bind, run_entry_at w r mb since seen ents clock e hr hb hem hn, Result.andThen]
 rw [hrun]
 refine ⟨C, _, h, hs.put (.refl C) hs.wr (Z0r hd) (.tup _ _ rfl (fun i c z hc hv => ?_)), hx⟩
 rcases i with _ | _ | i
 ·simp at hc hv; subst hc; subst hv; exact .v _
 ·simp at hc hv; subst hc; subst hv; exact .v _
 ·simp at hc
end
def keyS (e : MapEntry) : Str := match e.key with | .string s => s | _ => default
def bornsA (x : List MapEntry) : Array Nat := (x.map (·.born)).toArray
theorem Z2s (x : List MapEntry) (e : MapEntry) : (bornsA x).push e.born = bornsA (x ++ [e]) := by simp [bornsA]
theorem bornsA_has {x : List MapEntry} {b : Nat} : (bornsA x).contains b = true ↔ b ∈ x.map (·.born) := by simp [bornsA]
structure SetE (out : List Str) (ents : Array MapEntry) (clock : Nat) : Prop where
 key : ents.toList.map (·.key) = out.map Value.string
 born : ∀ e ∈ ents.toList, e.born < clock
 nd : (ents.toList.map (·.born)).Nodup
theorem SetE.keyS {out : List Str} {ents : Array MapEntry} {clock : Nat} (h : SetE out ents clock) {e : MapEntry} (he : e ∈ ents.toList) : e.key = .string (Sx.keyS e) ∧ Sx.keyS e ∈ out := by
 have h1 : e.key ∈ out.map Value.string := h.key ▸ List.mem_map.2 ⟨e, he, rfl⟩
 obtain ⟨s, hs, hk⟩ := List.mem_map.1 h1
 unfold Sx.keyS
 rw [← hk]
 exact ⟨rfl, hs⟩
theorem SetE.all {out : List Str} {ents : Array MapEntry} {clock : Nat} (h : SetE out ents clock) {s : Str} (hs : s ∈ out) : ∃ e ∈ ents.toList, Sx.keyS e = s := by
 have h1 : Value.string s ∈ ents.toList.map (·.key) := h.key ▸ List.mem_map.2 ⟨s, hs, rfl⟩
 obtain ⟨e, he, hk⟩ := List.mem_map.1 h1
 refine ⟨e, he, ?_⟩
 unfold Sx.keyS
 rw [hk]
theorem SetE.keys {out : List Str} {ents : Array MapEntry} {clock : Nat} (h : SetE out ents clock) : ents.toList.map Sx.keyS = out := by
 have h1 : ents.toList.map Sx.keyS = (ents.toList.map (·.key)).map (fun v => match v with | .string s => s | _ => default) := by rw [List.map_map]; rfl
 rw [h1, h.key, List.map_map]
 exact (List.map_congr_left fun s _ => rfl).trans (List.map_id _)
structure Got (out : List Str) (ents : Array MapEntry) (x : List MapEntry) : Prop where
 sub : ∀ e ∈ x, e ∈ ents.toList
 nd : (x.map (·.born)).Nodup
theorem Got.start (out : List Str) (ents : Array MapEntry) : Got out ents [] := ⟨nofun, List.nodup_nil⟩
theorem Got.step {out : List Str} {ents : Array MapEntry} {x : List MapEntry} {e : MapEntry} (h : Got out ents x) (he : e ∈ (leftOf ents (bornsA x)).toList) : Got out ents (x ++ [e]) := by
 obtain ⟨h1, h2⟩ := mem_left he
 refine ⟨fun z hz => ?_, ?_⟩
 ·rcases List.mem_append.1 hz with hz | hz
  ·exact h.sub z hz
  ·rw [List.mem_singleton.1 hz]; exact h1
 ·rw [List.map_append, List.nodup_append]
  refine ⟨h.nd, by simp, ?_⟩
  rintro a ha b hb rfl
  rw [List.map_singleton, List.mem_singleton] at hb
  subst hb
  rw [bornsA_has.2 ha] at h2; cases h2
theorem Got.keys {out : List Str} {ents : Array MapEntry} {clock : Nat} (hs : SetE out ents clock) (ho : out.Nodup) {x : List MapEntry} (h : Got out ents x) : (x.map keyS).Nodup ∧ ∀ s, s ∈ x.map keyS → s ∈ out := by
 refine ⟨?_, fun s hsx => ?_⟩
 ·have hk : ∀ a b : MapEntry, a ∈ ents.toList → b ∈ ents.toList → keyS a = keyS b → a.born = b.born := by
   intro a b ha hb hab
   obtain ⟨i, hi, rfl⟩ := List.mem_iff_getElem.1 ha
   obtain ⟨j, hj, rfl⟩ := List.mem_iff_getElem.1 hb
   have e1 := hs.keys
   have hnd : (ents.toList.map keyS).Nodup := by rw [e1]; exact ho
   have hi' : i < (ents.toList.map keyS).length := by simpa using hi
   have hj' : j < (ents.toList.map keyS).length := by simpa using hj
   have : i = j := (List.getElem_inj (h₀ := hi') (h₁ := hj') hnd).1 (by simpa using hab)
   subst this; rfl
  have hx := h.nd
  unfold List.Nodup at hx ⊢
  rw [List.pairwise_map] at hx ⊢
  refine List.Pairwise.imp_of_mem ?_ hx
  intro a b ha hb hne hab
  exact hne (hk a b (h.sub a ha) (h.sub b hb) hab)
 ·obtain ⟨e, he, rfl⟩ := List.mem_map.1 hsx
  exact (hs.keyS (h.sub e he)).2
theorem Got.fin {out : List Str} {ents : Array MapEntry} {clock : Nat} (hs : SetE out ents clock) (ho : out.Nodup) {x : List MapEntry} (h : Got out ents x) (hz : (leftOf ents (bornsA x)).size = 0) : (x.map keyS).Perm out := by
 obtain ⟨h1, h2⟩ := h.keys hs ho
 refine (List.perm_ext_iff_of_nodup h1 ho).2 fun s => ⟨h2 s, fun hso => ?_⟩
 obtain ⟨e, he, rfl⟩ := hs.all hso
 have h3 := bornsA_has.1 (all_seen _ _ hz e he)
 obtain ⟨e', he', hb⟩ := List.mem_map.1 h3
 rw [← born_inj hs.nd (h.sub e' he') he hb]
 exact List.mem_map.2 ⟨e', he', rfl⟩
theorem Got.dec {out : List Str} {ents : Array MapEntry} {x : List MapEntry} {e : MapEntry} (he : e ∈ (leftOf ents (bornsA x)).toList) : (leftOf ents (bornsA (x ++ [e]))).size < (leftOf ents (bornsA x)).size := by
 rw [← Z2s]; exact left_shrinks _ _ _ he
def AdmS (out : List Str) (l : List Str) : Prop := l.Nodup ∧ ∀ s, s ∈ l → s ∈ out
def FinS (out : List Str) (l : List Str) : Prop := l.Perm out
theorem AdmS.len {out l : List Str} (h : AdmS out l) : l.length ≤ out.length := Z1n h.1 h.2
def MapN (p : Prog) (nm : Str) : AEnd → AHeap → Prop := fun e H => ∃ q out, e = .ret (.map q) ∧ H = [(q, .mp (setM out))] ∧ out.Nodup ∧ out.length ≤ p.classes.length ∧ ∀ s, s ∈ out ↔ Anc p nm s
end Go.Sx
namespace Go.Sx
open Go
theorem Zfn {l : List Str} (h : l.Nodup) : (dd l).Perm l := (List.perm_ext_iff_of_nodup (Z7d l) h).2 fun s => Zca l s
theorem Zbp {m l out : List Str} (hp : m.Perm l) (hn : l.Nodup) (hs : SOn ltS 0 m.length m) (ho : ∀ s, s ∈ l ↔ s ∈ out) : m = risF out := by
 rw [← Zg9 ho]
 exact SOn.uniq (hp.trans ((Z4p l).trans (Zfn hn)).symm) hs (Z7o l)
noncomputable def ancL (p : Prog) (nm : Str) : List Str := risF ((p.classes.map Cls.name).filter (subP p nm))
noncomputable def subsL (p : Prog) (nm : Str) : List Str := risF ((p.classes.map Cls.name).filter fun s => subP p s nm)
noncomputable def subN (p : Prog) (nm : Str) (n : Nat) : List Str := ((p.classes.take n).map Cls.name).filter fun s => subP p s nm
def cptS (l : List Str) (n : Nat) : Bool := !beqS (l.getD n default) (l.getD (n - 1) default)
def cptN (l : List Str) (n : Nat) : List Str := ((List.range n).filter fun k => Nat.beq k 0 || cptS l k).map fun k => l.getD k default
theorem Z4b (l : List Str) (n : Nat) : cptN l (n + 1) = cptN l n ++ (if Nat.beq n 0 || cptS l n then [l.getD n default] else []) := by
 unfold cptN
 rw [List.range_succ, List.filter_append, List.map_append]
 congr 1
 simp only [List.filter_cons, List.filter_nil]
 split <;> rfl
theorem Z8c {l : List Str} : ∀ {n : Nat}, n ≤ l.length → (∀ k, 0 < k → k < n → cptS l k = true) → cptN l n = l.take n
 | 0, _, _ => rfl
 | n + 1, hn, h => by
  rw [Z4b, Z8c (by omega) (fun k h0 hk => h k h0 (by omega)), Z98 (show n < l.length by omega)]
  congr 1
  rw [if_pos]
  ·rw [Z65 (show n < l.length by omega)]
  ·cases n with
   | zero => rfl
   | succ n => rw [h (n + 1) (by omega) (by omega), Bool.or_true]
structure CptJ (l : List Str) (k : Nat) (m : List Str) (k2 j : Nat) : Prop where
 h1 : 1 ≤ j
 h2 : j ≤ l.length - k
 h3 : k ≤ k2
 h4 : k2 + 1 ≤ k + j
 hl : m.length = l.length
 ht : m.take k2 = cptN l (k + j)
 ho : ∀ i, k2 ≤ i → m.getD i default = l.getD i default
theorem CptJ.start {l : List Str} {k : Nat} (h0 : 1 ≤ k) (h1 : k < l.length) (h : ∀ i, 0 < i → i < k → cptS l i = true) (he : beqS (l.getD k default) (l.getD (k - 1) default) = true) : CptJ l k l k 1 := by
 refine ⟨Nat.le_refl _, by omega, Nat.le_refl _, Nat.le_refl _, rfl, ?_, fun _ _ => rfl⟩
 rw [Z4b, if_neg, List.append_nil, Z8c (by omega) h]
 unfold cptS
 rw [he]
 simp
 omega
theorem CptJ.keep {l m : List Str} {k k2 j : Nat} (h : CptJ l k m k2 j) (hj : j < l.length - k) (he : beqS (m.getD (k + j) default) (m.getD (k + (j - 1)) default) = true) : CptJ l k m k2 (j + 1) := by
 have g1 := h.h1
 have g4 := h.h4
 refine ⟨by omega, by omega, h.h3, by omega, h.hl, ?_, h.ho⟩
 rw [h.ho _ (by omega), h.ho _ (by omega)] at he
 rw [show k + (j + 1) = (k + j) + 1 by omega, Z4b, if_neg, List.append_nil]
 ·exact h.ht
 ·unfold cptS
  rw [show k + j - 1 = k + (j - 1) by omega, he]
  simp
  omega
theorem CptJ.put {l m : List Str} {k k2 j : Nat} (h : CptJ l k m k2 j) (hj : j < l.length - k) (he : (!beqS (m.getD (k + j) default) (m.getD (k + (j - 1)) default)) = true) : CptJ l k (m.set k2 (m.getD (k + j) default)) (k2 + 1) (j + 1) := by
 have g1 := h.h1
 have g4 := h.h4
 have gl := h.hl
 have hx := h.ho (k + j) (by omega)
 have h0 := h.ho (k + (j - 1)) (by omega)
 refine ⟨by omega, by omega, by have := h.h3; omega, by omega, by rw [List.length_set]; exact gl, ?_, ?_⟩
 ·rw [hx, h0] at he
  rw [show k + (j + 1) = (k + j) + 1 by omega, Z4b, if_pos, ← h.ht]
  ·rw [Z98 (by rw [List.length_set]; omega), List.take_set_of_le (Nat.le_refl _), List.getElem_set_self, hx]
  ·unfold cptS
   rw [show k + j - 1 = k + (j - 1) by omega, he, Bool.or_true]
 ·intro i hi
  rw [← h.ho i (by omega)]
  simp only [List.getD, List.getElem?_set]
  rw [if_neg (by omega)]
theorem CptJ.fin {l m : List Str} {k k2 j : Nat} (h : CptJ l k m k2 j) (hk : k < l.length) (hj : ¬ j < l.length - k) : m.take k2 = cptN l l.length ∧ k2 < l.length := by
 have g2 := h.h2
 have g4 := h.h4
 refine ⟨?_, by omega⟩
 rw [h.ht]
 congr 1
 omega
def nno : Str := ⟨#[110, 111]⟩
def nameP (p : Prog) (k : Int) : Str := if p.classes.length = 0 ∨ k = 255 then nno else (p.classes.getD (k.tmod p.classes.length).toNat default).name
end Go.Sx
namespace Go.Sx
open Go
def okU (p : Prog) (i : Nat) : Bool := !((p.classes.getD i default).iface && !beqS (p.classes.getD i default).super zS) && !(beqS (p.classes.getD i default).name zS || classAt p (p.classes.getD i default).name != (i : Int))
def unlikeB (p : Prog) : Bool := (List.range p.classes.length).all (okU p)
structure UnlikeP (p : Prog) : Prop where
 top : ∀ c, c ∈ p.classes → c.iface = true → c.super = zS
 nm : ∀ c, c ∈ p.classes → c.name ≠ zS
section
variable {p : Prog} {a b c : Str}
end
def nI : Str := ⟨#[73]⟩
def lhA : Cls := ⟨nA, zS, false, false, [], [], []⟩
def lhB : Cls := ⟨nB, nA, false, false, [nI], [], []⟩
def lhC : Cls := ⟨nC, nA, false, false, [], [], []⟩
def lhI : Cls := ⟨nI, zS, true, true, [], [], []⟩
def lhP : Prog := ⟨[lhA, lhB, lhC, lhI], [], ⟨zS, zS, zS⟩⟩
def lhA2 : Cls := ⟨nA, nB, false, false, [], [], []⟩
def lhB2 : Cls := ⟨nB, nA, false, false, [], [], []⟩
def lhQ : Prog := ⟨[lhA2, lhB2], [], ⟨zS, zS, zS⟩⟩
def subC (p : Prog) (n : Nat) (a b : Str) : Bool := match ancRun p n [a] [] with | some out => inL out b | none => false
def chk2C (p : Prog) (n : Nat) (c : Cls) : Bool := (upC c).any fun s => subC p n s c.name
end Go.Sx
namespace Go.Sx
open Go
def zCl : Cls := ⟨zS, zS, false, false, [], [], []⟩
def zMt : Meth := ⟨zS, zS, false, false, 0, []⟩
def zMR : MRef := ⟨zS, zS, zS⟩
def zFl : Fld := ⟨zS, ⟨0, zS⟩, false⟩
structure FRef where
 cls : Str
 name : Str
 deriving DecidableEq
def FRef.cells (f : FRef) : List AV := [sA f.cls, sA f.name]
def FRef.av (f : FRef) : AV := .agg f.cells
def Meth.av (m : Meth) : AV := .agg m.cells
def MRef.av (m : MRef) : AV := .agg m.cells
def Fld.av (f : Fld) : AV := .agg f.cells
def Instr.av (i : Instr) : AV := .agg i.cells
def zFR : FRef := ⟨zS, zS⟩
def nInit : Str := ⟨#[60, 99, 108, 105, 110, 105, 116, 62]⟩
def nVd : Str := ⟨#[40, 41, 86]⟩
def knownC (p : Prog) (nm : Str) : Cls := (clsFind p nm).getD zCl
def fldAt (c : Cls) (nm : Str) : Int := idxFrom (fun f : Fld => beqS f.name nm) c.fields 0
def mthAt (c : Cls) (nm d : Str) : Int := idxFrom (fun m : Meth => beqS m.name nm && beqS m.desc d) c.methods 0
def fldC (c : Cls) (nm : Str) : Option Fld := c.fields.find? fun f => beqS f.name nm
def mthC (c : Cls) (nm d : Str) : Option Meth := c.methods.find? fun m => beqS m.name nm && beqS m.desc d
def getP (p : Prog) (m : MRef) : Option Meth := mthC (knownC p m.cls) m.name m.desc
def fldP (p : Prog) (f : FRef) : Option Fld := fldC (knownC p f.cls) f.name
def fieldW (p : Prog) (f : FRef) : Option FRef := ((supers p f.cls).find? fun s => (fldP p ⟨s, f.name⟩).isSome).map fun s => ⟨s, f.name⟩
def firstP (p : Prog) (l : List Str) (m : MRef) : Option MRef := (l.find? fun s => (getP p ⟨s, m.name, m.desc⟩).isSome).map fun s => ⟨s, m.name, m.desc⟩
def declP (p : Prog) (l : List Str) (m : MRef) (may : Meth → Bool) : Option MRef := match firstP p l m with
 | none => none
 | some r => match getP p r with
  | some x => if may x then some r else none
  | none => none
def mayS (x : Meth) : Bool := x.static
def mayD (x : Meth) : Bool := (!x.static && !x.abs) && !beqS x.name nInit
def mayV (x : Meth) : Bool := !x.static && !beqS x.name nInit
def initP (p : Prog) (c : Str) : Option MRef := match getP p ⟨c, nInit, nVd⟩ with
 | some x => if x.static then some ⟨c, nInit, nVd⟩ else none
 | none => none
def askedP (p : Prog) (x y z : Int) : MRef :=
 if p.classes.length = 0 then ⟨nA, ⟨#[109]⟩, nVd⟩ else
 let c := p.classes.getD (y.tmod p.classes.length).toNat default
 let k := c.methods.getD (z.tmod c.methods.length).toNat default
 ⟨(p.classes.getD (x.tmod p.classes.length).toNat default).name, if c.methods.length = 0 then zS else k.name, if c.methods.length = 0 then zS else k.desc⟩
def fieldQ (p : Prog) (x y z : Int) : FRef :=
 let c := p.classes.getD (y.tmod p.classes.length).toNat default
 ⟨(askedP p x y z).cls, if p.classes.length = 0 then ⟨#[102]⟩ else if c.fields.length = 0 then ⟨#[102]⟩ else (c.fields.getD (z.tmod c.fields.length).toNat default).name⟩
end Go.Sx
namespace Go.Sx
open Go
structure LtT {α : Type} (lt : α → α → Bool) : Prop where
 ok : LtOK lt
 tot : ∀ x y, lt x y = false → lt y x = false → x = y
section
variable {α : Type} [Inhabited α] [DecidableEq α] {lt : α → α → Bool}
def hasG (l : List α) (x : α) : Bool := l.any fun y => decide (y = x)
def ddO (o : List α) (s : α) : List α := if hasG o s then o else o ++ [s]
def ddG (l : List α) : List α := l.foldl ddO []
def insG (lt : α → α → Bool) : Nat → List α → List α
 | 0, l => l
 | k + 1, l => if lt (l.getD (k + 1) default) (l.getD k default) then insG lt k (swp l (k + 1) k) else l
def outG (lt : α → α → Bool) : Nat → Nat → List α → List α
 | 0, _, l => l
 | f + 1, i, l => outG lt f (i + 1) (insG lt i l)
def risG (lt : α → α → Bool) (l : List α) : List α := outG lt ((ddG l).length - 1) 1 (ddG l)
variable (hO : LtT lt)
include hO
omit hO
def riseG (lt : α → α → Bool) (l : List α) : Bool := (List.range l.length).all fun i => Nat.beq i 0 || lt (l.getD (i - 1) default) (l.getD i default)
include hO
end
end Go.Sx
namespace Go.Sx
open Go
def nm1 : Str := ⟨#[109]⟩
def ns1 : Str := ⟨#[115]⟩
def nf1 : Str := ⟨#[102]⟩
def lfI : Instr := ⟨23, 0, 0, 0, 0, zS, zS, zS, []⟩
def lfM : Meth := ⟨nm1, nVd, false, false, 1, [lfI]⟩
def lfS : Meth := ⟨ns1, nVd, true, false, 0, [lfI]⟩
def lfF : Fld := ⟨nf1, ⟨2, zS⟩, false⟩
def lfA : Cls := ⟨nA, zS, false, false, [], [lfF], [lfM, lfS]⟩
def lfB : Cls := ⟨nB, nA, false, false, [], [], []⟩
def lfP : Prog := ⟨[lfA, lfB], [], ⟨zS, zS, zS⟩⟩
end Go.Sx
namespace Go.Sx
open Go
def cmpT (a b : Str) : Int := if ltS a b then -1 else if ltS b a then 1 else 0
def cmpI (a b : Int) : Int := if a < b then -1 else if b < a then 1 else 0
def orI (a b : Int) : Int := if a = 0 then b else a
structure PreC {α : Type} (f : α → α → Int) : Prop where
 rg : ∀ x y, f x y = -1 ∨ f x y = 0 ∨ f x y = 1
 anti : ∀ x y, f x y = - f y x
 tr : ∀ x y z, f x y ≤ 0 → f y z ≤ 0 → f x z ≤ 0
namespace PreC
variable {α β : Type} {f g : α → α → Int}
theorem str1 (h : PreC f) {x y z : α} (h1 : f x y < 0) (h2 : f y z ≤ 0) : f x z < 0 := by
 have h3 := h.tr x y z (by omega) h2
 have h4 := h.anti x z
 have h5 := h.anti x y
 by_cases e : f x z = 0
 ·have := h.tr y z x h2 (by omega); omega
 ·omega
theorem str2 (h : PreC f) {x y z : α} (h1 : f x y ≤ 0) (h2 : f y z < 0) : f x z < 0 := by
 have h3 := h.tr x y z h1 (by omega)
 have h4 := h.anti x z
 have h5 := h.anti y z
 by_cases e : f x z = 0
 ·have := h.tr z x y (by omega) h1; omega
 ·omega
theorem or (h : PreC f) (k : PreC g) : PreC fun x y => orI (f x y) (g x y) where
 rg x y := by
  unfold orI
  split
  ·exact k.rg x y
  ·exact h.rg x y
 anti x y := by
  have h1 := h.anti x y
  have h2 := k.anti x y
  unfold orI
  by_cases e : f x y = 0
  ·rw [if_pos e, if_pos (by omega)]; exact h2
  ·rw [if_neg e, if_neg (by omega)]; exact h1
 tr x y z h1 h2 := by
  have key : ∀ x y, orI (f x y) (g x y) ≤ 0 ↔ f x y < 0 ∨ (f x y = 0 ∧ g x y ≤ 0) := fun x y => by
   unfold orI; split <;> omega
  rw [key] at h1 h2 ⊢
  rcases h1 with h1 | ⟨h1, h3⟩ <;> rcases h2 with h2 | ⟨h2, h4⟩
  ·exact .inl (h.str1 h1 (by omega))
  ·exact .inl (h.str1 h1 (by omega))
  ·exact .inl (h.str2 (by omega) h2)
  ·have h5 := h.tr x y z (by omega) (by omega)
   have h6 := h.anti x y; have h7 := h.anti y z; have h8 := h.anti x z
   have h9 := h.tr z y x (by omega) (by omega)
   exact .inr ⟨by omega, k.tr x y z h3 h4⟩
theorem on (h : PreC f) (p : β → α) : PreC fun x y => f (p x) (p y) := ⟨fun _ _ => h.rg _ _, fun _ _ => h.anti _ _, fun _ _ _ => h.tr _ _ _⟩
end PreC
def ltC {α : Type} (f : α → α → Int) (x y : α) : Bool := decide (f x y < 0)
structure Site where
 m : MRef
 pc : Int
 cls : Str
 deriving DecidableEq
structure Place where
 kind : Int
 m : MRef
 reg : Int
 field : FRef
 site : Site
 deriving DecidableEq
instance : Inhabited MRef := ⟨zMR⟩
instance : Inhabited FRef := ⟨⟨zS, zS⟩⟩
instance : Inhabited Site := ⟨⟨zMR, 0, zS⟩⟩
instance : Inhabited Place := ⟨⟨0, zMR, 0, ⟨zS, zS⟩, ⟨zMR, 0, zS⟩⟩⟩
def Site.cells (s : Site) : List AV := [sA s.m.cls, sA s.m.name, sA s.m.desc, iA s.pc, sA s.cls]
def Site.av (s : Site) : AV := .agg s.cells
def Place.cells (p : Place) : List AV := [iA p.kind, sA p.m.cls, sA p.m.name, sA p.m.desc, iA p.reg, sA p.field.cls, sA p.field.name, sA p.site.m.cls, sA p.site.m.name, sA p.site.m.desc, iA p.site.pc, sA p.site.cls]
def Place.av (p : Place) : AV := .agg p.cells
def sitesA (l : List Site) : AV := .lst (l.map Site.cells)
structure Site.ok (s : Site) : Prop where
 m : s.m.ok
 pc : i64 s.pc
 cls : small s.cls.size
structure FRef.ok (f : FRef) : Prop where
 cls : small f.cls.size
 name : small f.name.size
structure Place.ok (p : Place) : Prop where
 kind : i64 p.kind
 m : p.m.ok
 reg : i64 p.reg
 field : p.field.ok
 site : p.site.ok
def cmpR (a b : MRef) : Int := orI (cmpT a.cls b.cls) (orI (cmpT a.name b.name) (cmpT a.desc b.desc))
def cmpS (a b : Site) : Int := orI (cmpR a.m b.m) (orI (cmpI a.pc b.pc) (cmpT a.cls b.cls))
def cmpP (a b : Place) : Int := orI (cmpI a.kind b.kind) (orI (cmpR a.m b.m) (orI (cmpI a.reg b.reg) (orI (cmpT a.field.cls b.field.cls) (orI (cmpT a.field.name b.field.name) (cmpS a.site b.site)))))
abbrev sLt : Site → Site → Bool := ltC cmpS
def orL : List Int → Int
 | [] => 0
 | x :: r => orI x (orL r)
section
variable {P : Program} {T : List (Nat × AV)} {o : Oper}
end
section
variable {P : Program} {t s i tr tf ts : TypeId}
theorem Ze3 (h : fts P t = some [s, s]) (hs : P.underlying s = some .string) : Dec P t FRef.cells FRef.ok := by
 intro xs hx
 obtain ⟨x0, ys, rfl, g0, h1⟩ := Z0o (Z37 hs) (Z26 h hx)
 obtain ⟨x1, ys, rfl, g1, h1⟩ := Z0o (Z37 hs) h1
 rw [Z6k h1]
 exact ⟨⟨x0, x1⟩, rfl, ⟨g0, g1⟩⟩
theorem Ze4 (h : fts P t = some [tr, i, s]) (hr : Dec P tr MRef.cells MRef.ok) (hi : P.underlying i = some (.int .i64)) (hs : P.underlying s = some .string) : Dec P t Site.cells Site.ok := by
 intro xs hx
 obtain ⟨x0, ys, rfl, g0, h1⟩ := Z0o hr (Z26 h hx)
 obtain ⟨x1, ys, rfl, g1, h1⟩ := Z0o (Z3z hi) h1
 obtain ⟨x2, ys, rfl, g2, h1⟩ := Z0o (Z37 hs) h1
 rw [Z6k h1]
 exact ⟨⟨x0, x1, x2⟩, rfl, ⟨g0, g1, g2⟩⟩
end
end Go.Sx
namespace Go.Sx
open Go Go.Proofs
theorem Zfj (l : List Str) (hl : small l.length) (s : Str) : ACalls Tryz.prog 169 [row1 sA l, sA s] [] (Gives (iA (idxFrom (fun x => beqS s x) l 0))) := by
 simp only [small] at hl
 refine Zi (n := 19) Tryz.func169 rfl (by decide +kernel) rfl rfl ?_
 refine Z7 ?_
 refine Z3 ?_
 refine Z2 (w0 rfl) rfl (Z4 rfl rfl) ?_
 refine Z5 ?_
 refine Z7 ?_
 refine Z7 ?_
 refine Z3 ?_
 refine Z2 (w0 rfl) rfl (Z0 rfl rfl) ?_
 refine Z2 (w0 rfl) rfl (Z38 rfl rfl rfl rfl) ?_
 refine Z2 (w0 rfl) rfl (Z0 rfl rfl) ?_
 refine Z5 ?_
 refine Zp ?_
 refine Z09 (α := Nat) (fun i => ⟨[(8, iA i), (0, row1 sA l), (1, sA s), (7, iA l.length)], [], [], 19⟩) (fun i => i ≤ l.length ∧ idxFrom (fun x => beqS s x) (l.drop i) i = idxFrom (fun x => beqS s x) l 0) (fun i => l.length - i) 0 ⟨by omega, rfl⟩ ?_ ?_
 ·exact Zc [] ⟨rfl, rfl, rfl, (by show some (iA _) = some (iA _); simp), trivial⟩ rfl (by decide) rfl rfl
 rintro i hJ
 refine Z7 ?_
 refine Z3 ?_
 refine Z2 (w0 rfl) rfl (Zf rfl rfl rfl rfl) ?_
 refine Z5 ?_
 refine Z7 ?_
 refine Zd rfl ?_ ?_
 ·intro hc
  have hi : i < l.length := by simpa using hc
  refine Zm ?_
  refine Z7 ?_
  refine Zp ?_
  refine Z7 ?_
  refine Z3 ?_
  refine Z2 (w0 rfl) rfl (Z0 rfl rfl) ?_
  refine Z2 (w0 rfl) rfl (Z4 rfl rfl) ?_
  refine Z5 ?_
  refine Z7 ?_
  refine Z3 ?_
  refine Z2 (w0 rfl) rfl (Z0 rfl rfl) ?_
  refine Z2 (w0 rfl) rfl (Z0 rfl rfl) ?_
  refine Z2 (w0 rfl) rfl (Z0 rfl rfl) ?_
  refine Z2 (w0 rfl) rfl (Z0g rfl rfl rfl (Z39 (fun _ => rfl)) (by first | omega | (simp only [List.length_map]; omega)) (by first | omega | (simp only [List.length_map]; omega))) ?_
  refine Z2 (w0 rfl) rfl (Z8f rfl rfl (Zd0 (by first | assumption | omega)) Zq) ?_
  refine Z2 (w0 rfl) rfl (Z0u rfl rfl rfl rfl) ?_
  refine Z5 ?_
  refine Zd rfl ?_ ?_
  ·intro hc
   have hc : beqS s (l[i]) = true := hc
   refine Z7 ?_
   refine Z3 ?_
   refine Z2 (w0 rfl) rfl (Z0 rfl rfl) ?_
   refine Z2 (w0 rfl) rfl (Z4 rfl rfl) ?_
   refine Z5 ?_
   refine Z01 ?_
   exact Z1v rfl (Zl rfl Zg) (gi (by rw [← hJ.2, Z5j hi]; simp [idxFrom, hc]))
  ·intro hc
   have hc : beqS s (l[i]) = false := hc
   refine Zm ?_
   refine Z3 ?_
   refine Z2 (w0 rfl) rfl (Z8 rfl rfl rfl (Zb (by first | omega | (simp only [List.length_map]; omega)))) ?_
   refine Z2 (w0 rfl) rfl (Z0 rfl rfl) ?_
   refine Z5 ?_
   refine ⟨i + 1, ⟨by omega, by rw [← hJ.2, Z5j hi]; simp [idxFrom, hc]⟩, (by omega), ?_⟩
   exact Zc [] ⟨rfl, rfl, rfl, rfl, trivial⟩ rfl (by decide) rfl rfl
 ·intro hc
  have hi : ¬ i < l.length := by simpa using hc
  refine Z03 ?_
  refine Z7 ?_
  refine Z3 ?_
  refine Z2 (w0 rfl) rfl (Z4 rfl rfl) ?_
  refine Z5 ?_
  refine Z01 ?_
  exact Z1v rfl (Zl rfl Zg) (gi (by rw [← hJ.2, Zah hi]; rfl))
theorem Zbd (l : List Str) (hl : small l.length) (s : Str) : ACalls Tryz.prog 90 [row1 sA l, sA s] [] (Gives (bA (inL l s))) := by
 refine Zi (n := 9) Tryz.func90 rfl (by decide +kernel) rfl rfl ?_
 refine Z7 ?_
 refine Z3 ?_
 refine Z2 (w0 rfl) rfl (Z4 rfl rfl) ?_
 refine Z5 ?_
 refine Z7 ?_
 refine Z3 ?_
 refine Z2 (w0 rfl) rfl (Z0 rfl rfl) ?_
 refine Z2 (w0 rfl) rfl (Z0 rfl rfl) ?_
 refine Z2 (w0 rfl) rfl (Zu [] rfl rfl rfl (Zfj l hl s) List.nodup_nil) ?_
 refine Z2 (w0 rfl) rfl (Zf rfl rfl rfl rfl) ?_
 refine Z2 (w0 rfl) rfl (Z4 rfl rfl) ?_
 refine Z5 ?_
 refine Z01 ?_
 exact Z1v rfl (Zl rfl Zg) (gb (Zfz l s))
theorem Z86 (cs : List Str) (hl : small cs.length) (g : Nat) (caps : List AV) (idn : Nat) (ob : AObj) (f : Str → Bool) (hg : ∀ c, c ∈ cs → ACalls Tryz.prog g (sA c :: caps) [(idn, ob)] (GivesH (bA (f c)) [(idn, ob)])) : ACalls Tryz.prog 168 [row1 sA cs, .fn (.func g) caps] [(idn, ob)] (GivesH (iA (idxFrom f cs 0)) [(idn, ob)]) := by
 simp only [small] at hl
 refine Zi (n := 19) Tryz.func168 rfl (by decide +kernel) rfl rfl ?_
 refine Z7 ?_
 refine Z3 ?_
 refine Z2 (w0 rfl) rfl (Z4 rfl rfl) ?_
 refine Z5 ?_
 refine Z7 ?_
 refine Z7 ?_
 refine Z3 ?_
 refine Z2 (w0 rfl) rfl (Z0 rfl rfl) ?_
 refine Z2 (w0 rfl) rfl (Z38 rfl rfl rfl rfl) ?_
 refine Z2 (w0 rfl) rfl (Z0 rfl rfl) ?_
 refine Z5 ?_
 refine Zp ?_
 refine Z09 (α := Nat) (fun i => ⟨[(8, iA i), (0, row1 sA cs), (1, .fn (.func g) caps), (7, iA cs.length)], [(idn, ob)], [], 19⟩) (fun i => i ≤ cs.length ∧ idxFrom f (cs.drop i) i = idxFrom f cs 0) (fun i => cs.length - i) 0 ⟨by omega, rfl⟩ ?_ ?_
 ·exact Zc [0] ⟨rfl, rfl, rfl, (by show some (iA _) = some (iA _); simp), trivial⟩ rfl (by decide) rfl rfl
 rintro i hJ
 refine Z7 ?_
 refine Z3 ?_
 refine Z2 (w0 rfl) rfl (Zf rfl rfl rfl rfl) ?_
 refine Z5 ?_
 refine Z7 ?_
 refine Zd rfl ?_ ?_
 ·intro hc
  have hi : i < cs.length := by simpa using hc
  refine Zm ?_
  refine Z7 ?_
  refine Zp ?_
  refine Z7 ?_
  refine Z3 ?_
  refine Z2 (w0 rfl) rfl (Z0 rfl rfl) ?_
  refine Z2 (w0 rfl) rfl (Z4 rfl rfl) ?_
  refine Z5 ?_
  refine Z7 ?_
  refine Z3 ?_
  refine Z2 (w0 rfl) rfl (Z0 rfl rfl) ?_
  refine Z2 (w0 rfl) rfl (Z0 rfl rfl) ?_
  refine Z2 (w0 rfl) rfl (Z0 rfl rfl) ?_
  refine Z2 (w0 rfl) rfl (Z0g rfl rfl rfl (Z39 (fun _ => rfl)) (by first | omega | (simp only [List.length_map]; omega)) (by first | omega | (simp only [List.length_map]; omega))) ?_
  refine Z2 (w0 rfl) rfl (Z8f rfl rfl (Zd0 (by first | assumption | omega)) Zq) ?_
  refine Z4v 0 (w0 rfl) rfl rfl rfl rfl rfl (hg _ (List.getElem_mem hi)) ?_
  refine Z5 ?_
  refine Zd rfl ?_ ?_
  ·intro hc
   have hc : f (cs[i]) = true := hc
   refine Z7 ?_
   refine Z3 ?_
   refine Z2 (w0 rfl) rfl (Z0 rfl rfl) ?_
   refine Z2 (w0 rfl) rfl (Z4 rfl rfl) ?_
   refine Z5 ?_
   refine Z01 ?_
   exact Zr rfl (Zl rfl Zg) (.refl _) (gvH (congrArg iA (by rw [← hJ.2, Z5j hi]; simp [idxFrom, hc])))
  ·intro hc
   have hc : f (cs[i]) = false := hc
   refine Zm ?_
   refine Z3 ?_
   refine Z2 (w0 rfl) rfl (Z8 rfl rfl rfl (Zb (by first | omega | (simp only [List.length_map]; omega)))) ?_
   refine Z2 (w0 rfl) rfl (Z0 rfl rfl) ?_
   refine Z5 ?_
   refine ⟨i + 1, ⟨by omega, by rw [← hJ.2, Z5j hi]; simp [idxFrom, hc]⟩, (by omega), ?_⟩
   exact Zc [0] ⟨rfl, rfl, rfl, rfl, trivial⟩ rfl (by decide) rfl rfl
 ·intro hc
  have hi : ¬ i < cs.length := by simpa using hc
  refine Z03 ?_
  refine Z7 ?_
  refine Z3 ?_
  refine Z2 (w0 rfl) rfl (Z4 rfl rfl) ?_
  refine Z5 ?_
  refine Z01 ?_
  exact Zr rfl (Zl rfl Zg) (.refl _) (gvH (congrArg iA (by rw [← hJ.2, Zah hi]; rfl)))
end Go.Sx
namespace Go.Sx
open Go Go.Proofs
def evL (l : List (Bool × Int)) : List (List AV) := l.map fun e => [.v (.bool e.1), .v (.int .i64 e.2)]
@[reducible] def rsA (s c t n : Int) (ev : List (Bool × Int)) (f1 f2 f3 f4 f5 : List (List AV)) (fd : List Str) : AV :=
  .agg [.v (.int .i64 s), .v (.int .i64 c), .v (.int .i64 t), .v (.int .i64 n), .lst (evL ev), .lst f1, .lst f2, .lst f3, .lst f4, .lst f5, row1 sA fd]
def outP (names : List Str) (s : Str) : Bool := !inL names s
theorem Zfl (names : List Str) (hn : small names.length) (i : Nat) (x : Str) : ACalls Tryz.prog 89 [sA x, .ptr i 1 0 0] [(i, .rows 23 1 [[row1 sA names]])] (GivesH (bA (outP names x)) [(i, .rows 23 1 [[row1 sA names]])]) := by
  refine Zi (n := 8) Tryz.func89 rfl (by decide +kernel) rfl rfl ?_
  refine wk ?_
  refine Z2 (w0 rfl) rfl (Zu [] rfl rfl rfl (Zbd names hn x) List.nodup_nil) ?_
  refine wk ?_
  exact Zr rfl (Zl rfl Zg) (.refl _) (gvH rfl)
theorem Zh8 (l : List Str) (hl : small l.length) (g : Nat) (caps : List AV) (idn : Nat) (ob : AObj) (f : Str → Bool) (hg : ∀ c, c ∈ l → ACalls Tryz.prog g (sA c :: caps) [(idn, ob)] (GivesH (bA (f c)) [(idn, ob)])) : ACalls Tryz.prog 88 [row1 sA l, .fn (.func g) caps] [(idn, ob)] (GivesH (bA (l.any f)) [(idn, ob)]) := by
  refine Zi (n := 9) Tryz.func88 rfl (by decide +kernel) rfl rfl ?_
  refine wk ?_
  refine Z4v 0 (w0 rfl) rfl rfl rfl rfl rfl (Z86 l hl g caps idn ob f hg) ?_
  refine wk ?_
  exact Zr rfl (Zl rfl Zg) (.refl _) (gvH (congrArg bA (Zfy f l)))
theorem Zc7 (s c t n : Int) (ev : List (Bool × Int)) (f1 f2 f3 f4 f5 : List (List AV)) (fd names : List Str) (hf : small fd.length) (hn : small names.length) : ACalls Tryz.prog 40 [rsA s c t n ev f1 f2 f3 f4 f5 fd, row1 sA names] [] (Gives (bA (fd.any (outP names)))) := by
  refine Zi (n := 10) Tryz.func40 rfl (by decide +kernel) rfl rfl ?_
  refine wk ?_
  refine Z48 (fun id2 => ?_)
  refine Z48 (fun id3 => ?_)
  refine wk ?_
  refine Z2 (w0 rfl) rfl (Z57 rfl rfl) ?_
  refine Z4v 0 (w0 rfl) rfl rfl rfl rfl rfl (Zh8 fd hf 89 [.ptr id3 1 0 0] id3 _ (outP names) (fun c _ => Zfl names hn id3 c)) ?_
  refine wk ?_
  exact Z1v rfl (Zl rfl Zg) (gvr rfl)
theorem Zan {l : List (Bool × Int)} {i : Nat} (hi : i < l.length) : (evL l)[i]? = some [.v (.bool l[i].1), .v (.int .i64 l[i].2)] := by simp [evL, hi]
theorem Zdk {α : Type} {l m : List α} {i : Nat} (h : l.take i = m.take i) (hl : i < l.length) (hm : i < m.length) (he : l[i] = m[i]) : l.take (i + 1) = m.take (i + 1) := by
  rw [List.take_succ_eq_append_getElem hl, List.take_succ_eq_append_getElem hm, h, he]
theorem Zfi (l m : List (Bool × Int)) (hl : l.length ≤ 1000) : ACalls Tryz.prog 87 [.lst (evL l), .lst (evL m)] [] (Gives (bA (decide (l = m)))) := by
  have e1 : (evL l).length = l.length := by simp [evL]
  have e2 : (evL m).length = m.length := by simp [evL]
  refine Zi (n := 26) Tryz.func87 rfl (by decide +kernel) rfl rfl ?_
  refine wk ?_
  refine Zd rfl (fun hc => ?_) (fun hc => ?_)
  · have hc : ¬ l.length = m.length := by
      have h1 : ¬ (l.length : Int) = m.length := by simpa [e1, e2] using hc
      omega
    refine wk ?_
    exact Z1v rfl (Zl rfl Zg) (gvr (congrArg bA (Eq.symm (decide_eq_false (fun h => hc (by rw [h]))))))
  have hlm : l.length = m.length := by
    have h1 : (l.length : Int) = m.length := by simpa [e1, e2] using hc
    omega
  refine qK ?_
  refine tqN ?_
  refine qS ?_
  refine qS ?_
  refine qR ?_
  refine zM ?_
  refine zLn ?_
  refine zM ?_
  refine zN ?_
  refine tqN ?_
  refine qB ?_
  refine Z09 (α := Nat) (fun i => ⟨[(13, iA i), (0, .lst (evL l)), (1, .lst (evL m)), (12, iA l.length)], [], [], 26⟩) (fun i => i ≤ l.length ∧ l.take i = m.take i) (fun i => l.length - i) 0 ⟨Nat.zero_le _, rfl⟩ ?_ ?_
  · exact Zc [] ⟨rfl, rfl, rfl, (by show some (iA _) = some (iA _); simp [e1]), trivial⟩ rfl (by decide) rfl rfl
  rintro i ⟨hi1, hi2⟩
  refine qS ?_
  refine qR ?_
  refine zI ?_
  refine zN ?_
  refine tqN ?_
  refine qS ?_
  refine Zd rfl (fun hc => ?_) (fun hc => ?_)
  · have hi : i < l.length := by simpa using hc
    have hm : i < m.length := by omega
    refine wk ?_
    refine Za (w0 rfl) rfl (Z0g rfl rfl rfl (Z39 (fun _ => rfl)) (by omega) (by rw [e1]; omega)) ?_
    refine Z16 (w0 rfl) rfl rfl rfl (Zan hi) Z5d ?_
    refine zcM ?_
    refine zcM ?_
    refine Za (w0 rfl) rfl (Z0g rfl rfl rfl (Z39 (fun _ => rfl)) (by omega) (by rw [e2]; omega)) ?_
    refine Z16 (w0 rfl) rfl rfl rfl (Zan hm) Z5d ?_
    refine Zhf ?_
    refine Zdq ?_
    refine wk ?_
    refine Zd rfl (fun hc => ?_) (fun hc => ?_)
    · have hne : ¬ l[i] = m[i] := by
        intro he
        rw [he] at hc
        simp [ceqs, ceq, veq] at hc
      refine wk ?_
      exact Z1v rfl (Zl rfl Zg) (gvr (congrArg bA (Eq.symm (decide_eq_false (fun h => hne (by subst h; rfl))))))
    · have heq : l[i] = m[i] := by
        have h1 : ceqs [AV.v (.bool l[i].1), .v (.int .i64 l[i].2)] [AV.v (.bool m[i].1), .v (.int .i64 m[i].2)] = true := by simpa using hc
        simp [ceqs, ceq, veq] at h1
        exact Prod.ext h1.1 h1.2
      refine wk ?_
      exact ⟨i + 1, ⟨by omega, Zdk hi2 hi hm heq⟩, by omega, Zc [] ⟨rfl, rfl, rfl, rfl, trivial⟩ rfl (by decide) rfl rfl⟩
  · have hi : i = l.length := by have : ¬ i < l.length := by simpa using hc
                                 omega
    refine wk ?_
    refine Z1v rfl (Zl rfl Zg) (gvr (congrArg bA (Eq.symm (decide_eq_true ?_))))
    rw [hi, List.take_length, hlm, List.take_length] at hi2
    exact hi2
end Go.Sx
namespace Go.Sx
open Go Go.Proofs
theorem Ze1 (l m : List (Bool × Int)) (hl : l.length ≤ 1000) : ACalls Tryz.prog 37 [.lst (evL l), .lst (evL m)] [] (Gives (bA (decide (l = m)))) := by
 have e1 : (evL l).length = l.length := by simp [evL]
 have e2 : (evL m).length = m.length := by simp [evL]
 refine Zi (n := 26) Tryz.func37 rfl (by decide +kernel) rfl rfl ?_
 refine wk ?_
 refine Zd rfl (fun hc => ?_) (fun hc => ?_)
 ·have hc : ¬ l.length = m.length := by
   have h1 : ¬ (l.length : Int) = m.length := by simpa [e1, e2] using hc
   omega
  refine wk ?_
  exact Z1v rfl (Zl rfl Zg) (gvr (congrArg bA (Eq.symm (decide_eq_false (fun h => hc (by rw [h]))))))
 have hlm : l.length = m.length := by
  have h1 : (l.length : Int) = m.length := by simpa [e1, e2] using hc
  omega
 refine qK ?_
 refine tqN ?_
 refine qS ?_
 refine qS ?_
 refine qR ?_
 refine zA ?_
 refine zN ?_
 refine tqN ?_
 refine qB ?_
 refine Z09 (α := Nat) (fun i => ⟨[(5, iA i), (0, .lst (evL l)), (1, .lst (evL m))], [], [], 26⟩) (fun i => i ≤ l.length ∧ l.take i = m.take i) (fun i => l.length - i) 0 ⟨Nat.zero_le _, rfl⟩ ?_ ?_
 ·exact Zc [] ⟨rfl, rfl, rfl, trivial⟩ rfl (by decide) rfl rfl
 rintro i ⟨hi1, hi2⟩
 refine qS ?_
 refine qS ?_
 refine qR ?_
 refine zM ?_
 refine zM ?_
 refine zLn ?_
 refine zI ?_
 refine zN ?_
 refine tqN ?_
 refine Zd rfl (fun hc => ?_) (fun hc => ?_)
 ·have hi : i < l.length := by
   have h1 : (i : Int) < l.length := by simpa [e1] using hc
   omega
  have hm : i < m.length := by omega
  refine wk ?_
  refine Za (w0 rfl) rfl (Z0g rfl rfl rfl (Z39 (fun _ => rfl)) (by omega) (by rw [e1]; omega)) ?_
  refine Z16 (w0 rfl) rfl rfl rfl (Zan hi) Z5d ?_
  refine zcM ?_
  refine zcM ?_
  refine Za (w0 rfl) rfl (Z0g rfl rfl rfl (Z39 (fun _ => rfl)) (by omega) (by rw [e2]; omega)) ?_
  refine Z16 (w0 rfl) rfl rfl rfl (Zan hm) Z5d ?_
  refine Zhf ?_
  refine Zdq ?_
  refine wk ?_
  refine Zd rfl (fun hc => ?_) (fun hc => ?_)
  ·have hne : ¬ l[i] = m[i] := by
    intro he
    rw [he] at hc
    simp [ceqs, ceq, veq] at hc
   refine wk ?_
   exact Z1v rfl (Zl rfl Zg) (gvr (congrArg bA (Eq.symm (decide_eq_false (fun h => hne (by subst h; rfl))))))
  ·have heq : l[i] = m[i] := by
    have h1 : ceqs [AV.v (.bool l[i].1), .v (.int .i64 l[i].2)] [AV.v (.bool m[i].1), .v (.int .i64 m[i].2)] = true := by simpa using hc
    simp [ceqs, ceq, veq] at h1
    exact Prod.ext h1.1 h1.2
   refine wk ?_
   exact ⟨i + 1, ⟨by omega, Zdk hi2 hi hm heq⟩, by omega, Zc [] ⟨rfl, rfl, rfl, trivial⟩ rfl (by decide) rfl rfl⟩
 ·have hi : i = l.length := by
   have h1 : ¬ (i : Int) < l.length := by simpa [e1] using hc
   omega
  refine wk ?_
  refine Z1v rfl (Zl rfl Zg) (gvr (congrArg bA (Eq.symm (decide_eq_true ?_))))
  rw [hi, List.take_length, hlm, List.take_length] at hi2
  exact hi2
def alk (s c t : Int) (e : List (Bool × Int)) (s' c' t' : Int) (e' : List (Bool × Int)) : Bool := decide (s = s' ∧ c = c' ∧ t = t' ∧ e = e')
theorem Z0v (s c t n : Int) (ev : List (Bool × Int)) (f1 f2 f3 f4 f5 : List (List AV)) (fd : List Str) (s' c' t' n' : Int) (ev' : List (Bool × Int)) (f1' f2' f3' f4' f5' : List (List AV)) (fd' : List Str) (hl : ev.length ≤ 1000) :
  ACalls Tryz.prog 38 [rsA s c t n ev f1 f2 f3 f4 f5 fd, rsA s' c' t' n' ev' f1' f2' f3' f4' f5' fd'] [] (Gives (bA (alk s c t ev s' c' t' ev'))) := by
 refine Zi (n := 31) Tryz.func38 rfl (by decide +kernel) rfl rfl ?_
 refine wk ?_
 refine Z48 (fun id2 => ?_)
 refine Z48 (fun id3 => ?_)
 refine zA ?_
 refine zN ?_
 refine tqN ?_
 refine qS ?_
 refine qR ?_
 refine zF ?_
 refine zLd 1 ?_
 refine zF ?_
 refine zLd 0 ?_
 by_cases h1 : s = s'
 ·subst h1
  refine zI (z := true) ?_ (hz := by simp [icmp])
  refine zM ?_
  refine zgF ?_
  refine Z33 1 ?_
  refine zgF ?_
  refine Z33 0 ?_
  by_cases h2 : c = c'
  ·subst h2
   refine zgI (z := true) ?_ (hz := by simp [icmp])
   refine zPT ?_
   refine zM ?_
   refine zgF ?_
   refine Z33 1 ?_
   refine zgF ?_
   refine Z33 0 ?_
   by_cases h3 : t = t'
   ·subst h3
    refine zgI (z := true) ?_ (hz := by simp [icmp])
    refine zPT ?_
    refine zM ?_
    refine zgF ?_
    refine Z33 1 ?_
    refine zgF ?_
    refine Z33 0 ?_
    refine Z2 (wT rfl rfl rfl rfl) rfl (Zu [] rfl rfl rfl (Zfi ev ev' hl) List.nodup_nil) ?_
    refine wk ?_
    exact Z1v rfl (Zl rfl Zg) (gvr (by simp [alk, mkRes]))
   ·refine zgI (z := false) ?_ (hz := by simp [icmp, h3])
    refine wk ?_
    exact Z1v rfl (Zl rfl Zg) (gvr (by simp [alk, mkRes, h3]))
  ·refine zgI (z := false) ?_ (hz := by simp [icmp, h2])
   refine wk ?_
   exact Z1v rfl (Zl rfl Zg) (gvr (by simp [alk, mkRes, h2]))
 ·refine zI (z := false) ?_ (hz := by simp [icmp, h1])
  refine wk ?_
  exact Z1v rfl (Zl rfl Zg) (gvr (by simp [alk, mkRes, h1]))
theorem Z5r (s c t n : Int) (ev : List (Bool × Int)) (f1 f2 f3 f4 f5 : List (List AV)) (fd : List Str) (s' c' t' n' : Int) (ev' : List (Bool × Int)) (f1' f2' f3' f4' f5' : List (List AV)) (fd' : List Str) (hl : ev.length ≤ 1000) :
  ACalls Tryz.prog 39 [rsA s c t n ev f1 f2 f3 f4 f5 fd, rsA s' c' t' n' ev' f1' f2' f3' f4' f5' fd'] [] (Gives (bA (alk s c t ev s' c' t' ev'))) := by
 refine Zi (n := 31) Tryz.func39 rfl (by decide +kernel) rfl rfl ?_
 refine wk ?_
 refine Z48 (fun id2 => ?_)
 refine Z48 (fun id3 => ?_)
 refine zA ?_
 refine zN ?_
 refine tqN ?_
 refine qS ?_
 refine qR ?_
 refine zF ?_
 refine zLd 1 ?_
 refine zF ?_
 refine zLd 0 ?_
 by_cases h1 : s = s'
 ·subst h1
  refine zI (z := true) ?_ (hz := by simp [icmp])
  refine zM ?_
  refine zgF ?_
  refine Z33 1 ?_
  refine zgF ?_
  refine Z33 0 ?_
  by_cases h2 : c = c'
  ·subst h2
   refine zgI (z := true) ?_ (hz := by simp [icmp])
   refine zPT ?_
   refine zM ?_
   refine zgF ?_
   refine Z33 1 ?_
   refine zgF ?_
   refine Z33 0 ?_
   by_cases h3 : t = t'
   ·subst h3
    refine zgI (z := true) ?_ (hz := by simp [icmp])
    refine zPT ?_
    refine zM ?_
    refine zgF ?_
    refine Z33 1 ?_
    refine zgF ?_
    refine Z33 0 ?_
    refine Z2 (wT rfl rfl rfl rfl) rfl (Zu [] rfl rfl rfl (Ze1 ev ev' hl) List.nodup_nil) ?_
    refine wk ?_
    exact Z1v rfl (Zl rfl Zg) (gvr (by simp [alk, mkRes]))
   ·refine zgI (z := false) ?_ (hz := by simp [icmp, h3])
    refine wk ?_
    exact Z1v rfl (Zl rfl Zg) (gvr (by simp [alk, mkRes, h3]))
  ·refine zgI (z := false) ?_ (hz := by simp [icmp, h2])
   refine wk ?_
   exact Z1v rfl (Zl rfl Zg) (gvr (by simp [alk, mkRes, h2]))
 ·refine zI (z := false) ?_ (hz := by simp [icmp, h1])
  refine wk ?_
  exact Z1v rfl (Zl rfl Zg) (gvr (by simp [alk, mkRes, h1]))
end Go.Sx
namespace Go.Sx
open Go Go.Proofs
theorem Zfd {P : Program} {ro : Option Nat} {Q : Exit → St → Prop} {T : List (Nat × AV)} {H : AHeap} {D : List Nat} {n : Nat} {id : Nat} {l : List Oper} (np : Nat) (h : Calm P l.toArray H (AOps P ro l.toArray (l.drop np) Q) 0 (l.take np) [] ⟨T, H, D, n⟩) (hm : P.follows .mixedOrders = true := by rfl) (ht : tidyM l.toArray (masksOf l) (l.take np).length = true := by kernel_rfl) : AWp P ro (.region id l.toArray true) Q ⟨T, H, D, n⟩ := Z0i (masksOf l) np hm ht h
theorem Zdi {l : List Str} {i : Nat} (hi : i < l.length) : (l.map fun s => [sA s])[i]? = some [sA l[i]] := by simp [hi]
theorem Zds {l : List Str} {f : Str → Bool} {i : Nat} (hi : i < l.length) : (l.take (i + 1)).any f = ((l.take i).any f || f l[i]) := by
 rw [List.take_succ_eq_append_getElem hi, List.any_append]; simp
set_option maxHeartbeats 2000000 in
theorem Z88 (s c t n : Int) (ev : List (Bool × Int)) (f1 f2 f3 f4 f5 : List (List AV)) (fd names : List Str) (hf : fd.length ≤ 1000) (hn : names.length ≤ 1000) : ACalls Tryz.prog 41 [rsA s c t n ev f1 f2 f3 f4 f5 fd, row1 sA names] [] (Gives (bA (fd.any (outP names)))) := by
 refine Zi (n := 38) Tryz.func41 rfl (by decide +kernel) rfl rfl ?_
 refine wk ?_
 refine Z48 (fun id2 => ?_)
 refine zA ?_
 refine zN ?_
 refine tqN ?_
 refine qS ?_
 refine qS ?_
 refine qR ?_
 refine zA ?_
 refine zN ?_
 refine tqN ?_
 refine qB ?_
 refine Z09 (α := Nat) (fun i => ⟨[(5, iA i), (1, row1 sA names), (2, .ptr id2 11 0 0)], [(id2, .rows 41 11 [[.v (.int .i64 s), .v (.int .i64 c), .v (.int .i64 t), .v (.int .i64 n), .lst (evL ev), .lst f1, .lst f2, .lst f3, .lst f4, .lst f5, row1 sA fd]])], [], 38⟩) (fun i => i ≤ fd.length ∧ (fd.take i).any (outP names) = false) (fun i => fd.length - i) 0 ⟨Nat.zero_le _, rfl⟩ ?_ ?_
 ·exact Zc [0] ⟨rfl, rfl, rfl, trivial⟩ rfl (by decide) rfl rfl
 rintro i ⟨hi1, hi2⟩
 refine qS ?_
 refine qS ?_
 refine qR ?_
 refine zM ?_
 refine zF ?_
 refine zF ?_
 refine zLd 0 ?_
 refine zLn ?_
 refine zI ?_
 refine zN ?_
 refine tqN ?_
 refine Zd rfl (fun hc => ?_) (fun hc => ?_)
 ·have hi : i < fd.length := by
   have h1 : (i : Int) < fd.length := by simpa using hc
   omega
  refine qK ?_
  refine tqN ?_
  refine qS ?_
  refine qB ?_
  refine qS ?_
  refine qR ?_
  refine zA ?_
  refine zN ?_
  refine tqN ?_
  refine qS ?_
  refine qS ?_
  refine qR ?_
  refine zA ?_
  refine zN ?_
  refine tqN ?_
  refine qB ?_
  refine Z09 (α := Nat × Bool) (fun x => ⟨[(7, iA x.1), (6, bA x.2), (5, iA i), (1, row1 sA names), (2, .ptr id2 11 0 0)], [(id2, .rows 41 11 [[.v (.int .i64 s), .v (.int .i64 c), .v (.int .i64 t), .v (.int .i64 n), .lst (evL ev), .lst f1, .lst f2, .lst f3, .lst f4, .lst f5, row1 sA fd]])], [], 38⟩) (fun x => x.1 ≤ names.length ∧ inL (names.take x.1) fd[i] = x.2) (fun x => names.length - x.1) (0, false) ⟨Nat.zero_le _, rfl⟩ ?_ ?_
  ·exact Zc [0] ⟨rfl, rfl, rfl, rfl, rfl, trivial⟩ rfl (by decide) rfl rfl
  rintro ⟨k, b⟩ ⟨hk1, hk2⟩
  refine qS ?_
  refine qS ?_
  refine qR ?_
  refine zM ?_
  refine zM ?_
  refine zLn ?_
  refine zI ?_
  refine zN ?_
  refine tqN ?_
  refine Zd rfl (fun hc => ?_) (fun hc => ?_)
  ·have hk : k < names.length := by
    have h1 : (k : Int) < names.length := by simpa using hc
    omega
   cases b with
   | true =>
    refine qK ?_
    refine tqN ?_
    refine qS ?_
    refine qB ?_
    refine Zfd 14 ?_
    refine zcM ?_
    refine zcM ?_
    refine wk ?_
    trace_state
    exact ⟨(k + 1, true), ⟨hk, by rw [Zar hk, hk2]; rfl⟩, by show names.length - (k + 1) < names.length - k; omega, Zc [0] ⟨rfl, rfl, rfl, rfl, rfl, trivial⟩ rfl (by decide) rfl rfl⟩
   | false =>
    refine qK ?_
    refine tqN ?_
    refine qS ?_
    refine qB ?_
    refine Zfd 14 ?_
    refine zcM ?_
    refine zcM ?_
    refine Z2q ?_
    refine Z2q ?_
    refine Za (wY rfl rfl rfl rfl) rfl (Z0g rfl rfl rfl (Z39 (fun _ => rfl)) (by omega) (by simp only [List.length_map]; omega)) ?_
    refine Z16 (wY rfl rfl rfl rfl) rfl rfl rfl (Zdi hk) Zq ?_
    refine Zaa ?_
    refine Zaa ?_
    refine Z0n 0 ?_
    refine Z2q ?_
    refine Za (wY rfl rfl rfl rfl) rfl (Z0g rfl rfl rfl (Z39 (fun _ => rfl)) (by omega) (by simp only [List.length_map]; omega)) ?_
    refine Z16 (wY rfl rfl rfl rfl) rfl rfl rfl (Zdi hi) Zq ?_
    refine Zi6 ?_
    refine Z6m ?_
    refine Zdq ?_
    refine wk ?_
    exact ⟨(k + 1, beqS names[k] fd[i]), ⟨hk, by have h2 : inL (names.take k) fd[i] = false := hk2; rw [Zar hk, h2]; rfl⟩, by show names.length - (k + 1) < names.length - k; omega, Zc [0] ⟨rfl, rfl, rfl, rfl, rfl, trivial⟩ rfl (by decide) rfl rfl⟩
  ·have hk : k = names.length := by
    have h1 : ¬ (k : Int) < names.length := by simpa using hc
    have hk1 : k ≤ names.length := hk1
    omega
   have hb : inL names fd[i] = b := by
    have h2 : inL (names.take k) fd[i] = b := hk2
    rw [hk, List.take_length] at h2; exact h2
   refine Z03 ?_
   cases b with
   | true =>
    refine wk ?_
    exact ⟨i + 1, ⟨hi, by rw [Zds hi, hi2]; simp [outP, hb]⟩, by omega, Zc [0] ⟨rfl, rfl, rfl, trivial⟩ rfl (by decide) rfl rfl⟩
   | false =>
    refine wk ?_
    refine Z1v rfl (Zl rfl Zg) (gvr (congrArg bA (Eq.symm ?_)))
    exact List.any_eq_true.2 ⟨fd[i], List.getElem_mem hi, by simp [outP, hb]⟩
 ·have hi : i = fd.length := by
   have h1 : ¬ (i : Int) < fd.length := by simpa using hc
   omega
  refine wk ?_
  refine Z1v rfl (Zl rfl Zg) (gvr (congrArg bA (Eq.symm ?_)))
  rw [hi, List.take_length] at hi2
  exact hi2
end Go.Sx
namespace Go.Sx
open Go
def SeqKR {α : Type} (Hk : AHeap) (Fin : List α → Prop) (J Jx : List α → AHeap → Prop) : AEnd → AHeap → Prop :=
 fun e H' => (∃ v, e = .ret v) ∧ ((∃ l H'', Fin l ∧ H'.Perm (Hk ++ H'') ∧ J l H'') ∨ (∃ pre H'', H'.Perm (Hk ++ H'') ∧ Jx pre H''))
structure SeqK {α : Type} (P : Program) (gf : Nat) (caps : List AV) (Hit Hk : AHeap) (enc : α → List AV) (Adm Fin : List α → Prop) : Prop where
 ok : Callable P gf
 run : ∀ (id : Nat) (J Jx : List α → AHeap → Prop),
  (∀ pre x H, Adm (pre ++ [x]) → J pre H → YCalls P id (enc x) H (fun e H' => (e = .ret (.v (.bool true)) ∧ J (pre ++ [x]) H') ∨ (e = .ret (.v (.bool false)) ∧ Jx (pre ++ [x]) H'))) →
  ∀ H, J [] H → ACalls P gf (.yld id :: caps) (Hit ++ H) (SeqKR Hk Fin J Jx)
theorem Z3s {P : Program} {Q : Exit → St → Prop} {s : St} {g : Operand} {ps : Array Tmp} {assign body : Code} {gf : Nat} {caps : List AV} {α : Type} (enc : α → List AV) (Adm Fin : List α → Prop) (Hit Hk Hb0 : AHeap)
  (I : List α → AHeap → Prop) (Ix : Code → List α → AHeap → Prop) (hg : ev s.T g = some (.fn (.func gf) caps)) (hp : s.H.Perm (Hit ++ Hb0)) (hI0 : I [] Hb0) (hseq : SeqK P gf caps Hit Hk enc Adm Fin)
  (hps : ∀ x, (enc x).length = ps.size) (hpn : ∀ t, t ∈ ps.toList → t < s.n)
  (round : ∀ l pre x Hb, Adm (pre ++ [x]) → I pre Hb → AWp P (some l) assign (fun e s' => e = .normal ∧ AWp P (some l) body (roundQ I Ix (pre ++ [x])) s') ⟨prm s.T ps.toList (enc x), Hb, [], s.n⟩)
  (done : ∀ i ll Hb, Fin ll → I ll Hb → Q .normal ⟨s.T, (Hk ++ Hb) ++ [(i, .raw (.deferred (some [])))], i :: s.D, s.n⟩)
  (stop : ∀ i c pre Hb, Ix c pre Hb → AWp P none c Q ⟨s.T, (Hk ++ Hb) ++ [(i, .raw (.deferred (some [])))], i :: s.D, s.n⟩) :
  AWp P none (.rangeFunc g ps assign body) Q s := by
 intro Z C0 H0 w0 C a w he hs
 refine wpIn_rangeFunc (F := Wd none) (n := 0) (fun fn _ => ?_)
 -- two new blocks
 obtain ⟨i1, hi1⟩ := Z5c (C.U ++ Z)
 rw [List.mem_append, not_or] at hi1
 have hd1 : OR (C.bind i1 w.heap.size 0) i1 (w.alloc (.deferred (some []))) (.raw (.deferred (some []))) := ⟨_, 0, Ctx.bind_m .., heap_alloc_new w _⟩
 obtain ⟨hw1, he1⟩ := Z1t (Z := Z) hs.wr hi1.1 hi1.2 hd1
 obtain ⟨i2, hi2⟩ := Z5c ((C.bind i1 w.heap.size 0).U ++ Z)
 rw [List.mem_append, not_or] at hi2
 let rec0 : Loop := { state := .ready, pending := none, fn := fn, tmps := a.tmps, params := ps, assign := assign, body := body, defers := w.heap.size }
 let C2 := (C.bind i1 w.heap.size 0).bind i2 (w.alloc (.deferred (some []))).heap.size 0
 let w2 := (w.alloc (.deferred (some []))).alloc (.loop rec0)
 have hsz1 : (w.alloc (.deferred (some []))).heap.size = w.heap.size + 1 := by simp
 have hl2 : OR C2 i2 w2 (.loop s.T s.n ps assign body .ready none) := by
  refine ⟨_, 0, rec0, Ctx.bind_m .., heap_alloc_new _ _, rfl, rfl, rfl, rfl, rfl, hs.sz, fun t x ht => ?_⟩
  obtain ⟨v, h1, h2⟩ := hs.sl t x ht
  exact ⟨v, h1, (h2.mono he1.le).mono (Ctx.le_bind hi2.1)⟩
 obtain ⟨hw2, he2⟩ := Z1t (Z := Z) hw1 hi2.1 hi2.2 hl2
 have he12 := he1.trans he2
 have hm2 : C2.m i2 = some (w.heap.size + 1, 0) := by rw [← hsz1]; exact Ctx.bind_m ..
 have hm1 : C2.m i1 = some (w.heap.size, 0) := by rw [he2.le.m i1 List.mem_cons_self]; exact Ctx.bind_m ..
 -- the function's value
 have hgv := hs.ev hg
 generalize hge : a.eval g = gv at hgv
 cases hgv with
 | fn _ _ vcaps hcl hcv =>
  refine ⟨w.heap.size + 1, [{ target := .collected w.heap.size, args := #[] }], w2, { target := .fn (.func gf) vcaps, args := #[.func (.yield (w.heap.size + 1)) #[] #[]] }, w2, gf, #[.func (.yield (w.heap.size + 1)) #[] #[]] ++ vcaps, w2, run_enterLoop_outer fn a.tmps ps assign body, ?_, fun _ _ => trivial, ?_, nofun, ?_⟩
  ·simp only [resolve, rangeCall, Deferred.ofValue, hge, Sem.run_pure]
   simp [Act.eval]
  ·simp only [invoke]; exact Z4q hseq.ok _ w2
  -- the rounds
  let J : List α → AHeap → Prop := fun pre H => ∃ Hb, I pre Hb ∧ H = (i2, .loop s.T s.n ps assign body .ready none) :: Hb
  let Jx : List α → AHeap → Prop := fun pre H => ∃ c Hb, Ix c pre Hb ∧ H = (i2, .loop s.T s.n ps assign body .done (some c)) :: Hb
  have hY : ∀ pre x H, Adm (pre ++ [x]) → J pre H → YCalls P i2 (enc x) H (fun e H' => (e = .ret (.v (.bool true)) ∧ J (pre ++ [x]) H') ∨ (e = .ret (.v (.bool false)) ∧ Jx (pre ++ [x]) H')) := by
   rintro pre x H hxs ⟨Hb, hI, rfl⟩
   intro Z1 C1 w1 vs l N hm hwr hvs
   obtain ⟨hu, hor⟩ := hwr.ids _ _ List.mem_cons_self
   obtain ⟨r, h1, h2, h3, h4, h5, h6, h7, h8⟩ := Z1m hor hm
   refine ⟨r.fn, _, r.assign, r.body, run_yield h1 (by rw [← hvs.1, hps, h4]), ?_⟩
   refine roundIn_of_wpIn (F := Wd none) trivial ?_
   have hwb : WR C1 Hb w1 := (hwr.perm (List.perm_append_comm (l₁ := [(i2, _)]) (l₂ := Hb))).left
   have hfold : ((r.params.zip vs).foldl (fun tmps (x : Tmp × Value) => tmps.setIfInBounds x.1 x.2) r.tmps) = ((ps.toList.zip vs.toList).foldl (fun tmps (x : Tmp × Value) => tmps.setIfInBounds x.1 x.2) r.tmps) := by
    rw [h4, ← Array.foldl_toList, Array.toList_zip]
   obtain ⟨hq1, hq2⟩ := Z5l (C := C1) (n := s.n) ps.toList (enc x) s.T r.tmps vs.toList (by rw [hps]; simp) (by rw [hvs.1]; simp) hpn h7 h8 (fun i y v hy hv => hvs.2 i y v hy (by rw [← Array.getElem?_toList]; exact hv))
   have hSR : SR C1 ⟨prm s.T ps.toList (enc x), Hb, [], s.n⟩ { tmps := (r.params.zip vs).foldl (fun tmps (x : Tmp × Value) => tmps.setIfInBounds x.1 x.2) r.tmps, defers := [] } w1 := by
    refine ⟨hwb, ?_, rfl, nofun, ?_⟩
    ·rw [hfold]; exact hq2
    ·rw [hfold]; exact hq1
   rw [h5, h6]
   refine wpIn_mono (round l pre x Hb hxs hI (Z1 ++ []) C1 Hb w1 C1 _ w1 (.refl ..) hSR) ?_
   rintro e a' w' ⟨_, C', s', ⟨rfl, hbody⟩, hs', he'⟩
   -- the record is beside
   have hperm : ((i2, AObj.loop s.T s.n ps assign body .ready none) :: Hb).Perm (Hb ++ [(i2, .loop s.T s.n ps assign body .ready none)]) := List.perm_append_comm (l₁ := [(i2, _)]) (l₂ := Hb)
   obtain ⟨hf1, hf2⟩ := he'.frame (hwr.perm hperm) hs'.wr
   have hperm' : (s'.H ++ [(i2, AObj.loop s.T s.n ps assign body .ready none)]).Perm ((i2, .loop s.T s.n ps assign body .ready none) :: s'.H) := List.perm_append_comm (l₁ := s'.H) (l₂ := [(i2, _)])
   have hwr' := hf1.perm hperm'
   have hm' : C'.m i2 = some (l, N) := by rw [he'.le.m i2 hu]; exact hm
   obtain ⟨_, hor'⟩ := hwr'.ids _ _ List.mem_cons_self
   obtain ⟨r', g1, g2, g3, g4, g5, g6, g7, g8⟩ := Z1m hor' hm'
   obtain ⟨hb1, hb2⟩ := Z2l (Z := Z1) (st' := .busy) (pend' := r'.pending) hwr' hm' g1
   refine ⟨_, run_beginRound g1 g2, ?_⟩
   have hwbusy : WR C' s'.H (w'.putObj l (.loop { r' with state := .busy })) := (hb1.perm (List.perm_append_comm (l₁ := [(i2, _)]) (l₂ := s'.H))).left
   refine wpIn_mono (hbody (Z1 ++ []) C' s'.H _ C' a' _ (.refl ..) ⟨hwbusy, hs'.sl, hs'.df, hs'.du, hs'.sz⟩) ?_
   rintro e a'' w'' ⟨hno, C'', s'', hq, hs'', he''⟩
   have big : ∀ s3, Weak s'' s3 → ∀ (jump : Option Code) (st : LoopState), st = (if jump.isNone then .ready else .done) →
     ∃ v w4, (Instr.endRound l jump).run P w'' = .ok v w4 ∧ v = .bool jump.isNone ∧ ∃ C3, WR C3 ((i2, .loop s.T s.n ps assign body st jump) :: s3.H) w4 ∧ Ext Z1 C1 ((i2, .loop s.T s.n ps assign body .ready none) :: Hb) w1 C3 ((i2, .loop s.T s.n ps assign body st jump) :: s3.H) w4 := by
    intro s3 hwk jump st hst
    obtain ⟨C3, hs3, he3⟩ := hwk Z1 C'' a'' w'' hs''
    have he4 : Ext Z1 C' s'.H (w'.putObj l (.loop { r' with state := .busy })) C3 s3.H w'' := (he''.subZ (fun z hz => List.mem_append_left _ hz)).trans he3
    obtain ⟨hf3, hf4⟩ := he4.frame (hb1.perm (List.perm_append_comm (l₁ := [(i2, _)]) (l₂ := s'.H))) hs3.wr
    have hwr3 := hf3.perm (List.perm_append_comm (l₁ := s3.H) (l₂ := [(i2, _)]))
    have hm3 : C3.m i2 = some (l, N) := by
     rw [he4.le.m i2 (he'.le.U i2 hu)]; exact hm'
    obtain ⟨_, hor3⟩ := hwr3.ids _ _ List.mem_cons_self
    obtain ⟨r3, k1, k2, k3, k4, k5, k6, k7, k8⟩ := Z1m hor3 hm3
    obtain ⟨ht1, ht2⟩ := Z2l (Z := Z1) (st' := st) (pend' := jump) hwr3 hm3 k1
    refine ⟨_, _, run_endRound jump k1, rfl, C3, by rw [← hst]; exact ht1, ?_⟩
    rw [← hst]
    have x1 : Ext Z1 C1 ((i2, .loop s.T s.n ps assign body .ready none) :: Hb) w1 C' ((i2, .loop s.T s.n ps assign body .ready none) :: s'.H) w' := ((hf2.subZ (fun z hz => List.mem_append_left _ hz)).permL hperm.symm).permR hperm'
    have x2 := (hf4.permL (List.perm_append_comm (l₁ := s'.H) (l₂ := [(i2, _)]))).permR (List.perm_append_comm (l₁ := s3.H) (l₂ := [(i2, _)]))
    exact ((x1.trans hb2).trans x2).trans ht2
   cases e with
   | normal =>
    obtain ⟨s3, hwk, hI3⟩ := hq
    obtain ⟨v, w4, k1, rfl, C3, k2, k3⟩ := big s3 hwk none .ready rfl
    exact ⟨_, w4, k1, C3, _, .ret (.v (.bool true)), .inl ⟨rfl, s3.H, hI3, rfl⟩, k2, k3, .v _⟩
   | ret =>
    obtain ⟨s3, hwk, hI3⟩ := hq
    obtain ⟨v, w4, k1, rfl, C3, k2, k3⟩ := big s3 hwk (some .ret) .done rfl
    exact ⟨_, w4, k1, C3, _, .ret (.v (.bool false)), .inr ⟨rfl, _, s3.H, hI3, rfl⟩, k2, k3, .v _⟩
   | exit i =>
    obtain ⟨s3, hwk, hI3⟩ := hq
    obtain ⟨v, w4, k1, rfl, C3, k2, k3⟩ := big s3 hwk (some (.exit i)) .done rfl
    exact ⟨_, w4, k1, C3, _, .ret (.v (.bool false)), .inr ⟨rfl, _, s3.H, hI3, rfl⟩, k2, k3, .v _⟩
   | goto i =>
    obtain ⟨s3, hwk, hI3⟩ := hq
    obtain ⟨v, w4, k1, rfl, C3, k2, k3⟩ := big s3 hwk (some (.goto i)) .done rfl
    exact ⟨_, w4, k1, C3, _, .ret (.v (.bool false)), .inr ⟨rfl, _, s3.H, hI3, rfl⟩, k2, k3, .v _⟩
   | panic ch => exact hq.elim
   | outgrown => exact hno rfl
  -- the one call
  have hcall := hseq.run i2 J Jx hY _ ⟨Hb0, hI0, rfl⟩
  have hpa : ((i2, AObj.loop s.T s.n ps assign body .ready none) :: (i1, .raw (.deferred (some []))) :: s.H).Perm ((Hit ++ (i2, .loop s.T s.n ps assign body .ready none) :: Hb0) ++ [(i1, .raw (.deferred (some [])))]) := by
   refine List.Perm.trans ?_ (List.perm_append_comm (l₁ := [(i1, AObj.raw (.deferred (some [])))]) (l₂ := Hit ++ (i2, .loop s.T s.n ps assign body .ready none) :: Hb0))
   refine (List.Perm.swap _ _ _).trans ?_
   refine List.Perm.cons _ ?_
   exact (List.Perm.cons _ hp).trans List.perm_middle.symm
  have hvs : VRs C2 (.yld i2 :: caps) (#[.func (.yield (w.heap.size + 1)) #[] #[]] ++ vcaps) := by
   have h1 : VRs C2 [.yld i2] #[.func (.yield (w.heap.size + 1)) #[] #[]] := ⟨rfl, by
    intro i x v hx hv
    cases i with
    | zero => simp at hx hv; subst hx; subst hv; exact .yld i2 _ 0 hm2 List.mem_cons_self
    | succ i => simp at hx⟩
   exact h1.append ⟨hcl, fun i x v hx hv => ((hcv i x v hx hv).mono he1.le).mono he2.le⟩
  refine ((hcall.frame _ _ hpa).run Z C2 w2 _ hw2 hvs).mono ?_
  rintro e w3 ⟨C3, K3, x, ⟨H', ⟨⟨v, rfl⟩, hfin⟩, rfl⟩, hw3, he3, hx⟩
  have hm3 : C3.m i2 = some (w.heap.size + 1, 0) := by rw [he3.le.m i2 List.mem_cons_self]; exact hm2
  -- behind it
  have fin : ∀ (st : LoopState) (pend : Option Code) (Hb : AHeap), H'.Perm ((i2, .loop s.T s.n ps assign body st pend) :: Hb) → st ≠ .busy →
    ∃ w4, (Instr.endLoop (w.heap.size + 1)).run P w3 = .ok pend w4 ∧ SR C3 ⟨s.T, Hb ++ [(i1, .raw (.deferred (some [])))], i1 :: s.D, s.n⟩ { a with defers := [{ target := .collected w.heap.size, args := #[] }] ++ a.defers } w4 ∧
     Ext Z C0 H0 w0 C3 (Hb ++ [(i1, .raw (.deferred (some [])))]) w4 := by
   intro st pend Hb hpm hst
   have hpm' : (H' ++ [(i1, AObj.raw (.deferred (some [])))]).Perm ((i2, .loop s.T s.n ps assign body st pend) :: (Hb ++ [(i1, .raw (.deferred (some [])))])) := by
    exact List.Perm.append_right _ hpm
   have hwl := hw3.perm hpm'
   obtain ⟨_, hor⟩ := hwl.ids _ _ List.mem_cons_self
   obtain ⟨r, g1, g2, g3, _⟩ := Z1m hor hm3
   obtain ⟨ht1, ht2⟩ := Z2l (Z := Z) (st' := .exhausted) (pend' := r.pending) hwl hm3 g1
   refine ⟨_, by rw [← g3]; exact run_endLoop g1 (by rw [g2]; exact hst), ?_, ?_⟩
   ·have hsub : ∀ p, p ∈ (Hb ++ [(i1, AObj.raw (.deferred (some [])))]) → p ∈ (i2, AObj.loop s.T s.n ps assign body .exhausted r.pending) :: (Hb ++ [(i1, AObj.raw (.deferred (some [])))]) := fun p hp => List.mem_cons_of_mem _ hp
    have hnd := ht1.nd
    simp only [List.map_cons, List.nodup_cons] at hnd
    refine ⟨ht1.sub hsub hnd.2, fun t x ht => ?_, ?_, ?_, hs.sz⟩
    ·obtain ⟨v, h1, h2⟩ := hs.sl t x ht
     exact ⟨v, h1, (h2.mono he12.le).mono he3.le⟩
    ·simp only [List.map_cons, List.cons_append, List.nil_append]
     have e1 : mark C3 i1 = { target := .collected w.heap.size, args := #[] } := by
      simp [mark, he3.le.m i1 (List.mem_cons_of_mem _ List.mem_cons_self), hm1]
     rw [e1, hs.df]
     congr 1
     exact List.map_congr_left fun i hi => by
      have e2 : C3.m i = C.m i := (he3.le.m i (he12.le.U i (hs.du i hi))).trans (he12.le.m i (hs.du i hi))
      have e3 : C3.df i = C.df i := (he3.le.df i (he12.le.U i (hs.du i hi))).trans (he12.le.df i (hs.du i hi))
      simp only [mark, e2, e3]
    ·intro i hi
     rcases List.mem_cons.1 hi with rfl | hi
     ·exact he3.le.U _ (List.mem_cons_of_mem _ List.mem_cons_self)
     ·exact he3.le.U i (he12.le.U i (hs.du i hi))
   ·refine (he.trans (he12.trans ((he3.permR hpm').trans ht2))).trans (Ext.sub (fun p hp => List.mem_cons_of_mem _ hp))
  cases e with
  | returned v' =>
   rcases hfin with ⟨ll, H'', hfl, hpm, Hb, hI, rfl⟩ | ⟨pre, H'', hpm, c, Hb, hIx, rfl⟩
   ·obtain ⟨w4, h1, h2, h3⟩ := fin .ready none (Hk ++ Hb) (hpm.trans List.perm_middle) nofun
    exact ⟨none, w4, h1, nofun, C3, _, done i1 ll Hb hfl hI, h2, h3⟩
   ·obtain ⟨w4, h1, h2, h3⟩ := fin .done (some c) (Hk ++ Hb) (hpm.trans List.perm_middle) nofun
    exact ⟨some c, w4, h1, stop i1 c pre Hb hIx Z C0 H0 w0 C3 _ w4 h3 h2⟩
  | panicked ch => exact hx.elim
  | outgrown => exact hx.elim
end Go.Sx
namespace Go.Sx
open Go Go.Proofs
theorem Zc5 (out : List Str) (ho : out.Nodup) (ents : Array MapEntry) (clock : Nat) (hE : SetE out ents clock) (i1 q : Nat) : SeqK Tryz.prog 186 [.ptr i1 1 0 0] [(i1, .rows 131 1 [[.map q]]), (q, .raw (.map ents clock))] [(q, .raw (.map ents clock))] (fun s : Str => [sA s]) (AdmS out) (FinS out) := by
 refine ⟨⟨_, Tryz.func186, rfl, by decide +kernel⟩, ?_⟩
 intro id J Jx hY Hj hJ0
 refine Zi (n := 14) Tryz.func186 rfl (by decide +kernel) rfl rfl ?_
 intro Z C0 H0 wz C a w he hs
 obtain ⟨hu, mb, N, hm, hh⟩ := hs.wr.ids q (.raw (.map ents clock)) (List.mem_append_left _ (List.mem_cons_of_mem _ List.mem_cons_self))
 refine wpIn_mono ((?_ : AWpO Z C ([(i1, .rows 131 1 [[.map q]]), (q, .raw (.map ents clock))] ++ Hj) w Tryz.prog none _ (RetQ Tryz.prog Tryz.f186 (SeqKR [(q, .raw (.map ents clock))] (FinS out) J Jx)) _) C a w (.refl ..) hs) ?_
 rotate_left
 ·rintro e a' w' ⟨h1, C', s', hq, hs', he'⟩
  exact ⟨h1, C', s', hq, hs', he.trans he'⟩
 refine Z0z ?_
 refine Z0y ?_
 refine Z5o [(i1, .rows 131 1 [[.map q]])] (.map q) (w0 rfl) rfl (Z1e rfl rfl ⟨_, _, _, List.mem_cons_self, rfl, rfl⟩ Zq) (fun p hp => by rw [List.mem_singleton.1 hp]; exact List.mem_cons_self) ?_
 refine Z3w 1 (w0 rfl) rfl rfl rfl rfl hm hu (fun it => ?_)
 refine Z1d ?_
 refine Z1y ?_
 refine Z4y (α := List MapEntry × AHeap) (fun x => ⟨[(5, .ptr it 1 0 0), (0, .yld id)], [(it, .raw (.mapIter (some mb) clock (bornsA x.1) clock)), (q, .raw (.map ents clock))] ++ x.2, [], 14⟩)
  (fun x => Got out ents x.1 ∧ J (x.1.map keyS) x.2) (fun x => (leftOf ents (bornsA x.1)).size) ([], Hj) ⟨.start out ents, hJ0⟩ ?_ ?_
 ·exact Z2p (F := [_, _, _]) (F' := [_, _]) (Hj := Hj) [0, 2] ⟨rfl, rfl, trivial⟩ rfl rfl rfl (by decide) rfl rfl
 rintro x ⟨hG, hJx⟩
 refine Z0z ?_
 refine Z0y ?_
 refine Z4w 0 1 (w0 rfl) rfl rfl rfl rfl rfl hm hu hE.born (Nat.le_refl _) (fun hz => ?_) (fun e hem => ?_)
 ·refine Z2c (w0 rfl) rfl (Zs rfl rfl rfl) ?_
  refine Z1d ?_
  refine Z0z ?_
  refine Z2g rfl nofun (fun _ => ?_)
  refine Z2r (Z03 ?_)
  exact Zr rfl Zg (.cons _ (.refl _)) ⟨⟨_, rfl⟩, .inl ⟨_, _, hG.fin hE ho hz, .refl _, hJx⟩⟩
 ·have hk := hE.keyS (mem_left hem).1
  have hG2 := hG.step hem
  have hA : AdmS out (x.1.map keyS ++ [keyS e]) := by have := hG2.keys hE ho; rw [List.map_append] at this; exact this
  refine Z2c (w0 rfl) rfl (Zs rfl rfl rfl) ?_
  refine Z1d ?_
  refine Z0z ?_
  refine Z2g rfl (fun _ => ?_) nofun
  refine Z2r (Zm ?_)
  refine Z1y ?_
  refine Z0z ?_
  refine Z0y ?_
  refine Z3v 0 1 (w0 rfl) rfl rfl rfl rfl rfl hm hu (mem_left hem).1 hE.nd ?_
  refine Z2c (w0 rfl) rfl (Zz (y := sA (keyS e)) (Zs rfl rfl rfl) (congrArg AV.v hk.1)) ?_
  refine Z2c (w0 rfl) rfl (Z4 rfl rfl) ?_
  refine Z1d ?_
  refine Z2r ?_
  refine Z7 ?_
  refine Z3 ?_
  refine Z2 (w0 rfl) rfl (Z0 rfl rfl) ?_
  refine Z2 (w0 rfl) rfl (Z0 rfl rfl) ?_
  refine Z3u (J := J) (Jx := Jx) (l := x.1.map keyS ++ [keyS e]) [_, _] x.2 (w0 rfl) rfl rfl rfl rfl rfl (hY _ _ _ hA hJx) (fun bY Hn hyT hyF => ?_)
  refine Z2 (w0 rfl) rfl (Z0l rfl rfl) ?_
  refine Z5 ?_
  refine Zd rfl ?_ ?_
  ·intro hc
   refine Z01 ?_
   exact Zr rfl Zg (.cons _ (.refl _)) ⟨⟨_, rfl⟩, .inr ⟨_, _, .refl _, hyF (Z7t hc)⟩⟩
  ·intro hc
   refine Zm ?_
   refine ⟨(x.1 ++ [e], Hn), ⟨hG2, by show J ((x.1 ++ [e]).map keyS) Hn; rw [List.map_append]; exact hyT (Zbx hc)⟩, Got.dec (out := out) hem, ?_⟩
   exact Z2p (F := [_, _]) (F' := [_, _]) (Hj := Hn) [0, 1] ⟨rfl, rfl, trivial⟩ rfl rfl (by rw [Z2s]) (by decide) rfl rfl
end Go.Sx
