/- Plain laws of sorting by exchanges: what each part of the library's sort leaves. -/
import Derived.Test.YtaphgfiboidpbaaBaSxSpec
set_option linter.unusedVariables false
set_option linter.unusedSimpArgs false
namespace Go.Sx
open Go

structure LtOK {α : Type} (lt : α → α → Bool) : Prop where
  irr : ∀ x, lt x x = false
  asy : ∀ x y, lt x y = true → lt y x = false
  tr : ∀ x y z, lt y x = false → lt z y = false → lt z x = false

section
variable {α : Type} [Inhabited α]
def swp (l : List α) (i j : Nat) : List α := (l.set i (l.getD j default)).set j (l.getD i default)
theorem swp_len (l : List α) (i j : Nat) : (swp l i j).length = l.length := by simp [swp]
theorem swp_get {l : List α} {i j : Nat} (hi : i < l.length) (hj : j < l.length) (k : Nat) : (swp l i j).getD k default = if k = j then l.getD i default else if k = i then l.getD j default else l.getD k default := by
  unfold swp
  simp only [List.getD_eq_getElem?_getD, List.getElem?_set, List.length_set]
  by_cases h1 : j = k
  · subst h1; simp [hj]
  · by_cases h2 : i = k
    · subst h2; simp [h1, Ne.symm h1, hi]
    · simp [h1, h2, Ne.symm h1, Ne.symm h2]
theorem swp_i {l : List α} {i j : Nat} (hi : i < l.length) (hj : j < l.length) : (swp l i j).getD i default = l.getD j default := by
  rw [swp_get hi hj]; by_cases h : i = j
  · subst h; simp
  · simp [h]
theorem swp_j {l : List α} {i j : Nat} (hi : i < l.length) (hj : j < l.length) : (swp l i j).getD j default = l.getD i default := by rw [swp_get hi hj]; simp
theorem swp_o {l : List α} {i j k : Nat} (hi : i < l.length) (hj : j < l.length) (h1 : k ≠ i) (h2 : k ≠ j) : (swp l i j).getD k default = l.getD k default := by rw [swp_get hi hj]; simp [h1, h2]
theorem swp_perm {l : List α} {i j : Nat} (hi : i < l.length) (hj : j < l.length) : (swp l i j).Perm l := by
  unfold swp
  rw [show l.getD i default = l[i] from by simp [List.getD, hi], show l.getD j default = l[j] from by simp [List.getD, hj]]
  exact List.set_set_perm hi hj

/-- Exchanges within a stretch. -/
inductive Sw (a b : Nat) (l : List α) : List α → Prop
  | refl : Sw a b l l
  | step {m : List α} (i j : Nat) (h : Sw a b l m) (hi : a ≤ i ∧ i < b) (hj : a ≤ j ∧ j < b) (hb : b ≤ m.length) : Sw a b l (swp m i j)
theorem Sw.len {a b : Nat} {l m : List α} (h : Sw a b l m) : m.length = l.length := by
  induction h with
  | refl => rfl
  | step i j _ _ _ _ ih => rw [swp_len, ih]
theorem Sw.out {a b : Nat} {l m : List α} (h : Sw a b l m) {k : Nat} (hk : k < a ∨ b ≤ k) : m.getD k default = l.getD k default := by
  induction h with
  | refl => rfl
  | step i j _ hi hj hb ih => rw [swp_o (by omega) (by omega) (by omega) (by omega), ih]
theorem Sw.all {a b : Nat} {l m : List α} (h : Sw a b l m) {Q : α → Prop} (hq : ∀ k, a ≤ k → k < b → Q (l.getD k default)) : ∀ k, a ≤ k → k < b → Q (m.getD k default) := by
  induction h with
  | refl => exact hq
  | step i j _ hi hj hb ih =>
    intro k h1 h2
    rw [swp_get (by omega) (by omega)]
    split
    · exact ih i hi.1 hi.2
    · split
      · exact ih j hj.1 hj.2
      · exact ih k h1 h2
theorem Sw.perm {a b : Nat} {l m : List α} (h : Sw a b l m) : m.Perm l := by
  induction h with
  | refl => exact .refl _
  | step i j _ hi hj hb ih => exact (swp_perm (by omega) (by omega)).trans ih
theorem Sw.trans {a b : Nat} {l m r : List α} (h : Sw a b l m) (k : Sw a b m r) : Sw a b l r := by
  induction k with
  | refl => exact h
  | step i j _ hi hj hb ih => exact .step i j ih hi hj hb
theorem Sw.mono {a b a' b' : Nat} {l m : List α} (h : Sw a b l m) (ha : a' ≤ a) (hb' : b ≤ b') (hl : b' ≤ l.length) : Sw a' b' l m := by
  induction h with
  | refl => exact .refl
  | step i j h hi hj hb ih => exact .step i j ih (by omega) (by omega) (by rw [h.len]; exact hl)

variable {lt : α → α → Bool}
def SAdj (lt : α → α → Bool) (a b : Nat) (l : List α) : Prop := ∀ k, a < k → k < b → lt (l.getD k default) (l.getD (k - 1) default) = false
def SOn (lt : α → α → Bool) (a b : Nat) (l : List α) : Prop := ∀ i j, a ≤ i → i ≤ j → j < b → lt (l.getD j default) (l.getD i default) = false
theorem SAdj.on (hO : LtOK lt) {a b : Nat} {l : List α} (h : SAdj lt a b l) : SOn lt a b l := by
  intro i j h1 h2 h3
  induction j with
  | zero => have : i = 0 := by omega
            subst this; exact hO.irr _
  | succ j ih =>
    rcases Nat.lt_or_ge j i with h4 | h4
    · have : i = j + 1 := by omega
      subst this; exact hO.irr _
    · exact hO.tr _ _ _ (ih h4 (by omega)) (h (j + 1) (by omega) h3)
theorem SAdj.refl1 {a b : Nat} {l : List α} (h : b ≤ a + 1) : SAdj lt a b l := fun k h1 h2 => by omega

/-! ### One that moves down -/
structure Ins (lt : α → α → Bool) (a j i : Nat) (l : List α) : Prop where
  one : ∀ k, a < k → k ≤ i → k ≠ j → lt (l.getD k default) (l.getD (k - 1) default) = false
  two : j < i → a < j → lt (l.getD (j + 1) default) (l.getD (j - 1) default) = false
theorem Ins.start {a i : Nat} {l : List α} (h : SAdj lt a i l) : Ins lt a i i l := ⟨fun k h1 h2 h3 => h k h1 (by omega), fun h => by omega⟩
theorem Ins.step (hO : LtOK lt) {a j i : Nat} {l : List α} (h : Ins lt a j i l) (hj : a < j) (hi : j ≤ i) (hl : i < l.length) (hlt : lt (l.getD j default) (l.getD (j - 1) default) = true) : Ins lt a (j - 1) i (swp l j (j - 1)) := by
  have hjl : j < l.length := by omega
  have hjl1 : j - 1 < l.length := by omega
  refine ⟨fun k h1 h2 h3 => ?_, fun h1 h2 => ?_⟩
  · by_cases e1 : k = j
    · subst e1; rw [swp_i hjl hjl1, swp_j hjl hjl1]; exact hO.asy _ _ hlt
    · by_cases e2 : k = j + 1
      · subst e2
        rw [swp_o hjl hjl1 (by omega) (by omega), show j + 1 - 1 = j from by omega, swp_i hjl hjl1]
        exact h.two (by omega) hj
      · rw [swp_o hjl hjl1 e1 h3, swp_o hjl hjl1 (by omega) (by omega)]; exact h.one k h1 h2 e1
  · rw [show j - 1 + 1 = j from by omega, swp_i hjl hjl1, swp_o hjl hjl1 (by omega) (by omega)]
    exact h.one (j - 1) h2 (by omega) (by omega)
theorem Ins.done {a j i : Nat} {l : List α} (h : Ins lt a j i l) (he : j ≤ a ∨ lt (l.getD j default) (l.getD (j - 1) default) = false) : SAdj lt a (i + 1) l := by
  intro k h1 h2
  by_cases e : k = j
  · subst e; rcases he with he | he; omega; exact he
  · exact h.one k h1 (by omega) e

/-! ### A heap -/
def hp (l : List α) (f x : Nat) : α := l.getD (f + x) default
def Heap (lt : α → α → Bool) (lo hi f : Nat) (l : List α) : Prop := ∀ x c, lo ≤ x → (c = 2 * x + 1 ∨ c = 2 * x + 2) → c < hi → lt (hp l f x) (hp l f c) = false
structure Sift (lt : α → α → Bool) (lo hi f root : Nat) (l : List α) : Prop where
  one : ∀ x c, lo ≤ x → x ≠ root → (c = 2 * x + 1 ∨ c = 2 * x + 2) → c < hi → lt (hp l f x) (hp l f c) = false
  two : ∀ x c, lo ≤ x → (root = 2 * x + 1 ∨ root = 2 * x + 2) → (c = 2 * root + 1 ∨ c = 2 * root + 2) → c < hi → lt (hp l f x) (hp l f c) = false
theorem Sift.start {lo hi f : Nat} {l : List α} (h : Heap lt (lo + 1) hi f l) : Sift lt lo hi f lo l :=
  ⟨fun x c h1 h2 h3 h4 => h x c (by omega) h3 h4, fun x c h1 h2 => by omega⟩
theorem hp_swp {l : List α} {f i j k : Nat} (hi : f + i < l.length) (hj : f + j < l.length) : hp (swp l (f + i) (f + j)) f k = if k = j then hp l f i else if k = i then hp l f j else hp l f k := by
  unfold hp; rw [swp_get hi hj]; simp only [Nat.add_left_cancel_iff]
theorem Sift.step (hO : LtOK lt) {lo hi f root c0 : Nat} {l : List α} (h : Sift lt lo hi f root l) (hlo : lo ≤ root) (hc : c0 = 2 * root + 1 ∨ c0 = 2 * root + 2) (hch : c0 < hi) (hl : f + hi ≤ l.length)
    (hmax : ∀ c, (c = 2 * root + 1 ∨ c = 2 * root + 2) → c < hi → lt (hp l f c0) (hp l f c) = false) (hlt : lt (hp l f root) (hp l f c0) = true) : Sift lt lo hi f c0 (swp l (f + root) (f + c0)) := by
  have h1 : f + root < l.length := by omega
  have h2 : f + c0 < l.length := by omega
  refine ⟨fun x c hx hne hcx hcl => ?_, fun x c hx hcx hcc hcl => ?_⟩
  · rw [hp_swp h1 h2, hp_swp h1 h2, if_neg hne]
    by_cases e : x = root
    · subst e
      rw [if_pos rfl]
      by_cases e2 : c = c0
      · subst e2; rw [if_pos rfl]; exact hO.asy _ _ hlt
      · rw [if_neg e2, if_neg (by omega)]; exact hmax c hcx hcl
    · rw [if_neg e, if_neg (by omega : c ≠ c0)]
      by_cases e2 : c = root
      · subst e2; rw [if_pos rfl]; exact h.two x c0 hx hcx hc hch
      · rw [if_neg e2]; exact h.one x c hx e hcx hcl
  · have e : x = root := by omega
    subst e
    rw [hp_swp h1 h2, hp_swp h1 h2, if_neg (by omega), if_pos rfl, if_neg (by omega), if_neg (by omega)]
    exact h.one c0 c (by omega) (by omega) hcc hcl
theorem Sift.leaf {lo hi f root : Nat} {l : List α} (h : Sift lt lo hi f root l) (hc : hi ≤ 2 * root + 1) : Heap lt lo hi f l := fun x c h1 h2 h3 => by
  by_cases e : x = root
  · subst e; omega
  · exact h.one x c h1 e h2 h3
theorem Sift.stop (hO : LtOK lt) {lo hi f root c0 : Nat} {l : List α} (h : Sift lt lo hi f root l) (hmax : ∀ c, (c = 2 * root + 1 ∨ c = 2 * root + 2) → c < hi → lt (hp l f c0) (hp l f c) = false) (hs : lt (hp l f root) (hp l f c0) = false) : Heap lt lo hi f l := fun x c h1 h2 h3 => by
  by_cases e : x = root
  · subst e; exact hO.tr _ _ _ (hmax c h2 h3) hs
  · exact h.one x c h1 e h2 h3
theorem Heap.top (hO : LtOK lt) {hi f : Nat} {l : List α} (h : Heap lt 0 hi f l) : ∀ x, x < hi → lt (hp l f 0) (hp l f x) = false := by
  intro x
  induction x using Nat.strongRecOn with
  | _ x ih =>
    intro hx
    by_cases e : x = 0
    · subst e; exact hO.irr _
    · exact hO.tr _ _ _ (h ((x - 1) / 2) x (by omega) (by omega) hx) (ih ((x - 1) / 2) (by omega) (by omega))
theorem Heap.none {hi f : Nat} {l : List α} {lo : Nat} (h : hi ≤ 2 * lo + 1) : Heap lt lo hi f l := fun x c h1 h2 h3 => by omega

/-- While the greatest are taken off: i are left. -/
structure Pops (lt : α → α → Bool) (a b i : Nat) (l : List α) : Prop where
  heap : Heap lt 0 i a l
  srt : SOn lt (a + i) b l
  le : ∀ x y, a ≤ x → x < a + i → a + i ≤ y → y < b → lt (l.getD y default) (l.getD x default) = false
theorem Pops.start {a b : Nat} {l : List α} (hab : a ≤ b) (h : Heap lt 0 (b - a) a l) : Pops lt a b (b - a) l :=
  ⟨h, fun i j h1 h2 h3 => by omega, fun x y h1 h2 h3 h4 => by omega⟩
theorem Pops.swap (hO : LtOK lt) {a b i : Nat} {l : List α} (h : Pops lt a b (i + 1) l) (hb : a + i < b) (hl : b ≤ l.length) :
    Heap lt 1 i a (swp l a (a + i)) ∧ SOn lt (a + i) b (swp l a (a + i)) ∧ ∀ x y, a ≤ x → x < a + i → a + i ≤ y → y < b → lt ((swp l a (a + i)).getD y default) ((swp l a (a + i)).getD x default) = false := by
  have ha : a < l.length := by omega
  have hi : a + i < l.length := by omega
  have top := h.heap.top hO
  have htop : ∀ x, a ≤ x → x < a + (i + 1) → lt (l.getD a default) (l.getD x default) = false := fun x h1 h2 => by
    have := top (x - a) (by omega)
    unfold hp at this
    rwa [show a + (x - a) = x from by omega, Nat.add_zero] at this
  refine ⟨fun x c h1 h2 h3 => ?_, fun x y h1 h2 h3 => ?_, fun x y h1 h2 h3 h4 => ?_⟩
  · have := h.heap x c (by omega) h2 (by omega)
    unfold hp at this ⊢
    rwa [swp_o ha hi (by omega) (by omega), swp_o ha hi (by omega) (by omega)]
  · by_cases e : y = a + i
    · have : x = a + i := by omega
      subst e; subst this; exact hO.irr _
    · rw [swp_o ha hi (by omega : y ≠ a) e]
      by_cases e2 : x = a + i
      · subst e2; rw [swp_j ha hi]; exact h.le a y (by omega) (by omega) (by omega) h3
      · rw [swp_o ha hi (by omega) e2]; exact h.srt x y (by omega) h2 h3
  · have hx : ∃ z, a ≤ z ∧ z < a + (i + 1) ∧ (swp l a (a + i)).getD x default = l.getD z default := by
      by_cases e : x = a
      · subst e; exact ⟨x + i, by omega, by omega, swp_i ha hi⟩
      · exact ⟨x, h1, by omega, swp_o ha hi e (by omega)⟩
    obtain ⟨z, z1, z2, z3⟩ := hx
    rw [z3]
    by_cases e : y = a + i
    · subst e; rw [swp_j ha hi]; exact htop z z1 z2
    · rw [swp_o ha hi (by omega) e]; exact h.le z y z1 z2 (by omega) h4
theorem Pops.sift {a b i : Nat} {l m : List α} (hs : SOn lt (a + i) b l) (hle : ∀ x y, a ≤ x → x < a + i → a + i ≤ y → y < b → lt (l.getD y default) (l.getD x default) = false) (h : Sw a (a + i) l m) (hh : Heap lt 0 i a m) : Pops lt a b i m := by
  refine ⟨hh, fun x y h1 h2 h3 => ?_, fun x y h1 h2 h3 h4 => ?_⟩
  · rw [h.out (.inr h1), h.out (.inr (by omega : a + i ≤ y))]; exact hs x y h1 h2 h3
  · rw [h.out (.inr h3)]
    exact h.all (Q := fun z => lt (l.getD y default) z = false) (fun k h5 h6 => hle k y h5 h6 h3 h4) x h1 h2

/-! ### Parting a stretch -/
structure Part (lt : α → α → Bool) (a b i j : Nat) (l : List α) : Prop where
  lo : ∀ k, a < k → k < i → lt (l.getD k default) (l.getD a default) = true
  hi : ∀ k, j < k → k < b → lt (l.getD k default) (l.getD a default) = false
structure PartR (lt : α → α → Bool) (a b m : Nat) (l : List α) : Prop where
  lo : ∀ k, a ≤ k → k < m → lt (l.getD k default) (l.getD m default) = true
  hi : ∀ k, m < k → k < b → lt (l.getD k default) (l.getD m default) = false
theorem Part.swap {a b i j : Nat} {l : List α} (h : Part lt a b i j l) (hai : a < i) (hij : i ≤ j) (hj : j < b) (hl : b ≤ l.length) (h1 : lt (l.getD i default) (l.getD a default) = false) (h2 : lt (l.getD j default) (l.getD a default) = true) :
    Part lt a b (i + 1) (j - 1) (swp l i j) := by
  have x : i < l.length := by omega
  have y : j < l.length := by omega
  refine ⟨fun k k1 k2 => ?_, fun k k1 k2 => ?_⟩
  · rw [swp_o x y (by omega : a ≠ i) (by omega)]
    by_cases e : k = i
    · subst e; rw [swp_i x y]; exact h2
    · rw [swp_o x y e (by omega)]; exact h.lo k k1 (by omega)
  · rw [swp_o x y (by omega : a ≠ i) (by omega)]
    by_cases e : k = j
    · subst e; rw [swp_j x y]; exact h1
    · rw [swp_get x y, if_neg e, if_neg (by omega)]; exact h.hi k (by omega) k2
theorem Part.fin {a b i j : Nat} {l : List α} (h : Part lt a b i j l) (hij : i = j + 1) (ha : a ≤ j) (hj : j < b) (hl : b ≤ l.length) (hai : a < i) : PartR lt a b j (swp l j a) := by
  have x : j < l.length := by omega
  have y : a < l.length := by omega
  refine ⟨fun k k1 k2 => ?_, fun k k1 k2 => ?_⟩
  · rw [swp_i x y]
    by_cases e : k = a
    · subst e; rw [swp_j x y]; exact h.lo j (by omega) (by omega)
    · rw [swp_o x y (by omega) e]; exact h.lo k (by omega) (by omega)
  · rw [swp_i x y, swp_o x y (by omega) (by omega)]; exact h.hi k k1 k2
structure PartE (lt : α → α → Bool) (a b i j : Nat) (l : List α) : Prop where
  lo : ∀ k, a < k → k < i → lt (l.getD a default) (l.getD k default) = false
  hi : ∀ k, j < k → k < b → lt (l.getD a default) (l.getD k default) = true
theorem PartE.swap {a b i j : Nat} {l : List α} (h : PartE lt a b i j l) (hai : a < i) (hij : i ≤ j) (hj : j < b) (hl : b ≤ l.length) (h1 : lt (l.getD a default) (l.getD i default) = true) (h2 : lt (l.getD a default) (l.getD j default) = false) :
    PartE lt a b (i + 1) (j - 1) (swp l i j) := by
  have x : i < l.length := by omega
  have y : j < l.length := by omega
  refine ⟨fun k k1 k2 => ?_, fun k k1 k2 => ?_⟩
  · rw [swp_o x y (by omega : a ≠ i) (by omega)]
    by_cases e : k = i
    · subst e; rw [swp_i x y]; exact h2
    · rw [swp_o x y e (by omega)]; exact h.lo k k1 (by omega)
  · rw [swp_o x y (by omega : a ≠ i) (by omega)]
    by_cases e : k = j
    · subst e; rw [swp_j x y]; exact h1
    · rw [swp_get x y, if_neg e, if_neg (by omega)]; exact h.hi k (by omega) k2

/-! ### The whole -/
def Bd (lt : α → α → Bool) (a b : Nat) (l : List α) : Prop := a = 0 ∨ ∀ k, a ≤ k → k < b → lt (l.getD k default) (l.getD (a - 1) default) = false
theorem Bd.sw {a b : Nat} {l m : List α} (h : Bd lt a b l) (k : Sw a b l m) : Bd lt a b m := by
  rcases h with h | h
  · exact .inl h
  · by_cases e : a = 0
    · exact .inl e
    · refine .inr ?_
      rw [k.out (.inl (by omega : a - 1 < a))]
      exact k.all (Q := fun z => lt z (l.getD (a - 1) default) = false) h
/-- Where the stretch a to b is what is left of a0 to b0. -/
structure Rest (lt : α → α → Bool) (a0 b0 : Nat) (l0 : List α) (a b : Nat) (l : List α) : Prop where
  ha : a0 ≤ a
  hb : b ≤ b0
  hab : a ≤ b
  sw : Sw a0 b0 l0 l
  bd : Bd lt a b l
  fin : ∀ m, Sw a b l m → SOn lt a b m → SOn lt a0 b0 m
theorem Rest.start {a b : Nat} {l : List α} (hab : a ≤ b) (h : Bd lt a b l) : Rest lt a b l a b l := ⟨Nat.le_refl _, Nat.le_refl _, hab, .refl, h, fun m _ h => h⟩
theorem Rest.move {a0 b0 a b : Nat} {l0 l m : List α} (h : Rest lt a0 b0 l0 a b l) (hl : b0 ≤ l0.length) (k : Sw a b l m) : Rest lt a0 b0 l0 a b m :=
  ⟨h.ha, h.hb, h.hab, h.sw.trans (k.mono h.ha h.hb (by rw [h.sw.len]; exact hl)), h.bd.sw k, fun r hr hs => h.fin r (k.trans hr) hs⟩
theorem Rest.equal (hO : LtOK lt) {a0 b0 a b i j : Nat} {l0 l : List α} (h : Rest lt a0 b0 l0 a b l) (hl : b0 ≤ l0.length) (ha : 0 < a) (hp : lt (l.getD (a - 1) default) (l.getD a default) = false) (h2 : PartE lt a b i j l) (hij : i = j + 1) (hai : a < i) (hib : i ≤ b) : Rest lt a0 b0 l0 i b l := by
  have hbd : ∀ k, a ≤ k → k < b → lt (l.getD k default) (l.getD (a - 1) default) = false := by
    rcases h.bd with h3 | h3
    · omega
    · exact h3
  have hll : b ≤ l.length := by rw [h.sw.len]; have := h.hb; omega
  have lo : ∀ k, a ≤ k → k < i → lt (l.getD a default) (l.getD k default) = false := fun k k1 k2 => by
    by_cases e : k = a
    · subst e; exact hO.irr _
    · exact h2.lo k (by omega) k2
  refine ⟨by have := h.ha; omega, h.hb, hib, h.sw, .inr fun k k1 k2 => ?_, fun m hm hs => ?_⟩
  · exact hO.tr _ _ _ (lo (i - 1) (by omega) (by omega)) (hO.asy _ _ (h2.hi k (by omega) k2))
  · refine h.fin m (hm.mono (by omega) (Nat.le_refl _) hll) ?_
    intro x y h1 h3 h4
    by_cases e : i ≤ x
    · exact hs x y e h3 h4
    · rw [hm.out (.inl (by omega : x < i))]
      by_cases e2 : i ≤ y
      · have := hm.all (Q := fun z => lt (l.getD a default) z = true) (fun k k1 k2 => h2.hi k (by omega) k2) y e2 h4
        exact hO.tr _ _ _ (lo x h1 (by omega)) (hO.asy _ _ this)
      · rw [hm.out (.inl (by omega : y < i))]
        exact hO.tr _ _ _ (lo x h1 (by omega)) (hO.tr _ _ _ hp (hbd y (by omega) h4))
theorem PartR.swL {a b m : Nat} {l r : List α} (h : PartR lt a b m l) (k : Sw a m l r) : PartR lt a b m r := by
  refine ⟨?_, fun x h1 h2 => ?_⟩
  · rw [k.out (.inr (Nat.le_refl m))]
    exact k.all (Q := fun z => lt z (l.getD m default) = true) h.lo
  · rw [k.out (.inr (Nat.le_refl m)), k.out (.inr (by omega : m ≤ x))]; exact h.hi x h1 h2
theorem PartR.swR {a b m : Nat} {l r : List α} (h : PartR lt a b m l) (k : Sw (m + 1) b l r) : PartR lt a b m r := by
  refine ⟨fun x h1 h2 => ?_, fun x h1 h2 => ?_⟩
  · rw [k.out (.inl (by omega : x < m + 1)), k.out (.inl (by omega : m < m + 1))]; exact h.lo x h1 h2
  · rw [k.out (.inl (by omega : m < m + 1))]
    exact k.all (Q := fun z => lt z (l.getD m default) = false) (fun k k1 k2 => h.hi k (by omega) k2) x (by omega) h2
theorem PartR.glue (hO : LtOK lt) {a b m : Nat} {l : List α} (h : PartR lt a b m l) (h1 : SOn lt a m l) (h2 : SOn lt (m + 1) b l) : SOn lt a b l := by
  intro x y k1 k2 k3
  rcases Nat.lt_trichotomy y m with e | e | e
  · exact h1 x y k1 k2 e
  · subst e
    by_cases e2 : x = y
    · subst e2; exact hO.irr _
    · exact hO.asy _ _ (h.lo x k1 (by omega))
  · have hy := h.hi y e k3
    rcases Nat.lt_trichotomy x m with e2 | e2 | e2
    · exact hO.tr _ _ _ (hO.asy _ _ (h.lo x k1 e2)) hy
    · subst e2; exact hy
    · exact h2 x y e2 k2 k3
theorem Rest.lower (hO : LtOK lt) {a0 b0 a b m : Nat} {l0 l r : List α} (h : Rest lt a0 b0 l0 a b l) (hl : b0 ≤ l0.length) (hm : a ≤ m ∧ m < b) (hp : PartR lt a b m l) (k : Sw a m l r) (hs : SOn lt a m r) : Rest lt a0 b0 l0 (m + 1) b r := by
  have hll : b ≤ l.length := by rw [h.sw.len]; have := h.hb; omega
  have h2 := h.move hl (k.mono (Nat.le_refl _) (by omega) hll)
  have hp2 := hp.swL k
  refine ⟨by have := h.ha; omega, h.hb, by omega, h2.sw, .inr fun x x1 x2 => hp2.hi x (by omega) x2, fun q hq hsq => ?_⟩
  have hrl : b ≤ r.length := by rw [k.len]; exact hll
  refine h2.fin q (hq.mono (by omega) (Nat.le_refl _) hrl) ?_
  refine (hp2.swR hq).glue hO ?_ hsq
  intro x y x1 x2 x3
  rw [hq.out (.inl (by omega : x < m + 1)), hq.out (.inl (by omega : y < m + 1))]; exact hs x y x1 x2 x3
theorem Rest.upper (hO : LtOK lt) {a0 b0 a b m : Nat} {l0 l r : List α} (h : Rest lt a0 b0 l0 a b l) (hl : b0 ≤ l0.length) (hm : a ≤ m ∧ m < b) (hp : PartR lt a b m l) (k : Sw (m + 1) b l r) (hs : SOn lt (m + 1) b r) : Rest lt a0 b0 l0 a m r := by
  have hll : b ≤ l.length := by rw [h.sw.len]; have := h.hb; omega
  have h2 := h.move hl (k.mono (by omega) (Nat.le_refl _) hll)
  have hp2 := hp.swR k
  have hrl : b ≤ r.length := by rw [k.len]; exact hll
  refine ⟨h.ha, by have := h.hb; omega, hm.1, h2.sw, ?_, fun q hq hsq => ?_⟩
  · rcases h2.bd with h3 | h3
    · exact .inl h3
    · exact .inr fun x x1 x2 => h3 x x1 (by omega)
  refine h2.fin q (hq.mono (Nat.le_refl _) (by omega) hrl) ?_
  refine (hp2.swL hq).glue hO hsq ?_
  intro x y x1 x2 x3
  rw [hq.out (.inr (by omega : m ≤ x)), hq.out (.inr (by omega : m ≤ y))]; exact hs x y x1 x2 x3
theorem SAdj.swp_ge {a u i j : Nat} {l : List α} (h : SAdj lt a u l) (hi : u ≤ i) (hj : u ≤ j) (hil : i < l.length) (hjl : j < l.length) : SAdj lt a u (swp l i j) := fun k h1 h2 => by
  rw [swp_o hil hjl (by omega) (by omega), swp_o hil hjl (by omega) (by omega)]; exact h k h1 h2
theorem SAdj.le {a u v : Nat} {l : List α} (h : SAdj lt a u l) (hv : v ≤ u) : SAdj lt a v l := fun k h1 h2 => h k h1 (by omega)
theorem SAdj.succ {a u : Nat} {l : List α} (h : SAdj lt a u l) (hv : lt (l.getD u default) (l.getD (u - 1) default) = false) : SAdj lt a (u + 1) l := fun k h1 h2 => by
  rcases Nat.lt_succ_iff_lt_or_eq.1 h2 with h3 | h3
  · exact h k h1 h3
  · subst h3; exact hv
theorem Bd.gt {a b j : Nat} {l : List α} (h : Bd lt a b l) (h1 : a ≤ j) (h2 : j < b) (h0 : 1 ≤ j) (hlt : lt (l.getD j default) (l.getD (j - 1) default) = true) : a < j := by
  rcases Nat.lt_or_ge a j with h3 | h3
  · exact h3
  · have e : j = a := by omega
    subst e
    rcases h with h | h
    · omega
    · rw [h j (Nat.le_refl _) h2] at hlt; cases hlt
theorem Bd.le {a b c : Nat} {l : List α} (h : Bd lt a b l) (hc : c ≤ b) : Bd lt a c l := by
  rcases h with h | h
  · exact .inl h
  · exact .inr fun k h1 h2 => h k h1 (by omega)
theorem PartR.bd {a b m : Nat} {l : List α} (h : PartR lt a b m l) : Bd lt (m + 1) b l := .inr fun k h1 h2 => h.hi k (by omega) h2
end
end Go.Sx
