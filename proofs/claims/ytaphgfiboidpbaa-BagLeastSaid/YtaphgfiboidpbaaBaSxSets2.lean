/- Sets as lists in order: what the library's functions make of them. -/
import Derived.Test.YtaphgfiboidpbaaBaSxSets
import Derived.Test.YtaphgfiboidpbaaBaSxFind
set_option linter.unusedVariables false
set_option linter.unusedSectionVars false
set_option linter.unusedSimpArgs false
namespace Go.Sx
open Go
section
variable {α : Type} [Inhabited α] [DecidableEq α] {lt : α → α → Bool}
def eqG (x y : α) : Bool := decide (x = y)
theorem eqG_iff {x y : α} : eqG x y = true ↔ x = y := by unfold eqG; simp
theorem eqG_refl (x : α) : eqG x x = true := eqG_iff.2 rfl

/-! ### One behind the other that are alike become one -/
def cptSG (l : List α) (n : Nat) : Bool := !eqG (l.getD n default) (l.getD (n - 1) default)
/-- What stands at the places that differ from those ahead of them. -/
def cptNG (l : List α) (n : Nat) : List α := ((List.range n).filter fun k => Nat.beq k 0 || cptSG l k).map fun k => l.getD k default
theorem cptNG_succ (l : List α) (n : Nat) : cptNG l (n + 1) = cptNG l n ++ (if Nat.beq n 0 || cptSG l n then [l.getD n default] else []) := by
  unfold cptNG
  rw [List.range_succ, List.filter_append, List.map_append]
  congr 1
  simp only [List.filter_cons, List.filter_nil]
  split <;> rfl
theorem cptNG_take {l : List α} : ∀ {n : Nat}, n ≤ l.length → (∀ k, 0 < k → k < n → cptSG l k = true) → cptNG l n = l.take n
  | 0, _, _ => rfl
  | n + 1, hn, h => by
    rw [cptNG_succ, cptNG_take (by omega) (fun k h0 hk => h k h0 (by omega)), take_snoc (show n < l.length by omega)]
    congr 1
    rw [if_pos]
    · rw [getDG (show n < l.length by omega)]
    · cases n with
      | zero => rfl
      | succ n => rw [h (n + 1) (by omega) (by omega), Bool.or_true]
theorem cptNG_mem {l : List α} : ∀ {n : Nat} {s : α}, n ≤ l.length → (s ∈ cptNG l n ↔ ∃ k, k < n ∧ l.getD k default = s)
  | 0, s, _ => ⟨fun h => by simp [cptNG] at h, fun ⟨k, h, _⟩ => by omega⟩
  | n + 1, s, hn => by
    rw [cptNG_succ, List.mem_append, cptNG_mem (n := n) (by omega)]
    constructor
    · rintro (⟨k, h1, h2⟩ | h)
      · exact ⟨k, by omega, h2⟩
      · split at h
        · rw [List.mem_singleton] at h; exact ⟨n, by omega, h.symm⟩
        · cases h
    · rintro ⟨k, h1, h2⟩
      by_cases hk : k < n
      · exact .inl ⟨k, hk, h2⟩
      · have : k = n := by omega
        subst this
        by_cases hb : (Nat.beq k 0 || cptSG l k) = true
        · exact .inr (by rw [if_pos hb, List.mem_singleton]; exact h2.symm)
        · rw [Bool.not_eq_true, Bool.or_eq_false_iff] at hb
          have h0 : k ≠ 0 := fun e => by subst e; cases hb.1
          have h3 : eqG (l.getD k default) (l.getD (k - 1) default) = true := by have := hb.2; unfold cptSG at this; cases h : eqG (l.getD k default) (l.getD (k - 1) default) with
            | true => rfl
            | false => rw [h] at this; cases this
          exact .inl ⟨k - 1, by omega, by rw [← h2]; exact (eqG_iff.1 h3).symm⟩
/-- slices.Compact on its way: from k on, k2 are kept, j of the rest were looked at. -/
structure CptJG (l : List α) (k : Nat) (m : List α) (k2 j : Nat) : Prop where
  h1 : 1 ≤ j
  h2 : j ≤ l.length - k
  h3 : k ≤ k2
  h4 : k2 + 1 ≤ k + j
  hl : m.length = l.length
  ht : m.take k2 = cptNG l (k + j)
  ho : ∀ i, k2 ≤ i → m.getD i default = l.getD i default
theorem CptJG.start {l : List α} {k : Nat} (h0 : 1 ≤ k) (h1 : k < l.length) (h : ∀ i, 0 < i → i < k → cptSG l i = true) (he : eqG (l.getD k default) (l.getD (k - 1) default) = true) : CptJG l k l k 1 := by
  refine ⟨Nat.le_refl _, by omega, Nat.le_refl _, Nat.le_refl _, rfl, ?_, fun _ _ => rfl⟩
  rw [cptNG_succ, if_neg, List.append_nil, cptNG_take (by omega) h]
  unfold cptSG
  rw [he]
  simp
  omega
theorem CptJG.keep {l m : List α} {k k2 j : Nat} (h : CptJG l k m k2 j) (hj : j < l.length - k) (he : eqG (m.getD (k + j) default) (m.getD (k + (j - 1)) default) = true) : CptJG l k m k2 (j + 1) := by
  have g1 := h.h1
  have g4 := h.h4
  refine ⟨by omega, by omega, h.h3, by omega, h.hl, ?_, h.ho⟩
  rw [h.ho _ (by omega), h.ho _ (by omega)] at he
  rw [show k + (j + 1) = (k + j) + 1 by omega, cptNG_succ, if_neg, List.append_nil]
  · exact h.ht
  · unfold cptSG
    rw [show k + j - 1 = k + (j - 1) by omega, he]
    simp
    omega
theorem CptJG.put {l m : List α} {k k2 j : Nat} (h : CptJG l k m k2 j) (hj : j < l.length - k) (he : (!eqG (m.getD (k + j) default) (m.getD (k + (j - 1)) default)) = true) : CptJG l k (m.set k2 (m.getD (k + j) default)) (k2 + 1) (j + 1) := by
  have g1 := h.h1
  have g4 := h.h4
  have gl := h.hl
  have hx := h.ho (k + j) (by omega)
  have h0 := h.ho (k + (j - 1)) (by omega)
  refine ⟨by omega, by omega, by have := h.h3; omega, by omega, by rw [List.length_set]; exact gl, ?_, ?_⟩
  · rw [hx, h0] at he
    rw [show k + (j + 1) = (k + j) + 1 by omega, cptNG_succ, if_pos, ← h.ht]
    · rw [take_snoc (by rw [List.length_set]; omega), List.take_set_of_le (Nat.le_refl _), List.getElem_set_self, hx]
    · unfold cptSG
      rw [show k + j - 1 = k + (j - 1) by omega, he, Bool.or_true]
  · intro i hi
    rw [← h.ho i (by omega)]
    simp only [List.getD, List.getElem?_set]
    rw [if_neg (by omega)]
theorem CptJG.fin {l m : List α} {k k2 j : Nat} (h : CptJG l k m k2 j) (hk : k < l.length) (hj : ¬ j < l.length - k) : m.take k2 = cptNG l l.length ∧ k2 < l.length := by
  have g2 := h.h2
  have g4 := h.h4
  refine ⟨?_, by omega⟩
  rw [h.ht]
  congr 1
  omega
/-- Of what is in order each one once. -/
theorem cptNG_ris (hO : LtT lt) {m l : List α} (hp : m.Perm l) (hs : SOn lt 0 m.length m) : cptNG m m.length = risG lt l := by
  have hmono : ∀ i j, i ≤ j → j < m.length → lt (m.getD j default) (m.getD i default) = false := fun i j h1 h2 => hs i j (Nat.zero_le _) h1 h2
  have hlt : ∀ n, n ≤ m.length → (cptNG m n).Pairwise (fun x y => lt x y = true) ∧ ∀ x, x ∈ cptNG m n → ∀ k, n ≤ k → k < m.length → lt (m.getD k default) x = false := by
    intro n
    induction n with
    | zero => intro _; exact ⟨by simp [cptNG], fun x hx => by simp [cptNG] at hx⟩
    | succ n ih =>
      intro hn
      obtain ⟨h1, h2⟩ := ih (by omega)
      have h3 : ∀ x, x ∈ cptNG m (n + 1) → ∀ k, n + 1 ≤ k → k < m.length → lt (m.getD k default) x = false := by
        intro x hx k hk hkl
        obtain ⟨i, hi, rfl⟩ := (cptNG_mem (by omega)).1 hx
        exact hmono i k (by omega) hkl
      refine ⟨?_, h3⟩
      rw [cptNG_succ]
      split
      · rename_i hc
        rw [List.pairwise_append]
        refine ⟨h1, List.pairwise_singleton .., ?_⟩
        intro a ha b hb
        rw [List.mem_singleton] at hb
        subst hb
        obtain ⟨i, hi, rfl⟩ := (cptNG_mem (by omega)).1 ha
        cases hlt : lt (m.getD i default) (m.getD n default) with
        | true => rfl
        | false =>
          exfalso
          have e1 := hO.tot _ _ hlt (hmono i n (by omega) (by omega))
          -- then the one ahead of it is the same, too
          have h0 : 0 < n := by omega
          have h4 : lt (m.getD (n - 1) default) (m.getD i default) = false := hmono i (n - 1) (by omega) (by omega)
          have h5 : lt (m.getD n default) (m.getD (n - 1) default) = false := hmono (n - 1) n (by omega) (by omega)
          have h6 : m.getD (n - 1) default = m.getD n default := by
            refine hO.tot _ _ ?_ h5
            rw [← e1]; exact h4
          have h7 : cptSG m n = true := by
            rcases Bool.or_eq_true_iff.1 hc with h | h
            · have := Nat.eq_of_beq_eq_true h; omega
            · exact h
          unfold cptSG at h7
          rw [h6, eqG_refl] at h7; cases h7
      · rw [List.append_nil]; exact h1
  obtain ⟨h1, _⟩ := hlt m.length (Nat.le_refl _)
  have hnd : (cptNG m m.length).Nodup := h1.imp (fun h e => by rw [e, hO.ok.irr] at h; cases h)
  have hmem : ∀ s, s ∈ cptNG m m.length ↔ s ∈ l := fun s => by
    rw [cptNG_mem (Nat.le_refl _), ← hp.mem_iff, List.mem_iff_getElem]
    constructor
    · rintro ⟨k, hk, rfl⟩; exact ⟨k, hk, (getDG hk).symm⟩
    · rintro ⟨k, hk, rfl⟩; exact ⟨k, hk, getDG hk⟩
  refine ris_ofG hO hnd ?_ hmem
  intro i j _ hij hj
  rcases Nat.lt_or_eq_of_le hij with h | h
  · have h2 := List.pairwise_iff_getElem.1 h1 i j (by omega) hj h
    rw [getDG hj, getDG (by omega)]
    exact hO.ok.asy _ _ h2
  · subst h; exact hO.ok.irr _


/-! ### A search -/
theorem bin_has (hO : LtT lt) {l : List α} {s : α} {i : Nat} (hr : riseG lt l = true) (h1 : ∀ k, k < i → lt (l.getD k default) s = true) (h2 : ∀ k, i ≤ k → k < l.length → lt (l.getD k default) s = false) :
    (decide (i < l.length) && decide (l.getD i default = s)) = hasG l s := by
  rw [Bool.eq_iff_iff, hasG_mem]
  simp only [Bool.and_eq_true, decide_eq_true_eq]
  constructor
  · rintro ⟨h3, h4⟩
    rw [← h4, getDG h3]; exact List.getElem_mem h3
  · intro h
    obtain ⟨k, hk, e⟩ := List.mem_iff_getElem.1 h
    have e2 : l.getD k default = s := by rw [getDG hk]; exact e
    have hik : i ≤ k := by
      refine Nat.le_of_not_lt fun hlt => ?_
      have := h1 k hlt
      rw [e2, hO.ok.irr] at this; cases this
    rcases Nat.lt_or_eq_of_le hik with h3 | h3
    · have h4 := riseG_lt hO hr k i h3 hk
      rw [e2, h2 i (Nat.le_refl _) (by omega)] at h4; cases h4
    · subst h3; exact ⟨hk, e2⟩
theorem ris_filter (hO : LtT lt) (l : List α) (f : α → Bool) : (risG lt l).filter f = risG lt (l.filter f) := by
  have hp : (risG lt l).Pairwise fun x y => lt x y = true := riseG_pw hO (risG_rise hO l)
  have hq := hp.filter f
  refine ris_ofG hO (hq.imp fun h e => by rw [e, hO.ok.irr] at h; cases h) ?_ fun s => ?_
  · intro i j _ hij hj
    rcases Nat.lt_or_eq_of_le hij with h | h
    · have h2 := List.pairwise_iff_getElem.1 hq i j (by omega) hj h
      rw [getDG hj, getDG (by omega)]
      exact hO.ok.asy _ _ h2
    · subst h; exact hO.ok.irr _
  · rw [List.mem_filter, List.mem_filter, risG_mem]

/-! ### Two sets as one -/
def mrgF (lt : α → α → Bool) : Nat → List α → List α → List α
  | 0, a, b => a ++ b
  | _ + 1, [], b => b
  | _ + 1, a, [] => a
  | f + 1, x :: a, y :: b => if lt x y then x :: mrgF lt f a (y :: b) else if lt y x then y :: mrgF lt f (x :: a) b else x :: mrgF lt f a b
theorem mrgF_mem (hO : LtT lt) : ∀ (f : Nat) (a b : List α) (s : α), s ∈ mrgF lt f a b ↔ s ∈ a ∨ s ∈ b
  | 0, a, b, s => by simp [mrgF]
  | f + 1, [], b, s => by simp [mrgF]
  | f + 1, x :: a, [], s => by simp [mrgF]
  | f + 1, x :: a, y :: b, s => by
    unfold mrgF
    split
    · rw [List.mem_cons, mrgF_mem hO f]; simp [or_assoc]
    · split
      · rw [List.mem_cons, mrgF_mem hO f]; simp only [List.mem_cons]; constructor
        · rintro (h | (h | h) | h); exact .inr (.inl h); exact .inl (.inl h); exact .inl (.inr h); exact .inr (.inr h)
        · rintro ((h | h) | h | h); exact .inr (.inl (.inl h)); exact .inr (.inl (.inr h)); exact .inl h; exact .inr (.inr h)
      · have e : x = y := hO.tot _ _ (by simpa using ‹¬ lt x y = true›) (by simpa using ‹¬ lt y x = true›)
        subst e
        rw [List.mem_cons, mrgF_mem hO f]; simp only [List.mem_cons]; constructor
        · rintro (h | h | h); exact .inl (.inl h); exact .inl (.inr h); exact .inr (.inr h)
        · rintro ((h | h) | h | h); exact .inl h; exact .inr (.inl h); exact .inl h; exact .inr (.inr h)
theorem pwA_cons {x : α} {l : List α} : (x :: l).Pairwise (fun x y => lt x y = true) ↔ (∀ y, y ∈ l → lt x y = true) ∧ l.Pairwise (fun x y => lt x y = true) := List.pairwise_cons
theorem ltT_trans (hO : LtT lt) {x y z : α} (h : lt x y = true) (k : lt y z = true) : lt x z = true := by
  cases hx : lt x z with
  | true => rfl
  | false => exact absurd (hO.ok.tr _ _ _ hx (hO.ok.asy _ _ h)) (by rw [k]; exact Bool.noConfusion)
theorem mrgF_pw (hO : LtT lt) : ∀ (f : Nat) (a b : List α), a.length + b.length ≤ f → a.Pairwise (fun x y => lt x y = true) → b.Pairwise (fun x y => lt x y = true) → (mrgF lt f a b).Pairwise fun x y => lt x y = true
  | 0, a, b, hl, ha, hb => by
    have e1 : a = [] := by cases a with | nil => rfl | cons => simp at hl
    have e2 : b = [] := by cases b with | nil => rfl | cons => simp at hl
    subst e1; subst e2; exact List.Pairwise.nil
  | f + 1, [], b, _, _, hb => by simpa [mrgF] using hb
  | f + 1, x :: a, [], _, ha, _ => by simpa [mrgF] using ha
  | f + 1, x :: a, y :: b, hl, ha, hb => by
    obtain ⟨ha1, ha2⟩ := pwA_cons.1 ha
    obtain ⟨hb1, hb2⟩ := pwA_cons.1 hb
    simp only [List.length_cons] at hl
    unfold mrgF
    split
    · rename_i h
      refine pwA_cons.2 ⟨fun z hz => ?_, mrgF_pw hO f a (y :: b) (by simp only [List.length_cons]; omega) ha2 hb⟩
      rcases (mrgF_mem hO f _ _ z).1 hz with hz | hz
      · exact ha1 z hz
      · rcases List.mem_cons.1 hz with rfl | hz
        · exact h
        · exact ltT_trans hO h (hb1 z hz)
    · split
      · rename_i h
        refine pwA_cons.2 ⟨fun z hz => ?_, mrgF_pw hO f (x :: a) b (by simp only [List.length_cons]; omega) ha hb2⟩
        rcases (mrgF_mem hO f _ _ z).1 hz with hz | hz
        · rcases List.mem_cons.1 hz with rfl | hz
          · exact h
          · exact ltT_trans hO h (ha1 z hz)
        · exact hb1 z hz
      · have e : x = y := hO.tot _ _ (by simpa using ‹¬ lt x y = true›) (by simpa using ‹¬ lt y x = true›)
        subst e
        refine pwA_cons.2 ⟨fun z hz => ?_, mrgF_pw hO f a b (by omega) ha2 hb2⟩
        rcases (mrgF_mem hO f _ _ z).1 hz with hz | hz
        · exact ha1 z hz
        · exact hb1 z hz
theorem pw_ris (hO : LtT lt) {m l : List α} (hp : m.Pairwise fun x y => lt x y = true) (hm : ∀ s, s ∈ m ↔ s ∈ l) : m = risG lt l := by
  refine ris_ofG hO (hp.imp fun h e => by rw [e, hO.ok.irr] at h; cases h) ?_ hm
  intro i j _ hij hj
  rcases Nat.lt_or_eq_of_le hij with h | h
  · have h2 := List.pairwise_iff_getElem.1 hp i j (by omega) hj h
    rw [getDG hj, getDG (by omega)]
    exact hO.ok.asy _ _ h2
  · subst h; exact hO.ok.irr _
def mrgG (lt : α → α → Bool) (a b : List α) : List α := mrgF lt (a.length + b.length) a b
theorem mrgG_ris (hO : LtT lt) (a b : List α) : mrgG lt (risG lt a) (risG lt b) = risG lt (a ++ b) := by
  refine pw_ris hO (mrgF_pw hO _ _ _ (Nat.le_refl _) (riseG_pw hO (risG_rise hO a)) (riseG_pw hO (risG_rise hO b))) fun s => ?_
  unfold mrgG
  rw [mrgF_mem hO, risG_mem, risG_mem, List.mem_append]
theorem mrgF_nilL (f : Nat) (b : List α) : mrgF lt f [] b = b := by cases f <;> rfl
theorem mrgF_nilR (f : Nat) (a : List α) : mrgF lt f a [] = a := by cases f <;> cases a <;> simp [mrgF]
/-- On its way: i of the one and j of the other are done. -/
structure MrgJ (lt : α → α → Bool) (a b : List α) (o : List α) (i j : Nat) : Prop where
  h1 : i ≤ a.length
  h2 : j ≤ b.length
  h3 : o.length ≤ i + j
  e : o ++ mrgF lt (a.length - i + (b.length - j)) (a.drop i) (b.drop j) = mrgG lt a b
theorem MrgJ.start (a b : List α) : MrgJ lt a b [] 0 0 := ⟨Nat.zero_le _, Nat.zero_le _, Nat.zero_le _, rfl⟩
theorem getDropG {l : List α} {i : Nat} (h : i < l.length) : l.drop i = l.getD i default :: l.drop (i + 1) := by rw [getDG h]; exact List.drop_eq_getElem_cons h
theorem mrgF_big (hO : LtT lt) {f g : Nat} : ∀ {a b : List α}, a.length + b.length ≤ f → a.length + b.length ≤ g → mrgF lt f a b = mrgF lt g a b := by
  induction f generalizing g with
  | zero =>
    intro a b h1 h2
    have e1 : a = [] := by cases a with | nil => rfl | cons => simp at h1
    have e2 : b = [] := by cases b with | nil => rfl | cons => simp at h1
    subst e1; subst e2; rw [mrgF_nilL, mrgF_nilL]
  | succ f ih =>
    intro a b h1 h2
    cases a with
    | nil => rw [mrgF_nilL, mrgF_nilL]
    | cons x a =>
      cases b with
      | nil => rw [mrgF_nilR, mrgF_nilR]
      | cons y b =>
        cases g with
        | zero => simp at h2
        | succ g =>
          simp only [List.length_cons] at h1 h2
          unfold mrgF
          rw [ih (g := g) (a := a) (b := y :: b) (by simp only [List.length_cons]; omega) (by simp only [List.length_cons]; omega), ih (g := g) (a := x :: a) (b := b) (by simp only [List.length_cons]; omega) (by simp only [List.length_cons]; omega), ih (g := g) (a := a) (b := b) (by omega) (by omega)]
theorem mrgF_cc (f : Nat) (x y : α) (a b : List α) : mrgF lt (f + 1) (x :: a) (y :: b) = if lt x y then x :: mrgF lt f a (y :: b) else if lt y x then y :: mrgF lt f (x :: a) b else x :: mrgF lt f a b := by rw [mrgF]
theorem MrgJ.lo (hO : LtT lt) {a b o : List α} {i j : Nat} (h : MrgJ lt a b o i j) (hi : i < a.length) (hj : j < b.length) (hlt : lt (a.getD i default) (b.getD j default) = true) : MrgJ lt a b (o ++ [a.getD i default]) (i + 1) j := by
  refine ⟨hi, h.h2, by have := h.h3; simp; omega, ?_⟩
  rw [← h.e, getDropG hi, getDropG hj, show a.length - i + (b.length - j) = (a.length - (i + 1) + (b.length - j)) + 1 by omega]
  rw [mrgF_cc, if_pos hlt, List.append_assoc]
  rfl
theorem MrgJ.hi (hO : LtT lt) {a b o : List α} {i j : Nat} (h : MrgJ lt a b o i j) (hi : i < a.length) (hj : j < b.length) (hlt : lt (a.getD i default) (b.getD j default) = false) (hgt : lt (b.getD j default) (a.getD i default) = true) : MrgJ lt a b (o ++ [b.getD j default]) i (j + 1) := by
  refine ⟨h.h1, hj, by have := h.h3; simp; omega, ?_⟩
  rw [← h.e, getDropG hi, getDropG hj, show a.length - i + (b.length - j) = (a.length - i + (b.length - (j + 1))) + 1 by omega]
  rw [mrgF_cc, if_neg (by rw [hlt]; simp), if_pos hgt, List.append_assoc]
  rfl
theorem MrgJ.eq (hO : LtT lt) {a b o : List α} {i j : Nat} (h : MrgJ lt a b o i j) (hi : i < a.length) (hj : j < b.length) (he : a.getD i default = b.getD j default) : MrgJ lt a b (o ++ [a.getD i default]) (i + 1) (j + 1) := by
  refine ⟨hi, hj, by have := h.h3; simp; omega, ?_⟩
  rw [← h.e, getDropG hi, getDropG hj, show a.length - i + (b.length - j) = (a.length - (i + 1) + (b.length - (j + 1)) + 1) + 1 by omega]
  rw [mrgF_cc, ← he, if_neg (by rw [hO.ok.irr]; simp), if_neg (by rw [hO.ok.irr]; simp), List.append_assoc]
  rw [mrgF_big hO (f := a.length - (i + 1) + (b.length - (j + 1))) (g := a.length - (i + 1) + (b.length - (j + 1)) + 1) (by simp only [List.length_drop]; omega) (by simp only [List.length_drop]; omega)]
  rfl
theorem MrgJ.fin {a b o : List α} {i j : Nat} (h : MrgJ lt a b o i j) (he : ¬ (i < a.length ∧ j < b.length)) : o ++ a.drop i ++ b.drop j = mrgG lt a b := by
  rw [← h.e, List.append_assoc]
  congr 1
  by_cases hi : i < a.length
  · rw [List.drop_of_length_le (l := b) (by omega), mrgF_nilR, List.append_nil]
  · rw [List.drop_of_length_le (l := a) (by omega), mrgF_nilL, List.nil_append]

/-! ### Those that are not to go -/
structure DelJ (f : α → Bool) (l m : List α) (i j : Nat) : Prop where
  h1 : i < j
  h2 : j ≤ l.length
  hl : m.length = l.length
  ht : m.take i = (l.take j).filter fun x => !f x
  ho : ∀ k, j ≤ k → m.getD k default = l.getD k default
theorem DelJ.start {f : α → Bool} {l : List α} {i : Nat} (hi : i < l.length) (h1 : ∀ k, k < i → f (l.getD k default) = false) (h2 : f (l.getD i default) = true) : DelJ f l l i (i + 1) := by
  refine ⟨by omega, hi, rfl, ?_, fun _ _ => rfl⟩
  rw [take_snoc hi, List.filter_append, List.filter_cons, ← getDG hi, h2]
  simp only [Bool.not_true, Bool.false_eq_true, if_false, List.filter_nil, List.append_nil]
  rw [List.filter_eq_self.2]
  intro x hx
  obtain ⟨k, hk, e⟩ := List.mem_iff_getElem.1 hx
  rw [List.length_take] at hk
  rw [List.getElem_take] at e
  rw [← e, ← getDG (by omega), h1 k (by omega)]; rfl
theorem DelJ.drop {f : α → Bool} {l m : List α} {i j : Nat} (h : DelJ f l m i j) (hj : j < l.length) (hf : f (m.getD j default) = true) : DelJ f l m i (j + 1) := by
  rw [h.ho j (Nat.le_refl _)] at hf
  refine ⟨by have := h.h1; omega, hj, h.hl, ?_, fun k hk => h.ho k (by omega)⟩
  rw [take_snoc hj, List.filter_append, List.filter_cons, ← getDG hj, hf]
  simpa using h.ht
theorem DelJ.put {f : α → Bool} {l m : List α} {i j : Nat} (h : DelJ f l m i j) (hj : j < l.length) (hf : f (m.getD j default) = false) : DelJ f l (m.set i (m.getD j default)) (i + 1) (j + 1) := by
  have h1 := h.h1
  have hl := h.hl
  have e := h.ho j (Nat.le_refl _)
  refine ⟨by omega, hj, by rw [List.length_set]; exact hl, ?_, fun k hk => ?_⟩
  · rw [take_snoc hj, List.filter_append, List.filter_cons, ← getDG hj, ← e, hf, ← h.ht]
    rw [take_snoc (by rw [List.length_set]; omega), List.take_set_of_le (Nat.le_refl _), List.getElem_set_self]
    rfl
  · rw [← h.ho k (by omega)]
    simp only [List.getD, List.getElem?_set]
    rw [if_neg (by omega)]
theorem DelJ.fin {f : α → Bool} {l m : List α} {i j : Nat} (h : DelJ f l m i j) (hj : ¬ j < l.length) : m.take i = l.filter fun x => !f x := by
  rw [h.ht, List.take_of_length_le (by omega)]
end
end Go.Sx
