/- Plain laws of pools: texts that rise, where one stands. -/
import Derived.Test.YtdombpcfmjlnlaaSxOrd
set_option linter.unusedVariables false
set_option linter.unusedSimpArgs false
namespace Go.Sx
open Go

theorem bl_total : ∀ x y : List UInt8, (Op.bytesLess x y || x == y) = !Op.bytesLess y x
  | [], [] => rfl
  | [], _ :: _ => by simp [Op.bytesLess]
  | _ :: _, [] => by simp [Op.bytesLess]
  | a :: x, b :: y => by
    have ih := bl_total x y
    by_cases h1 : a < b
    · have h2 : ¬ b < a := fun h => by simp [UInt8.lt_iff_toNat_lt] at h h1; omega
      have h3 : ¬ b = a := fun e => by subst e; simp at h1
      simp [Op.bytesLess, h1, h2, h3]
    · by_cases h2 : b < a
      · have h3 : ¬ a = b := fun e => by subst e; simp at h2
        simp [Op.bytesLess, h1, h2, h3]
      · have h3 : a = b := UInt8.toNat_inj.1 (by simp [UInt8.lt_iff_toNat_lt] at h1 h2; omega)
        subst h3
        simp [Op.bytesLess] at ih ⊢
        exact ih
theorem leS_not (x y : Str) : (Op.bytesLess x.toList y.toList || x.toList == y.toList) = !ltS y x := bl_total _ _
theorem ltS_ne {x y : Str} (h : ltS x y = true) : x ≠ y := fun e => by subst e; rw [ltS_ok.irr] at h; cases h
theorem ltS_total {x y : Str} (h : ltS x y = false) (k : ltS y x = false) : x = y := by
  have h2 := leS_not x y
  rw [k] at h2
  have h3 : Op.bytesLess x.toList y.toList = false := h
  rw [h3] at h2
  have h4 : beqS x y = true := by unfold beqS; simpa using h2
  exact beqS_iff.1 h4
theorem ltS_trans {x y z : Str} (h : ltS x y = true) (k : ltS y z = true) : ltS x z = true := by
  cases hx : ltS x z with
  | true => rfl
  | false =>
    exact absurd (ltS_ok.tr _ _ _ hx (ltS_ok.asy _ _ h)) (by rw [k]; exact Bool.noConfusion)

def longS (s : Str) : Bool := decide (s.size > 64)
def allN (g : Nat → Bool) (n : Nat) : Bool := (List.range n).all fun i => Nat.beq i 0 || g i
theorem allN_iff {g : Nat → Bool} {n : Nat} : allN g n = true ↔ ∀ k, k < n → 0 < k → g k = true := by
  unfold allN
  rw [List.all_eq_true]
  constructor
  · intro h k hk h0
    have := h k (List.mem_range.2 hk)
    cases k with
    | zero => omega
    | succ k => simpa using this
  · intro h k hk
    cases k with
    | zero => rfl
    | succ k => simp [h (k + 1) (List.mem_range.1 hk) (by omega)]
theorem allN_false {g : Nat → Bool} {n i : Nat} (hi : i < n) (h0 : 0 < i) (h : g i = false) : allN g n = false := by
  cases ha : allN g n with
  | false => rfl
  | true => have := allN_iff.1 ha i hi h0; rw [h] at this; cases this
def gS (l : List Str) (k : Nat) : Bool := ltS (l.getD (k - 1) default) (l.getD k default)
def rightL (l : List Str) : Bool := decide (l.length ≤ 1024) && !l.any longS && allN (gS l) l.length
theorem getD_predS {l : List Str} {i : Nat} (h0 : 0 < i) (hi : i < l.length) (h : ((i : Int) - 1).toNat < l.length) : l[((i : Int) - 1).toNat]'h = l.getD (i - 1) default := by
  have e : ((i : Int) - 1).toNat = i - 1 := by omega
  simp only [e]; simp [List.getD, List.getElem?_eq_getElem (show i - 1 < l.length by omega)]
theorem right_lt {l : List Str} (h : allN (gS l) l.length = true) : ∀ j i, i < j → j < l.length → ltS (l.getD i default) (l.getD j default) = true := by
  intro j
  induction j with
  | zero => intro i h1; omega
  | succ j ih =>
    intro i h1 h2
    have hj := allN_iff.1 h (j + 1) h2 (by omega)
    unfold gS at hj
    rw [Nat.add_sub_cancel] at hj
    rcases Nat.lt_succ_iff_lt_or_eq.1 h1 with h3 | h3
    · exact ltS_trans (ih i h3 (by omega)) hj
    · subst h3; exact hj
def findL (l : List Str) (s : Str) : Int := if rightL l then idxFrom (fun x => beqS x s) l 0 else -1
theorem idx_at {l : List Str} {s : Str} {i : Nat} (hi : i < l.length) (h : l.getD i default = s) (hb : ∀ k, k < i → l.getD k default ≠ s) : idxFrom (fun x => beqS x s) l 0 = (i : Int) := by
  rcases idxFrom_find (fun x => beqS x s) l 0 with ⟨h1, h2⟩ | ⟨j, hj, h1, h2, h3⟩
  · rw [List.find?_eq_none] at h2
    have := h2 _ (List.getElem_mem hi)
    rw [← getD_eq hi, h, beqS_refl] at this
    exact absurd rfl this
  · rw [h1]
    have hjs : l.getD j default = s := by rw [getD_eq hj]; exact beqS_iff.1 h3
    rcases Nat.lt_trichotomy j i with e | e | e
    · exact absurd hjs (hb j e)
    · subst e; simp
    · exfalso
      -- the first one that is it
      have key : ∀ (l : List Str) (k : Nat), i < l.length → l.getD i default = s → idxFrom (fun x => beqS x s) l k ≤ (k + i : Nat) := by
        have : ∀ (i : Nat) (l : List Str) (k : Nat), i < l.length → l.getD i default = s → idxFrom (fun x => beqS x s) l k ≤ (k + i : Nat) := by
          intro i
          induction i with
          | zero =>
            intro l k hl hs
            cases l with
            | nil => simp at hl
            | cons x l => simp [List.getD] at hs; subst hs; simp [idxFrom, beqS_refl]
          | succ i ih =>
            intro l k hl hs
            cases l with
            | nil => simp at hl
            | cons x l =>
              simp only [idxFrom]
              split
              · omega
              · have := ih l (k + 1) (by simpa using hl) (by simpa [List.getD] using hs)
                omega
        exact this i
      have := key l 0 hi h
      omega
theorem idx_none {l : List Str} {s : Str} (hb : ∀ k, k < l.length → l.getD k default ≠ s) : idxFrom (fun x => beqS x s) l 0 = -1 := by
  rcases idxFrom_find (fun x => beqS x s) l 0 with ⟨h1, h2⟩ | ⟨j, hj, h1, h2, h3⟩
  · exact h1
  · exact absurd (by rw [getD_eq hj]; exact beqS_iff.1 h3) (hb j hj)
theorem idx_any {α : Type} (f : α → Bool) (l : List α) : decide (idxFrom f l 0 ≥ 0) = l.any f := by
  rcases idxFrom_find f l 0 with ⟨h1, h2⟩ | ⟨j, hj, h1, h2, h3⟩
  · rw [h1]
    rw [List.find?_eq_none] at h2
    have : l.any f = false := by rw [List.any_eq_false]; exact h2
    rw [this]; rfl
  · rw [h1]
    have : l.any f = true := List.any_eq_true.2 ⟨_, List.getElem_mem hj, h3⟩
    rw [this]; simp
def sameT : List Str → List Str → Bool
  | [], [] => true
  | x :: l, y :: r => beqS x y && sameT l r
  | _, _ => false
theorem sameT_iff : ∀ {a b : List Str}, sameT a b = true ↔ a = b
  | [], [] => by simp [sameT]
  | [], _ :: _ => by simp [sameT]
  | _ :: _, [] => by simp [sameT]
  | x :: l, y :: r => by rw [sameT, Bool.and_eq_true, beqS_iff, sameT_iff, List.cons.injEq]
theorem sameT_len {a b : List Str} (h : ¬ a.length = b.length) : sameT a b = false := by
  cases hs : sameT a b with
  | false => rfl
  | true => exact absurd (congrArg List.length (sameT_iff.1 hs)) h

/-! ### In order, and of the same texts: one -/
theorem insK_srt : ∀ (k i : Nat) (l : List Str), Ins ltS 0 k i l → k ≤ i → i < l.length → SAdj ltS 0 (i + 1) (insK k l)
  | 0, i, l, h, _, _ => h.done (.inl (Nat.le_refl _))
  | k + 1, i, l, h, hk, hl => by
    unfold insK
    cases hlt : ltS (l.getD (k + 1) default) (l.getD k default) with
    | true =>
      rw [if_pos rfl]
      exact insK_srt k i _ (h.step ltS_ok (by omega) hk hl hlt) (by omega) (by rw [swapS_len]; exact hl)
    | false => exact h.done (.inr hlt)
theorem outF_srt : ∀ (f i : Nat) (l : List Str), SAdj ltS 0 i l → i + f ≤ l.length → SAdj ltS 0 (i + f) (outF f i l)
  | 0, i, l, h, _ => h
  | f + 1, i, l, h, hl => by
    unfold outF
    rw [show i + (f + 1) = i + 1 + f from by omega]
    exact outF_srt f (i + 1) _ (insK_srt i i l (Ins.start h) (Nat.le_refl _) (by omega)) (by rw [insK_len]; omega)
theorem risF_srt (l : List Str) : SOn ltS 0 (risF l).length (risF l) := by
  have hl : (risF l).length = (dd l).length := (risF_perm l).length_eq
  rw [hl]
  unfold risF
  cases h : (dd l).length with
  | zero => intro i j h1 h2 h3; omega
  | succ n =>
    have := outF_srt n 1 (dd l) (SAdj.refl1 (by omega)) (by omega)
    rw [show n + 1 - 1 = n from by omega, show n + 1 = 1 + n from by omega]
    exact this.on ltS_ok
theorem SOn.pw {m : List Str} (h : SOn ltS 0 m.length m) : m.Pairwise fun x y => ltS y x = false := by
  rw [List.pairwise_iff_getElem]
  intro i j hi hj hij
  have := h i j (by omega) (by omega) hj
  rwa [getD_eq hj, getD_eq hi] at this
theorem SOn.uniq {m r : List Str} (hp : m.Perm r) (hm : SOn ltS 0 m.length m) (hr : SOn ltS 0 r.length r) : m = r :=
  List.Perm.eq_of_pairwise (fun a b _ _ h k => ltS_total k h) hm.pw hr.pw hp
def makeP (l : List Str) : List Str × Int := if l.any longS || decide (1024 < (dd l).length) then ([], 3) else (risF l, 0)
theorem beqS_no' {a b : Str} (h : beqS a b = false) : a ≠ b := fun e => by rw [e, beqS_refl] at h; cases h
theorem lo_all {l : List Str} {s : Str} {m : Nat} (h : allN (gS l) l.length = true) (hm : m < l.length) (hs : ltS (l.getD m default) s = true) : ∀ k, k < m + 1 → ltS (l.getD k default) s = true := fun k hk => by
  rcases Nat.lt_succ_iff_lt_or_eq.1 hk with h1 | h1
  · exact ltS_trans (right_lt h m k h1 hm) hs
  · rw [h1]; exact hs
theorem hi_all {l : List Str} {s : Str} {m : Nat} (h : allN (gS l) l.length = true) (hm : m < l.length) (hs : ltS s (l.getD m default) = true) : ∀ k, m ≤ k → k < l.length → ltS s (l.getD k default) = true := fun k hk hl => by
  rcases Nat.lt_or_ge m k with h1 | h1
  · exact ltS_trans hs (right_lt h k m h1 hl)
  · have : k = m := by omega
    rw [this]; exact hs

/-! ### What a pool is -/
theorem rightL_risF {l : List Str} (h1 : l.any longS = false) (h2 : (dd l).length ≤ 1024) : rightL (risF l) = true := by
  have hp := risF_perm l
  have hnd : (risF l).Nodup := hp.nodup_iff.2 (dd_nodup l)
  have hlen : (risF l).length ≤ 1024 := by rw [hp.length_eq]; exact h2
  have hlong : (risF l).any longS = false := by
    rw [List.any_eq_false] at h1 ⊢
    intro x hx
    exact h1 x ((risF_mem l x).1 hx)
  unfold rightL
  rw [decide_eq_true hlen, hlong, allN_iff.2]
  · rfl
  · intro k hk h0
    unfold gS
    cases hlt : ltS ((risF l).getD (k - 1) default) ((risF l).getD k default) with
    | true => rfl
    | false =>
      exfalso
      have hs := risF_srt l (k - 1) k (by omega) (by omega) hk
      have e := ltS_total hs hlt
      rw [getD_eq hk, getD_eq (by omega : k - 1 < (risF l).length)] at e
      exact List.pairwise_iff_getElem.1 hnd (k - 1) k (by omega) hk (by omega) e.symm
theorem makeP_ok {l : List Str} (h : (makeP l).2 = 0) : (makeP l).1 = risF l ∧ rightL (risF l) = true := by
  unfold makeP at h ⊢
  cases h1 : l.any longS || decide (1024 < (dd l).length) with
  | true => rw [h1] at h; cases h
  | false =>
    rw [Bool.or_eq_false_iff] at h1
    exact ⟨rfl, rightL_risF h1.1 (by have := h1.2; simp at this; omega)⟩
theorem findL_at {p : List Str} (hr : rightL p = true) {i : Nat} (hi : i < p.length) : findL p (p.getD i default) = (i : Int) := by
  have hal : allN (gS p) p.length = true := by have := hr; unfold rightL at this; exact andR this
  unfold findL
  rw [hr]
  exact idx_at hi rfl (fun k hk e => ltS_ne (right_lt hal i k hk hi) e)
theorem findL_elim {G : Prop} {p : List Str} {s : Str} (hr : rightL p = true) (h : s ∈ p) (k : ∀ k, k < p.length → findL p s = (k : Int) → p.getD k default = s → G) : G := by
  obtain ⟨i, hi, e⟩ := List.getElem_of_mem h
  have e2 : p.getD i default = s := by rw [getD_eq hi]; exact e
  exact k i hi (e2 ▸ findL_at hr hi) e2
theorem findL_no {p : List Str} {s : Str} (h : s ∉ p) : findL p s = -1 := by
  unfold findL
  split
  · exact idx_none (fun k hk e => h (e ▸ (by rw [getD_eq hk]; exact List.getElem_mem hk)))
  · rfl
theorem findL_in {p : List Str} (hr : rightL p = true) (s : Str) : (findL p s != -1) = inL p s := by
  by_cases h : s ∈ p
  · rw [inL_mem.2 h]
    exact findL_elim hr h (fun k hk e _ => by rw [e]; simp)
  · rw [inL_false.2 h, findL_no h]; rfl
theorem inL_iff {l r : List Str} (h : ∀ s, s ∈ l ↔ s ∈ r) (s : Str) : inL l s = inL r s := by
  by_cases hs : s ∈ l
  · rw [inL_mem.2 hs, inL_mem.2 ((h s).1 hs)]
  · rw [inL_false.2 hs, inL_false.2 (fun k => hs ((h s).2 k))]
theorem inL_take {l : List Str} {s : Str} {i : Nat} (h : i < l.length) : inL (l.take (i + 1)) s = (inL (l.take i) s || beqS l[i] s) := by
  unfold inL; rw [List.take_succ_eq_append_getElem h, List.any_append]; simp
theorem had_step {l : List Str} {s : Str} {i : Nat} (h : i < l.length) : (inL (l.take i) s || beqS (l.getD i default) s) = inL (l.take (i + 1)) s := by rw [inL_take h, getD_eq h]
theorem findL_at' {p : List Str} (hr : rightL p = true) {i : Nat} (hi : i < p.length) : findL p p[i] = (i : Int) := by rw [← getD_eq hi]; exact findL_at hr hi
end Go.Sx
