/- Sets as lists in order, over any total order. -/
import Derived.Test.YtaphgfiboidpbaaBaSxSort
set_option linter.unusedVariables false
set_option linter.unusedSectionVars false
set_option linter.unusedSimpArgs false
namespace Go.Sx
open Go

structure LtT {α : Type} (lt : α → α → Bool) : Prop where
  ok : LtOK lt
  tot : ∀ x y, lt x y = false → lt y x = false → x = y

section
variable {α : Type} [Inhabited α] [DecidableEq α] {lt : α → α → Bool}
def hasG (l : List α) (x : α) : Bool := l.any fun y => decide (y = x)
theorem hasG_mem {l : List α} {x : α} : hasG l x = true ↔ x ∈ l := by unfold hasG; simp
theorem hasG_cons (y : α) (l : List α) (x : α) : hasG (y :: l) x = (decide (y = x) || hasG l x) := rfl
def ddO (o : List α) (s : α) : List α := if hasG o s then o else o ++ [s]
def ddG (l : List α) : List α := l.foldl ddO []
theorem snocG {l : List α} {i : Nat} (h : i < l.length) : l.take (i + 1) = l.take i ++ [l[i]] := List.take_succ_eq_append_getElem h
theorem ddG_take {l : List α} {i : Nat} (h : i < l.length) : ddG (l.take (i + 1)) = ddO (ddG (l.take i)) l[i] := by
  rw [snocG h, ddG, List.foldl_append]; rfl
theorem ddG_len (l : List α) : (ddG l).length ≤ l.length := by
  have key : ∀ (l o : List α), (l.foldl ddO o).length ≤ o.length + l.length := by
    intro l
    induction l with
    | nil => intro o; simp
    | cons x l ih =>
      intro o
      have h := ih (ddO o x)
      have h2 : (ddO o x).length ≤ o.length + 1 := by unfold ddO; split <;> simp
      simp only [List.foldl_cons, List.length_cons]; omega
  simpa [ddG] using key l []
theorem ddG_mem (l : List α) (s : α) : s ∈ ddG l ↔ s ∈ l := by
  have key : ∀ (l o : List α), s ∈ l.foldl ddO o ↔ s ∈ o ∨ s ∈ l := by
    intro l
    induction l with
    | nil => intro o; simp
    | cons x l ih =>
      intro o
      rw [List.foldl_cons, ih]
      unfold ddO
      split
      · rename_i h
        have h := hasG_mem.1 h
        constructor
        · rintro (h1 | h1); exact .inl h1; exact .inr (List.mem_cons_of_mem _ h1)
        · rintro (h1 | h1); exact .inl h1; rcases List.mem_cons.1 h1 with rfl | h1; exact .inl h; exact .inr h1
      · simp [or_assoc]
  simpa [ddG] using key l []
theorem ddG_nodup (l : List α) : (ddG l).Nodup := by
  have key : ∀ (l o : List α), o.Nodup → (l.foldl ddO o).Nodup := by
    intro l
    induction l with
    | nil => intro o h; exact h
    | cons x l ih =>
      intro o h
      refine ih _ ?_
      unfold ddO
      split
      · exact h
      · rename_i h1
        rw [List.nodup_append]
        refine ⟨h, by simp, fun a ha b hb => ?_⟩
        rw [List.mem_singleton] at hb; subst hb
        rintro rfl; exact h1 (hasG_mem.2 ha)
  exact key l [] List.nodup_nil
theorem getDG {l : List α} {i : Nat} (h : i < l.length) : l.getD i default = l[i] := by simp [List.getD, h]
/-- What stands at k moves down as long as it is ahead of the one below it. -/
def insG (lt : α → α → Bool) : Nat → List α → List α
  | 0, l => l
  | k + 1, l => if lt (l.getD (k + 1) default) (l.getD k default) then insG lt k (swp l (k + 1) k) else l
def outG (lt : α → α → Bool) : Nat → Nat → List α → List α
  | 0, _, l => l
  | f + 1, i, l => outG lt f (i + 1) (insG lt i l)
def risG (lt : α → α → Bool) (l : List α) : List α := outG lt ((ddG l).length - 1) 1 (ddG l)
theorem insG_len : ∀ (k : Nat) (l : List α), (insG lt k l).length = l.length
  | 0, _ => rfl
  | k + 1, l => by unfold insG; split; rw [insG_len, swp_len]; rfl
theorem insG_perm : ∀ (k : Nat) (l : List α), k < l.length → (insG lt k l).Perm l
  | 0, _, _ => .refl _
  | k + 1, l, h => by
    unfold insG
    split
    · exact (insG_perm k _ (by rw [swp_len]; omega)).trans (swp_perm h (by omega))
    · exact .refl _
theorem outG_perm : ∀ (f i : Nat) (l : List α), i + f ≤ l.length → (outG lt f i l).Perm l
  | 0, _, _, _ => .refl _
  | f + 1, i, l, h => by
    unfold outG
    exact (outG_perm f (i + 1) _ (by rw [insG_len]; omega)).trans (insG_perm i l (by omega))
theorem risG_perm (l : List α) : (risG lt l).Perm (ddG l) := by
  unfold risG
  cases h : (ddG l).length with
  | zero => exact .refl _
  | succ n => exact outG_perm _ _ _ (by omega)
theorem risG_mem (l : List α) (s : α) : s ∈ risG lt l ↔ s ∈ l := ((risG_perm l).mem_iff).trans (ddG_mem l s)
theorem risG_len (l : List α) : (risG lt l).length ≤ l.length := by rw [(risG_perm l).length_eq]; exact ddG_len l
theorem risG_nodup (l : List α) : (risG lt l).Nodup := (risG_perm l).nodup_iff.2 (ddG_nodup l)
theorem outG_step {n y : Nat} {l : List α} (h : y < n) : outG lt (n - y) y l = outG lt (n - (y + 1)) (y + 1) (insG lt y l) := by
  rw [show n - y = (n - (y + 1)) + 1 by omega]; rfl
theorem insG_swap {k : Nat} {l : List α} (h0 : 0 < k) (h : lt (l.getD k default) (l.getD (k - 1) default) = true) : insG lt k l = insG lt (k - 1) (swp l k (k - 1)) := by
  obtain ⟨j, rfl⟩ : ∃ j, k = j + 1 := ⟨k - 1, by omega⟩
  simp only [Nat.add_sub_cancel] at h ⊢
  rw [insG, if_pos h]
theorem insG_stop {k : Nat} {l : List α} (h : k = 0 ∨ lt (l.getD k default) (l.getD (k - 1) default) = false) : insG lt k l = l := by
  cases k with
  | zero => rfl
  | succ j =>
    rcases h with h | h
    · cases h
    · simp only [Nat.add_sub_cancel] at h
      rw [insG, if_neg (by rw [h]; simp)]

variable (hO : LtT lt)
include hO
theorem insG_srt : ∀ (k i : Nat) (l : List α), Ins lt 0 k i l → k ≤ i → i < l.length → SAdj lt 0 (i + 1) (insG lt k l)
  | 0, i, l, h, _, _ => h.done (.inl (Nat.le_refl _))
  | k + 1, i, l, h, hk, hl => by
    unfold insG
    cases hlt : lt (l.getD (k + 1) default) (l.getD k default) with
    | true =>
      rw [if_pos rfl]
      exact insG_srt k i _ (h.step hO.ok (by omega) hk hl hlt) (by omega) (by rw [swp_len]; exact hl)
    | false => exact h.done (.inr hlt)
theorem outG_srt : ∀ (f i : Nat) (l : List α), SAdj lt 0 i l → i + f ≤ l.length → SAdj lt 0 (i + f) (outG lt f i l)
  | 0, i, l, h, _ => h
  | f + 1, i, l, h, hl => by
    unfold outG
    rw [show i + (f + 1) = i + 1 + f from by omega]
    exact outG_srt f (i + 1) _ (insG_srt hO i i l (Ins.start h) (Nat.le_refl _) (by omega)) (by rw [insG_len]; omega)
theorem risG_srt (l : List α) : SOn lt 0 (risG lt l).length (risG lt l) := by
  have hl : (risG lt l).length = (ddG l).length := (risG_perm l).length_eq
  rw [hl]
  unfold risG
  cases h : (ddG l).length with
  | zero => intro i j h1 h2 h3; omega
  | succ n =>
    have := outG_srt hO n 1 (ddG l) (SAdj.refl1 (by omega)) (by omega)
    rw [show n + 1 - 1 = n from by omega, show n + 1 = 1 + n from by omega]
    exact this.on hO.ok
theorem SOn.pwG {m : List α} (h : SOn lt 0 m.length m) : m.Pairwise fun x y => lt y x = false := by
  rw [List.pairwise_iff_getElem]
  intro i j hi hj hij
  have := h i j (by omega) (by omega) hj
  rwa [getDG hj, getDG hi] at this
theorem SOn.uniqG {m r : List α} (hp : m.Perm r) (hm : SOn lt 0 m.length m) (hr : SOn lt 0 r.length r) : m = r :=
  List.Perm.eq_of_pairwise (fun a b _ _ h k => hO.tot a b k h) (SOn.pwG hO hm) (SOn.pwG hO hr) hp
theorem ris_ofG {m l : List α} (hn : m.Nodup) (hs : SOn lt 0 m.length m) (hm : ∀ s, s ∈ m ↔ s ∈ l) : m = risG lt l := by
  refine SOn.uniqG hO ?_ hs (risG_srt hO l)
  exact (List.perm_ext_iff_of_nodup hn (risG_nodup l)).2 fun s => (hm s).trans (risG_mem l s).symm
theorem risG_of {a b : List α} (h : ∀ x, x ∈ a ↔ x ∈ b) : risG lt a = risG lt b := ris_ofG hO (risG_nodup a) (risG_srt hO a) fun s => (risG_mem a s).trans (h s)
omit hO
/-- Does a list rise, each member once? -/
def riseG (lt : α → α → Bool) (l : List α) : Bool := (List.range l.length).all fun i => Nat.beq i 0 || lt (l.getD (i - 1) default) (l.getD i default)
theorem riseG_iff {l : List α} : riseG lt l = true ↔ ∀ k, k < l.length → 0 < k → lt (l.getD (k - 1) default) (l.getD k default) = true := by
  unfold riseG
  rw [List.all_eq_true]
  constructor
  · intro h k hk h0
    have := h k (List.mem_range.2 hk)
    rcases Bool.or_eq_true_iff.1 this with h1 | h1
    · have := Nat.eq_of_beq_eq_true h1; omega
    · exact h1
  · intro h k hk
    rw [List.mem_range] at hk
    by_cases h0 : k = 0
    · subst h0; rfl
    · rw [h k hk (by omega), Bool.or_true]
theorem riseG_no {l : List α} {i : Nat} (hi : i < l.length) (h0 : 0 < i) (h : lt (l.getD (i - 1) default) (l.getD i default) = false) : riseG lt l = false := by
  cases hr : riseG lt l with
  | false => rfl
  | true => rw [riseG_iff.1 hr i hi h0] at h; cases h
include hO
theorem riseG_lt {l : List α} (h : riseG lt l = true) : ∀ j i, i < j → j < l.length → lt (l.getD i default) (l.getD j default) = true := by
  have h := riseG_iff.1 h
  intro j
  induction j with
  | zero => intro i h1; omega
  | succ j ih =>
    intro i h1 h2
    have h3 := h (j + 1) h2 (by omega)
    rw [Nat.add_sub_cancel] at h3
    by_cases e : i = j
    · rw [e]; exact h3
    · have h4 := ih i (by omega) (by omega)
      cases hc : lt (l.getD i default) (l.getD (j + 1) default) with
      | true => rfl
      | false =>
        have h5 := hO.ok.tr (l.getD j default) (l.getD (j + 1) default) (l.getD i default) (hO.ok.asy _ _ h3) hc
        rw [h4] at h5
        cases h5
theorem riseG_pw {l : List α} (h : riseG lt l = true) : l.Pairwise fun x y => lt x y = true := by
  rw [List.pairwise_iff_getElem]
  intro i j hi hj hij
  have := riseG_lt hO h j i hij hj
  rwa [getDG hi, getDG hj] at this
theorem riseG_nodup {l : List α} (h : riseG lt l = true) : l.Nodup := (riseG_pw hO h).imp fun h e => by rw [e, hO.ok.irr] at h; cases h
theorem riseG_srt {l : List α} (h : riseG lt l = true) : SOn lt 0 l.length l := by
  intro i j _ hij hj
  rcases Nat.lt_or_eq_of_le hij with h1 | h1
  · exact hO.ok.asy _ _ (riseG_lt hO h j i h1 hj)
  · subst h1; exact hO.ok.irr _
theorem riseG_ris {l : List α} (h : riseG lt l = true) : l = risG lt l := ris_ofG hO (riseG_nodup hO h) (riseG_srt hO h) fun _ => Iff.rfl
theorem srt_rise {l : List α} (hn : l.Nodup) (hs : SOn lt 0 l.length l) : riseG lt l = true := by
  rw [riseG_iff]
  intro k hk h0
  have h1 := hs (k - 1) k (Nat.zero_le _) (by omega) hk
  cases h2 : lt (l.getD (k - 1) default) (l.getD k default) with
  | true => rfl
  | false =>
    have h3 := hO.tot _ _ h2 h1
    rw [getDG (by omega), getDG hk] at h3
    have := (List.getElem_inj hn).1 h3
    omega
theorem risG_rise (l : List α) : riseG lt (risG lt l) = true := srt_rise hO (risG_nodup l) (risG_srt hO l)
end
end Go.Sx
