/- Plain laws of pools: a pool by inserting; two pools. -/
import Derived.Test.YtdombpcfmjlnlaaSxPool2
set_option linter.unusedVariables false
set_option linter.unusedSimpArgs false
namespace Go.Sx
open Go
def insW : List Str → Str → List Str
  | [], s => [s]
  | x :: r, s => if ltS s x then s :: x :: r else x :: insW r s
def withF (l : List Str) (s : Str) : List Str := if inL l s then l else insW l s
def insF (l : List Str) : List Str := l.foldl withF []
theorem insW_any {s : Str} : ∀ {l : List Str} (r : List Str), l.any (ltS s) = true → insW (l ++ r) s = insW l s ++ r
  | [], r, h => by cases h
  | x :: l, r, h => by
    simp only [List.cons_append, insW]
    cases hx : ltS s x with
    | true => rfl
    | false =>
      rw [List.any_cons, hx, Bool.false_or] at h
      simp [insW_any r h]
theorem insW_none {s : Str} : ∀ {l : List Str} (r : List Str), l.any (ltS s) = false → insW (l ++ r) s = l ++ insW r s
  | [], r, h => rfl
  | x :: l, r, h => by
    rw [List.any_cons, Bool.or_eq_false_iff] at h
    simp only [List.cons_append, insW, h.1]
    simp [insW_none r h.2]
theorem insW_perm (s : Str) : ∀ l : List Str, (insW l s).Perm (s :: l)
  | [] => .refl _
  | x :: r => by
    unfold insW
    split
    · exact .refl _
    · exact ((insW_perm s r).cons x).trans (.swap ..)
theorem insW_pw {s : Str} : ∀ {l : List Str}, (l.Pairwise fun x y => ltS y x = false) → (insW l s).Pairwise fun x y => ltS y x = false
  | [], _ => List.pairwise_singleton _ _
  | x :: r, h => by
    rw [List.pairwise_cons] at h
    unfold insW
    cases hx : ltS s x with
    | true =>
      rw [if_pos rfl]
      refine List.pairwise_cons.2 ⟨?_, List.pairwise_cons.2 h⟩
      intro y hy
      rcases List.mem_cons.1 hy with rfl | hy
      · exact ltS_ok.asy _ _ hx
      · cases hys : ltS y s with
        | false => rfl
        | true => have := ltS_trans hys hx; rw [h.1 y hy] at this; cases this
    | false =>
      rw [if_neg (by simp)]
      refine List.pairwise_cons.2 ⟨?_, insW_pw h.2⟩
      intro y hy
      rcases List.mem_cons.1 ((insW_perm s r).mem_iff.1 hy) with rfl | hy
      · exact hx
      · exact h.1 y hy
theorem withF_mem (l : List Str) (s x : Str) : x ∈ withF l s ↔ x = s ∨ x ∈ l := by
  unfold withF
  cases h : inL l s with
  | true =>
    rw [if_pos rfl]
    have := inL_mem.1 h
    exact ⟨.inr, fun h => h.elim (fun e => e ▸ this) id⟩
  | false =>
    rw [if_neg (by simp), (insW_perm s l).mem_iff, List.mem_cons]
theorem withF_ok {l : List Str} {s : Str} (hp : l.Pairwise fun x y => ltS y x = false) (hn : l.Nodup) : ((withF l s).Pairwise fun x y => ltS y x = false) ∧ (withF l s).Nodup := by
  unfold withF
  cases h : inL l s with
  | true => rw [if_pos rfl]; exact ⟨hp, hn⟩
  | false =>
    rw [if_neg (by simp)]
    exact ⟨insW_pw hp, (insW_perm s l).nodup_iff.2 (List.nodup_cons.2 ⟨inL_false.1 h, hn⟩)⟩
theorem insF_take {l : List Str} {i : Nat} (h : i < l.length) : insF (l.take (i + 1)) = withF (insF (l.take i)) l[i] := by
  unfold insF; rw [take_snoc h, List.foldl_append]; rfl
theorem insF_all (l : List Str) : ((insF l).Pairwise fun x y => ltS y x = false) ∧ (insF l).Nodup ∧ ∀ x, x ∈ insF l ↔ x ∈ l := by
  have key : ∀ (l o : List Str), (o.Pairwise fun x y => ltS y x = false) → o.Nodup → ((l.foldl withF o).Pairwise fun x y => ltS y x = false) ∧ (l.foldl withF o).Nodup ∧ ∀ x, x ∈ l.foldl withF o ↔ x ∈ o ∨ x ∈ l := by
    intro l
    induction l with
    | nil => intro o h1 h2; exact ⟨h1, h2, fun x => by simp⟩
    | cons y l ih =>
      intro o h1 h2
      obtain ⟨a, b, c⟩ := ih (withF o y) (withF_ok h1 h2).1 (withF_ok h1 h2).2
      refine ⟨a, b, fun x => ?_⟩
      rw [List.foldl_cons, c, withF_mem, List.mem_cons]
      constructor
      · rintro ((h | h) | h)
        · exact .inr (.inl h)
        · exact .inl h
        · exact .inr (.inr h)
      · rintro (h | h | h)
        · exact .inl (.inr h)
        · exact .inl (.inl h)
        · exact .inr h
  obtain ⟨a, b, c⟩ := key l [] List.Pairwise.nil List.nodup_nil
  exact ⟨a, b, fun x => by rw [show insF l = l.foldl withF [] from rfl, c]; simp⟩
theorem insF_risF (l : List Str) : insF l = risF l := by
  obtain ⟨h1, h2, h3⟩ := insF_all l
  have hp : (insF l).Perm (risF l) := ((List.perm_ext_iff_of_nodup h2 (dd_nodup l)).2 fun x => by rw [h3, dd_mem]).trans (risF_perm l).symm
  exact List.Perm.eq_of_pairwise (fun a b _ _ h k => ltS_total k h) h1 (risF_srt l).pw hp
theorem insF_len (l : List Str) : (insF l).length = (dd l).length := by rw [insF_risF, (risF_perm l).length_eq]
theorem dd_take_le (l : List Str) (i : Nat) : (dd (l.take i)).length ≤ (dd l).length := by
  have key : ∀ (r o : List Str), o.length ≤ (r.foldl ddS o).length := by
    intro r
    induction r with
    | nil => intro o; exact Nat.le_refl _
    | cons x r ih =>
      intro o
      refine Nat.le_trans ?_ (ih (ddS o x))
      unfold ddS
      split <;> simp
  have e : dd l = (l.drop i).foldl ddS (dd (l.take i)) := by
    unfold dd; rw [← List.foldl_append, List.take_append_drop]
  rw [e]; exact key _ _
theorem makeP_insF {l : List Str} (h1 : l.any longS = false) (h2 : (insF l).length ≤ 1024) : makeP l = (insF l, 0) := by
  rw [insF_len] at h2
  unfold makeP; rw [h1, decide_eq_false (by omega), insF_risF]; rfl
theorem makeP_long {l : List Str} (h : l.any longS = true) : makeP l = ([], 3) := by unfold makeP; rw [h]; rfl
theorem makeP_big {l : List Str} {i : Nat} (h : 1024 < (insF (l.take i)).length) : makeP l = ([], 3) := by
  rw [insF_len] at h
  have := dd_take_le l i
  unfold makeP; rw [decide_eq_true (show 1024 < (dd l).length by omega), Bool.or_true]; rfl

/-! ### The insertion, step by step -/
def wD (l : List Str) (s : Str) (i : Nat) : Bool := (l.take i).any (ltS s)
def wO (l : List Str) (s : Str) (i : Nat) : List Str := if wD l s i then insW (l.take i) s else l.take i
theorem wD_succ {l : List Str} {s : Str} {i : Nat} (h : i < l.length) : wD l s (i + 1) = (wD l s i || ltS s l[i]) := by
  unfold wD; rw [take_snoc h, List.any_append]; simp
theorem wO_in {l : List Str} {s : Str} {i : Nat} (h : i < l.length) (hd : wD l s i = false) (hs : ltS s l[i] = true) : wO l s (i + 1) = (wO l s i ++ [s]) ++ [l[i]] ∧ wD l s (i + 1) = true := by
  have h1 : wD l s (i + 1) = true := by rw [wD_succ h, hs, Bool.or_true]
  refine ⟨?_, h1⟩
  unfold wO
  rw [h1, hd, if_pos rfl, if_neg (by simp), take_snoc h, insW_none _ hd]
  simp [insW, hs]
theorem wO_by {l : List Str} {s : Str} {i : Nat} (h : i < l.length) (hs : (!wD l s i && ltS s l[i]) = false) : wO l s (i + 1) = wO l s i ++ [l[i]] ∧ wD l s (i + 1) = wD l s i := by
  unfold wO
  cases hd : wD l s i with
  | true =>
    have h1 : wD l s (i + 1) = true := by rw [wD_succ h, hd]; rfl
    rw [h1, if_pos rfl, if_pos rfl, take_snoc h, insW_any _ hd]
    exact ⟨rfl, rfl⟩
  | false =>
    rw [hd] at hs
    have hs : ltS s l[i] = false := by simpa using hs
    have h1 : wD l s (i + 1) = false := by rw [wD_succ h, hd, hs]; rfl
    rw [h1, if_neg (by simp), if_neg (by simp), take_snoc h]
    exact ⟨rfl, rfl⟩
theorem wO_len (l : List Str) (s : Str) (i : Nat) : (wO l s i).length ≤ l.length + 1 := by
  unfold wO
  split
  · rw [(insW_perm s _).length_eq, List.length_cons, List.length_take]; omega
  · rw [List.length_take]; omega
theorem wO_end1 {l : List Str} {s : Str} {i : Nat} (h : ¬ i < l.length) (hin : inL (l.take i) s = false) (hd : wD l s i = true) : withF l s = wO l s i := by
  have e : l.take i = l := List.take_of_length_le (by omega)
  rw [e] at hin
  unfold withF wO
  rw [hin, hd, e]; rfl
theorem wO_end0 {l : List Str} {s : Str} {i : Nat} (h : ¬ i < l.length) (hin : inL (l.take i) s = false) (hd : wD l s i = false) : withF l s = wO l s i ++ [s] := by
  have e : l.take i = l := List.take_of_length_le (by omega)
  rw [e] at hin
  have hd2 : l.any (ltS s) = false := by unfold wD at hd; rwa [e] at hd
  unfold withF wO
  rw [hin, hd, e]
  have := insW_none (s := s) (l := l) [] hd2
  rw [List.append_nil] at this
  simp [this, insW]
def mergeP (a b : List Str) : List Str × Int := if !rightL a || !rightL b then ([], 5) else makeP (a ++ b)
theorem right_long {l : List Str} {i : Nat} (hi : i < l.length) (h : longS l[i] = true) : rightL l = false := by
  unfold rightL
  rw [List.any_eq_true.2 ⟨_, List.getElem_mem hi, h⟩]; simp
theorem right_gt {l : List Str} {i : Nat} (hi : i < l.length) (h0 : 0 < i) (h : gS l i = false) : rightL l = false := by
  unfold rightL; rw [allN_false hi h0 h, Bool.and_false]
theorem any_take {l : List Str} {f : Str → Bool} {i : Nat} (hi : i < l.length) : (l.take (i + 1)).any f = ((l.take i).any f || f l[i]) := by rw [take_snoc hi, List.any_append]; simp
theorem right_or {l : List Str} {i : Nat} (hi : i < l.length) (hc : (decide (((l[i].size : Nat) : Int) > 64) || (decide ((i : Int) > 0) && !ltS (l.getD ((i : Int) - 1).toNat default) (l.getD i default))) = true) : rightL l = false := by
  rcases Bool.or_eq_true_iff.1 hc with h | h
  · exact right_long hi (by simp at h; unfold longS; simp; omega)
  · have h0 : 0 < i := by have := andL h; simpa using this
    have hle := andR h
    have e1 : ((i : Int) - 1).toNat = i - 1 := by omega
    rw [e1] at hle
    exact right_gt hi h0 (notT hle)
theorem right_on {l : List Str} {i : Nat} (hi : i < l.length) (hc : (decide (((l[i].size : Nat) : Int) > 64) || (decide ((i : Int) > 0) && !ltS (l.getD ((i : Int) - 1).toNat default) (l.getD i default))) = false) : longS l[i] = false ∧ (0 < i → gS l i = true) := by
  rw [Bool.or_eq_false_iff] at hc
  refine ⟨by have := hc.1; simp at this; unfold longS; simp; omega, fun h0 => ?_⟩
  have e1 : ((i : Int) - 1).toNat = i - 1 := by omega
  have h := hc.2
  rw [e1] at h
  rcases Bool.and_eq_false_iff.1 h with h | h
  · simp at h; omega
  · exact notF h
theorem right_yes {l : List Str} {i : Nat} (hi : ¬ i < l.length) (h1 : l.length ≤ 1024) (h2 : (l.take i).any longS = false) (h3 : ∀ k, k < i → 0 < k → gS l k = true) : rightL l = true := by
  rw [List.take_of_length_le (by omega)] at h2
  unfold rightL
  rw [decide_eq_true h1, h2, allN_iff.2 (fun k a b => h3 k (by omega) b)]; rfl
theorem right_big {l : List Str} (h : 1024 < l.length) : rightL l = false := by unfold rightL; rw [decide_eq_false (by omega)]; rfl
theorem findL_first {l : List Str} {s : Str} {i : Nat} (hr : rightL l = true) (hi : i < l.length) (h : beqS l[i] s = true) (hb : ∀ k, k < i → l.getD k default ≠ s) : findL l s = (i : Int) := by
  unfold findL; rw [hr]; exact idx_at hi (by rw [getD_eq hi]; exact beqS_iff.1 h) hb
theorem findL_none {l : List Str} {s : Str} {i : Nat} (h : ¬ i < l.length ∨ rightL l = false) (hb : ∀ k, k < i → l.getD k default ≠ s) : findL l s = -1 := by
  unfold findL
  split
  · rename_i hr
    rcases h with h | h
    · exact idx_none fun k hk => hb k (by omega)
    · rw [h] at hr; cases hr
  · rfl
end Go.Sx
