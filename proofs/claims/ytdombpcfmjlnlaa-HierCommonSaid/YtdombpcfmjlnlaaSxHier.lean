/- Layer 11 in plain words: lists of classes above and below, in order. -/
import Derived.Test.YtdombpcfmjlnlaaSxForest
import Derived.Test.YtdombpcfmjlnlaaSxPool2
import Derived.Test.YtdombpcfmjlnlaaSxKeys
set_option linter.unusedSimpArgs false
set_option linter.unusedVariables false
namespace Go.Sx
open Go

theorem dd_self {l : List Str} (h : l.Nodup) : (dd l).Perm l := (List.perm_ext_iff_of_nodup (dd_nodup l) h).2 fun s => dd_mem l s
theorem ris_of_srt {m l out : List Str} (hp : m.Perm l) (hn : l.Nodup) (hs : SOn ltS 0 m.length m) (ho : ∀ s, s ∈ l ↔ s ∈ out) : m = risF out := by
  rw [← risF_of ho]
  exact SOn.uniq (hp.trans ((risF_perm l).trans (dd_self hn)).symm) hs (risF_srt l)
noncomputable def ancL (p : Prog) (nm : Str) : List Str := risF ((p.classes.map Cls.name).filter (subP p nm))
noncomputable def subsL (p : Prog) (nm : Str) : List Str := risF ((p.classes.map Cls.name).filter fun s => subP p s nm)
theorem anc_mem (p : Prog) (nm s : Str) : s ∈ (p.classes.map Cls.name).filter (subP p nm) ↔ Anc p nm s := by
  rw [List.mem_filter, subP_iff]
  exact ⟨fun h => h.2, fun h => ⟨hasC_mem h.known, h⟩⟩
theorem ancL_mem (p : Prog) (nm s : Str) : s ∈ ancL p nm ↔ Anc p nm s := (risF_mem _ s).trans (anc_mem p nm s)
theorem ancL_of {p : Prog} {nm : Str} {out : List Str} (h : ∀ s, s ∈ out ↔ Anc p nm s) : risF out = ancL p nm := risF_of fun s => (h s).trans (anc_mem p nm s).symm
theorem ancL_len (p : Prog) (nm : Str) : (ancL p nm).length ≤ p.classes.length := by
  have h1 := risF_len ((p.classes.map Cls.name).filter (subP p nm))
  have h2 := List.length_filter_le (subP p nm) (p.classes.map Cls.name)
  unfold ancL
  simp only [List.length_map] at h2
  omega
theorem subsL_len (p : Prog) (nm : Str) : (subsL p nm).length ≤ p.classes.length := by
  have h1 := risF_len ((p.classes.map Cls.name).filter fun s => subP p s nm)
  have h2 := List.length_filter_le (fun s => subP p s nm) (p.classes.map Cls.name)
  unfold subsL
  simp only [List.length_map] at h2
  omega
/-- The classes below one, as they stand. -/
noncomputable def subN (p : Prog) (nm : Str) (n : Nat) : List Str := ((p.classes.take n).map Cls.name).filter fun s => subP p s nm
theorem subN_succ {p : Prog} {nm : Str} {n : Nat} (h : n < p.classes.length) : subN p nm (n + 1) = subN p nm n ++ (if subP p p.classes[n].name nm then [p.classes[n].name] else []) := by
  unfold subN
  rw [take_snoc h, List.map_append, List.filter_append]
  congr 1
  simp only [List.map_cons, List.map_nil, List.filter_cons, List.filter_nil]
theorem subN_all (p : Prog) (nm : Str) {n : Nat} (h : ¬ n < p.classes.length) : subN p nm n = (p.classes.map Cls.name).filter fun s => subP p s nm := by
  unfold subN; rw [List.take_of_length_le (by omega)]
theorem subN_len (p : Prog) (nm : Str) (n : Nat) : (subN p nm n).length ≤ n := by
  unfold subN
  have h2 := List.length_filter_le (fun s => subP p s nm) ((p.classes.take n).map Cls.name)
  simp only [List.length_map, List.length_take] at h2
  omega

/-! ### One behind the other that are alike become one -/
/-- Is it another one than the one ahead of it? -/
def cptS (l : List Str) (n : Nat) : Bool := !beqS (l.getD n default) (l.getD (n - 1) default)
/-- What stands at the places that differ from those ahead of them. -/
def cptN (l : List Str) (n : Nat) : List Str := ((List.range n).filter fun k => Nat.beq k 0 || cptS l k).map fun k => l.getD k default
theorem cptN_succ (l : List Str) (n : Nat) : cptN l (n + 1) = cptN l n ++ (if Nat.beq n 0 || cptS l n then [l.getD n default] else []) := by
  unfold cptN
  rw [List.range_succ, List.filter_append, List.map_append]
  congr 1
  simp only [List.filter_cons, List.filter_nil]
  split <;> rfl
theorem cptN_len (l : List Str) (n : Nat) : (cptN l n).length ≤ n := by
  unfold cptN
  have h2 := List.length_filter_le (fun k => Nat.beq k 0 || cptS l k) (List.range n)
  simp only [List.length_map, List.length_range] at h2 ⊢
  omega
theorem cptN_take {l : List Str} : ∀ {n : Nat}, n ≤ l.length → (∀ k, 0 < k → k < n → cptS l k = true) → cptN l n = l.take n
  | 0, _, _ => rfl
  | n + 1, hn, h => by
    rw [cptN_succ, cptN_take (by omega) (fun k h0 hk => h k h0 (by omega)), take_snoc (show n < l.length by omega)]
    congr 1
    rw [if_pos]
    · rw [getD_eq (show n < l.length by omega)]
    · cases n with
      | zero => rfl
      | succ n => rw [h (n + 1) (by omega) (by omega), Bool.or_true]
theorem cptN_mem {l : List Str} : ∀ {n : Nat} {s : Str}, n ≤ l.length → (s ∈ cptN l n ↔ ∃ k, k < n ∧ l.getD k default = s)
  | 0, s, _ => ⟨fun h => by simp [cptN] at h, fun ⟨k, h, _⟩ => by omega⟩
  | n + 1, s, hn => by
    rw [cptN_succ, List.mem_append, cptN_mem (n := n) (by omega)]
    constructor
    · rintro (⟨k, h1, h2⟩ | h)
      · exact ⟨k, by omega, h2⟩
      · split at h
        · rw [List.mem_singleton] at h; exact ⟨n, by omega, h.symm⟩
        · cases h
    · rintro ⟨k, h1, h2⟩
      by_cases hk : k < n
      · exact .inl ⟨k, hk, h2⟩
      · have : k = n := by omega
        subst this
        by_cases hb : (Nat.beq k 0 || cptS l k) = true
        · exact .inr (by rw [if_pos hb, List.mem_singleton]; exact h2.symm)
        · rw [Bool.not_eq_true, Bool.or_eq_false_iff] at hb
          have h0 : k ≠ 0 := fun e => by subst e; cases hb.1
          have h3 : beqS (l.getD k default) (l.getD (k - 1) default) = true := by have := hb.2; unfold cptS at this; cases h : beqS (l.getD k default) (l.getD (k - 1) default) with
            | true => rfl
            | false => rw [h] at this; cases this
          exact .inl ⟨k - 1, by omega, by rw [← h2]; exact (beqS_iff.1 h3).symm⟩
/-- slices.Compact on its way: from k on, k2 are kept, j of the rest were looked at. -/
structure CptJ (l : List Str) (k : Nat) (m : List Str) (k2 j : Nat) : Prop where
  h1 : 1 ≤ j
  h2 : j ≤ l.length - k
  h3 : k ≤ k2
  h4 : k2 + 1 ≤ k + j
  hl : m.length = l.length
  ht : m.take k2 = cptN l (k + j)
  ho : ∀ i, k2 ≤ i → m.getD i default = l.getD i default
theorem CptJ.start {l : List Str} {k : Nat} (h0 : 1 ≤ k) (h1 : k < l.length) (h : ∀ i, 0 < i → i < k → cptS l i = true) (he : beqS (l.getD k default) (l.getD (k - 1) default) = true) : CptJ l k l k 1 := by
  refine ⟨Nat.le_refl _, by omega, Nat.le_refl _, Nat.le_refl _, rfl, ?_, fun _ _ => rfl⟩
  rw [cptN_succ, if_neg, List.append_nil, cptN_take (by omega) h]
  unfold cptS
  rw [he]
  simp
  omega
theorem CptJ.keep {l m : List Str} {k k2 j : Nat} (h : CptJ l k m k2 j) (hj : j < l.length - k) (he : beqS (m.getD (k + j) default) (m.getD (k + (j - 1)) default) = true) : CptJ l k m k2 (j + 1) := by
  have g1 := h.h1
  have g4 := h.h4
  refine ⟨by omega, by omega, h.h3, by omega, h.hl, ?_, h.ho⟩
  rw [h.ho _ (by omega), h.ho _ (by omega)] at he
  rw [show k + (j + 1) = (k + j) + 1 by omega, cptN_succ, if_neg, List.append_nil]
  · exact h.ht
  · unfold cptS
    rw [show k + j - 1 = k + (j - 1) by omega, he]
    simp
    omega
theorem CptJ.put {l m : List Str} {k k2 j : Nat} (h : CptJ l k m k2 j) (hj : j < l.length - k) (he : (!beqS (m.getD (k + j) default) (m.getD (k + (j - 1)) default)) = true) : CptJ l k (m.set k2 (m.getD (k + j) default)) (k2 + 1) (j + 1) := by
  have g1 := h.h1
  have g4 := h.h4
  have gl := h.hl
  have hx := h.ho (k + j) (by omega)
  have h0 := h.ho (k + (j - 1)) (by omega)
  refine ⟨by omega, by omega, by have := h.h3; omega, by omega, by rw [List.length_set]; exact gl, ?_, ?_⟩
  · rw [hx, h0] at he
    rw [show k + (j + 1) = (k + j) + 1 by omega, cptN_succ, if_pos, ← h.ht]
    · rw [take_snoc (by rw [List.length_set]; omega), List.take_set_of_le (Nat.le_refl _), List.getElem_set_self, hx]
    · unfold cptS
      rw [show k + j - 1 = k + (j - 1) by omega, he, Bool.or_true]
  · intro i hi
    rw [← h.ho i (by omega)]
    simp only [List.getD, List.getElem?_set]
    rw [if_neg (by omega)]
theorem CptJ.fin {l m : List Str} {k k2 j : Nat} (h : CptJ l k m k2 j) (hk : k < l.length) (hj : ¬ j < l.length - k) : m.take k2 = cptN l l.length ∧ k2 < l.length := by
  have g2 := h.h2
  have g4 := h.h4
  refine ⟨?_, by omega⟩
  rw [h.ht]
  congr 1
  omega
/-- Of what is in order each one once. -/
theorem cptN_ris {m l : List Str} (hp : m.Perm l) (hs : SOn ltS 0 m.length m) : cptN m m.length = risF l := by
  have hmono : ∀ i j, i ≤ j → j < m.length → ltS (m.getD j default) (m.getD i default) = false := fun i j h1 h2 => hs i j (Nat.zero_le _) h1 h2
  have hlt : ∀ n, n ≤ m.length → (cptN m n).Pairwise (fun x y => ltS x y = true) ∧ ∀ x, x ∈ cptN m n → ∀ k, n ≤ k → k < m.length → ltS (m.getD k default) x = false := by
    intro n
    induction n with
    | zero => intro _; exact ⟨by simp [cptN], fun x hx => by simp [cptN] at hx⟩
    | succ n ih =>
      intro hn
      obtain ⟨h1, h2⟩ := ih (by omega)
      have h3 : ∀ x, x ∈ cptN m (n + 1) → ∀ k, n + 1 ≤ k → k < m.length → ltS (m.getD k default) x = false := by
        intro x hx k hk hkl
        obtain ⟨i, hi, rfl⟩ := (cptN_mem (by omega)).1 hx
        exact hmono i k (by omega) hkl
      refine ⟨?_, h3⟩
      rw [cptN_succ]
      split
      · rename_i hc
        rw [List.pairwise_append]
        refine ⟨h1, List.pairwise_singleton .., ?_⟩
        intro a ha b hb
        rw [List.mem_singleton] at hb
        subst hb
        obtain ⟨i, hi, rfl⟩ := (cptN_mem (by omega)).1 ha
        cases hlt : ltS (m.getD i default) (m.getD n default) with
        | true => rfl
        | false =>
          exfalso
          have e1 := ltS_total hlt (hmono i n (by omega) (by omega))
          -- then the one ahead of it is the same, too
          have h0 : 0 < n := by omega
          have h4 : ltS (m.getD (n - 1) default) (m.getD i default) = false := hmono i (n - 1) (by omega) (by omega)
          have h5 : ltS (m.getD n default) (m.getD (n - 1) default) = false := hmono (n - 1) n (by omega) (by omega)
          have h6 : m.getD (n - 1) default = m.getD n default := by
            refine ltS_total ?_ h5
            rw [← e1]; exact h4
          have h7 : cptS m n = true := by
            rcases Bool.or_eq_true_iff.1 hc with h | h
            · have := Nat.eq_of_beq_eq_true h; omega
            · exact h
          unfold cptS at h7
          rw [h6, beqS_refl] at h7; cases h7
      · rw [List.append_nil]; exact h1
  obtain ⟨h1, _⟩ := hlt m.length (Nat.le_refl _)
  have hnd : (cptN m m.length).Nodup := h1.imp (fun h => ltS_ne h)
  have hmem : ∀ s, s ∈ cptN m m.length ↔ s ∈ l := fun s => by
    rw [cptN_mem (Nat.le_refl _), ← hp.mem_iff, List.mem_iff_getElem]
    constructor
    · rintro ⟨k, hk, rfl⟩; exact ⟨k, hk, (getD_eq hk).symm⟩
    · rintro ⟨k, hk, rfl⟩; exact ⟨k, hk, getD_eq hk⟩
  refine ris_of_srt (.refl _) hnd ?_ hmem
  intro i j _ hij hj
  rcases Nat.lt_or_eq_of_le hij with h | h
  · have h2 := List.pairwise_iff_getElem.1 h1 i j (by omega) hj h
    rw [getD_eq hj, getD_eq (by omega)]
    exact ltS_ok.asy _ _ h2
  · subst h; exact ltS_ok.irr _

/-! ### What is wrong with a class -/
theorem upC_any (c : Cls) (f : Str → Bool) : (upC c).any f = ((!beqS c.super zS && f c.super) || c.ifaces.any f) := by
  unfold upC
  cases beqS c.super zS <;> simp
theorem upC_mem_len {c : Cls} (h : c.ifaces.length ≤ 1000) : small (upC c).length := by have := upC_len h; unfold small; omega
theorem chk1_miss {p : Prog} {c : Cls} (h : ((upC c).any fun s => !hasC p s) = true) : chk1 p c = 7 := by
  rw [upC_any] at h
  unfold chk1
  rcases Bool.or_eq_true_iff.1 h with h | h
  · rw [h]; rfl
  · rw [h]; simp
theorem chk1_cross {p : Prog} {c : Cls} (h1 : ((upC c).any fun s => !hasC p s) = false) (h : ((!beqS c.super zS && ifaceP p c.super) || c.ifaces.any fun s => !ifaceP p s) = true) : chk1 p c = 9 := by
  rw [upC_any] at h1
  obtain ⟨h2, h3⟩ := Bool.or_eq_false_iff.1 h1
  unfold chk1
  rw [h2, h3]
  rcases Bool.or_eq_true_iff.1 h with h | h
  · rw [h]; rfl
  · rw [h]; simp
theorem chk1_ok {p : Prog} {c : Cls} (h1 : ((upC c).any fun s => !hasC p s) = false) (h : ((!beqS c.super zS && ifaceP p c.super) || c.ifaces.any fun s => !ifaceP p s) = false) : chk1 p c = 0 := by
  rw [upC_any] at h1
  obtain ⟨h2, h3⟩ := Bool.or_eq_false_iff.1 h1
  obtain ⟨h4, h5⟩ := Bool.or_eq_false_iff.1 h
  unfold chk1
  rw [h2, h3, h4, h5]; rfl
theorem chk2_round (p : Prog) (c : Cls) : chk2 p c = (upC c).any fun s => subP p s c.name := by rw [upC_any]; rfl
def nno : Str := ⟨#[110, 111]⟩
/-- A class's name, mostly. -/
def nameP (p : Prog) (k : Int) : Str := if p.classes.length = 0 ∨ k = 255 then nno else (p.classes.getD (k.tmod p.classes.length).toNat default).name
end Go.Sx
