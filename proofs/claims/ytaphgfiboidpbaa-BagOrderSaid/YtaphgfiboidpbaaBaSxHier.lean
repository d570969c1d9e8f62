/- Layer 11 in plain words: lists of classes above and below, in order. -/
import Derived.Test.YtaphgfiboidpbaaBaSxForest
import Derived.Test.YtaphgfiboidpbaaBaSxPool2
import Derived.Test.YtaphgfiboidpbaaBaSxKeys
set_option linter.unusedSimpArgs false
set_option linter.unusedVariables false
namespace Go.Sx
open Go

noncomputable def ancL (p : Prog) (nm : Str) : List Str := risF ((p.classes.map Cls.name).filter (subP p nm))
noncomputable def subsL (p : Prog) (nm : Str) : List Str := risF ((p.classes.map Cls.name).filter fun s => subP p s nm)
/-- The classes below one, as they stand. -/
noncomputable def subN (p : Prog) (nm : Str) (n : Nat) : List Str := ((p.classes.take n).map Cls.name).filter fun s => subP p s nm
/-! ### One behind the other that are alike become one -/
/-- Is it another one than the one ahead of it? -/
def cptS (l : List Str) (n : Nat) : Bool := !beqS (l.getD n default) (l.getD (n - 1) default)
/-- What stands at the places that differ from those ahead of them. -/
def cptN (l : List Str) (n : Nat) : List Str := ((List.range n).filter fun k => Nat.beq k 0 || cptS l k).map fun k => l.getD k default
theorem cptN_succ (l : List Str) (n : Nat) : cptN l (n + 1) = cptN l n ++ (if Nat.beq n 0 || cptS l n then [l.getD n default] else []) := by
  unfold cptN
  rw [List.range_succ, List.filter_append, List.map_append]
  congr 1
  simp only [List.filter_cons, List.filter_nil]
  split <;> rfl
theorem cptN_take {l : List Str} : ∀ {n : Nat}, n ≤ l.length → (∀ k, 0 < k → k < n → cptS l k = true) → cptN l n = l.take n
  | 0, _, _ => rfl
  | n + 1, hn, h => by
    rw [cptN_succ, cptN_take (by omega) (fun k h0 hk => h k h0 (by omega)), take_snoc (show n < l.length by omega)]
    congr 1
    rw [if_pos]
    · rw [getD_eq (show n < l.length by omega)]
    · cases n with
      | zero => rfl
      | succ n => rw [h (n + 1) (by omega) (by omega), Bool.or_true]
/-- slices.Compact on its way: from k on, k2 are kept, j of the rest were looked at. -/
structure CptJ (l : List Str) (k : Nat) (m : List Str) (k2 j : Nat) : Prop where
  h1 : 1 ≤ j
  h2 : j ≤ l.length - k
  h3 : k ≤ k2
  h4 : k2 + 1 ≤ k + j
  hl : m.length = l.length
  ht : m.take k2 = cptN l (k + j)
  ho : ∀ i, k2 ≤ i → m.getD i default = l.getD i default
theorem CptJ.start {l : List Str} {k : Nat} (h0 : 1 ≤ k) (h1 : k < l.length) (h : ∀ i, 0 < i → i < k → cptS l i = true) (he : beqS (l.getD k default) (l.getD (k - 1) default) = true) : CptJ l k l k 1 := by
  refine ⟨Nat.le_refl _, by omega, Nat.le_refl _, Nat.le_refl _, rfl, ?_, fun _ _ => rfl⟩
  rw [cptN_succ, if_neg, List.append_nil, cptN_take (by omega) h]
  unfold cptS
  rw [he]
  simp
  omega
theorem CptJ.keep {l m : List Str} {k k2 j : Nat} (h : CptJ l k m k2 j) (hj : j < l.length - k) (he : beqS (m.getD (k + j) default) (m.getD (k + (j - 1)) default) = true) : CptJ l k m k2 (j + 1) := by
  have g1 := h.h1
  have g4 := h.h4
  refine ⟨by omega, by omega, h.h3, by omega, h.hl, ?_, h.ho⟩
  rw [h.ho _ (by omega), h.ho _ (by omega)] at he
  rw [show k + (j + 1) = (k + j) + 1 by omega, cptN_succ, if_neg, List.append_nil]
  · exact h.ht
  · unfold cptS
    rw [show k + j - 1 = k + (j - 1) by omega, he]
    simp
    omega
theorem CptJ.put {l m : List Str} {k k2 j : Nat} (h : CptJ l k m k2 j) (hj : j < l.length - k) (he : (!beqS (m.getD (k + j) default) (m.getD (k + (j - 1)) default)) = true) : CptJ l k (m.set k2 (m.getD (k + j) default)) (k2 + 1) (j + 1) := by
  have g1 := h.h1
  have g4 := h.h4
  have gl := h.hl
  have hx := h.ho (k + j) (by omega)
  have h0 := h.ho (k + (j - 1)) (by omega)
  refine ⟨by omega, by omega, by have := h.h3; omega, by omega, by rw [List.length_set]; exact gl, ?_, ?_⟩
  · rw [hx, h0] at he
    rw [show k + (j + 1) = (k + j) + 1 by omega, cptN_succ, if_pos, ← h.ht]
    · rw [take_snoc (by rw [List.length_set]; omega), List.take_set_of_le (Nat.le_refl _), List.getElem_set_self, hx]
    · unfold cptS
      rw [show k + j - 1 = k + (j - 1) by omega, he, Bool.or_true]
  · intro i hi
    rw [← h.ho i (by omega)]
    simp only [List.getD, List.getElem?_set]
    rw [if_neg (by omega)]
theorem CptJ.fin {l m : List Str} {k k2 j : Nat} (h : CptJ l k m k2 j) (hk : k < l.length) (hj : ¬ j < l.length - k) : m.take k2 = cptN l l.length ∧ k2 < l.length := by
  have g2 := h.h2
  have g4 := h.h4
  refine ⟨?_, by omega⟩
  rw [h.ht]
  congr 1
  omega
/-! ### What is wrong with a class -/
def nno : Str := ⟨#[110, 111]⟩
/-- A class's name, mostly. -/
def nameP (p : Prog) (k : Int) : Str := if p.classes.length = 0 ∨ k = 255 then nno else (p.classes.getD (k.tmod p.classes.length).toNat default).name
end Go.Sx
