/- Plain laws of pools: texts that rise, where one stands. -/
import Derived.Test.YtaphgfiboidpbaaBaSxOrd
set_option linter.unusedVariables false
set_option linter.unusedSimpArgs false
namespace Go.Sx
open Go

theorem bl_total : ∀ x y : List UInt8, (Op.bytesLess x y || x == y) = !Op.bytesLess y x
  | [], [] => rfl
  | [], _ :: _ => by simp [Op.bytesLess]
  | _ :: _, [] => by simp [Op.bytesLess]
  | a :: x, b :: y => by
    have ih := bl_total x y
    by_cases h1 : a < b
    · have h2 : ¬ b < a := fun h => by simp [UInt8.lt_iff_toNat_lt] at h h1; omega
      have h3 : ¬ b = a := fun e => by subst e; simp at h1
      simp [Op.bytesLess, h1, h2, h3]
    · by_cases h2 : b < a
      · have h3 : ¬ a = b := fun e => by subst e; simp at h2
        simp [Op.bytesLess, h1, h2, h3]
      · have h3 : a = b := UInt8.toNat_inj.1 (by simp [UInt8.lt_iff_toNat_lt] at h1 h2; omega)
        subst h3
        simp [Op.bytesLess] at ih ⊢
        exact ih
theorem leS_not (x y : Str) : (Op.bytesLess x.toList y.toList || x.toList == y.toList) = !ltS y x := bl_total _ _
theorem ltS_total {x y : Str} (h : ltS x y = false) (k : ltS y x = false) : x = y := by
  have h2 := leS_not x y
  rw [k] at h2
  have h3 : Op.bytesLess x.toList y.toList = false := h
  rw [h3] at h2
  have h4 : beqS x y = true := by unfold beqS; simpa using h2
  exact beqS_iff.1 h4
def longS (s : Str) : Bool := decide (s.size > 64)
def allN (g : Nat → Bool) (n : Nat) : Bool := (List.range n).all fun i => Nat.beq i 0 || g i
def gS (l : List Str) (k : Nat) : Bool := ltS (l.getD (k - 1) default) (l.getD k default)
def rightL (l : List Str) : Bool := decide (l.length ≤ 1024) && !l.any longS && allN (gS l) l.length
def findL (l : List Str) (s : Str) : Int := if rightL l then idxFrom (fun x => beqS x s) l 0 else -1
theorem idx_any {α : Type} (f : α → Bool) (l : List α) : decide (idxFrom f l 0 ≥ 0) = l.any f := by
  rcases idxFrom_find f l 0 with ⟨h1, h2⟩ | ⟨j, hj, h1, h2, h3⟩
  · rw [h1]
    rw [List.find?_eq_none] at h2
    have : l.any f = false := by rw [List.any_eq_false]; exact h2
    rw [this]; rfl
  · rw [h1]
    have : l.any f = true := List.any_eq_true.2 ⟨_, List.getElem_mem hj, h3⟩
    rw [this]; simp
def sameT : List Str → List Str → Bool
  | [], [] => true
  | x :: l, y :: r => beqS x y && sameT l r
  | _, _ => false
/-! ### In order, and of the same texts: one -/
def makeP (l : List Str) : List Str × Int := if l.any longS || decide (1024 < (dd l).length) then ([], 3) else (risF l, 0)
/-! ### What a pool is -/
end Go.Sx
