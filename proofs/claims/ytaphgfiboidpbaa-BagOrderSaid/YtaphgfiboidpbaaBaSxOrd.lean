/- Texts in the order of their bytes. -/
import Derived.Test.YtaphgfiboidpbaaBaSxSort
import Derived.Test.YtaphgfiboidpbaaBaSxPlain
set_option linter.unusedVariables false
namespace Go.Sx
open Go
theorem bl_irr : ∀ l : List UInt8, Op.bytesLess l l = false
  | [] => rfl
  | x :: l => by simp [Op.bytesLess, bl_irr l]
theorem bl_asy : ∀ l r : List UInt8, Op.bytesLess l r = true → Op.bytesLess r l = false
  | [], [], h => rfl
  | [], _ :: _, h => rfl
  | _ :: _, [], h => by simp [Op.bytesLess] at h
  | x :: l, y :: r, h => by
    simp only [Op.bytesLess] at h ⊢
    by_cases h1 : x < y
    · have h2 : ¬ y < x := fun h => by simp [UInt8.lt_iff_toNat_lt] at h h1; omega
      have h3 : ¬ y = x := fun e => by subst e; simp at h1
      simp [h2, h3]
    · by_cases h2 : x = y
      · subst h2; simp at h; simp [bl_asy l r h]
      · simp [h1, h2] at h
theorem bl_tr : ∀ x y z : List UInt8, Op.bytesLess y x = false → Op.bytesLess z y = false → Op.bytesLess z x = false
  | [], _, [], _, _ => rfl
  | [], _, _ :: _, _, _ => rfl
  | _ :: _, [], _, h, _ => by simp [Op.bytesLess] at h
  | _ :: _, _ :: _, [], _, h => by simp [Op.bytesLess] at h
  | a :: x, b :: y, c :: z, h, k => by
    simp only [Op.bytesLess] at h k ⊢
    have ih := bl_tr x y z
    simp only [UInt8.lt_iff_toNat_lt, Bool.or_eq_false_iff, Bool.and_eq_false_iff, decide_eq_false_iff_not, beq_eq_false_iff_ne, ne_eq] at h k ⊢
    refine ⟨by omega, ?_⟩
    by_cases e : c = a
    · subst e
      have e2 : b = c := UInt8.toNat_inj.1 (by omega)
      subst e2
      exact .inr (ih (h.2.resolve_left (fun h => h rfl)) (k.2.resolve_left (fun h => h rfl)))
    · exact .inl e
theorem ltS_ok : LtOK ltS := ⟨fun x => bl_irr _, fun x y h => bl_asy _ _ h, fun x y z h k => bl_tr _ _ _ h k⟩
end Go.Sx
