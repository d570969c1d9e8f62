/- HierLists: of any program and any two of its classes: a class and those above it, all it is below, all that are below it, whether one is below another one, the nearest class of two, and whether it can have objects, are the reference's; the law's call returns true; conditions: those of the given statement alone. -/
import Derived.Test.YtdombpcfmjlnlaaRows
import Derived.Test.YtdombpcfmjlnlaaSyHier2
namespace Go.Proofs.Ytdombpcfmjlnlaa
open Go.ChangeShapes Go.WideShapes Go.ChangeAt Go.RowKit Go.Sx
set_option linter.unusedVariables false

theorem own : ownKnob Try.prog.godebug = none := by kernel_rfl
theorem laidOut : laidOutB Try.prog = true := by kernel_rfl

theorem hierLists_con (xs : List AV) (h : TXs Try.prog [39, 5, 5] xs) : ACalls Try.prog 6 xs [] (fun e _ => e = .ret (.v (.bool true))) := by
  obtain ⟨p, xs, rfl, hp, h⟩ := txs_agg dec39 (by kernel_rfl) h
  obtain ⟨k, xs, rfl, hk, h⟩ := txs_one (f := fun n : Int => uA n) (dec_u8 (by kernel_rfl)) (by kernel_rfl) h
  obtain ⟨m, xs, rfl, hm, h⟩ := txs_one (f := fun n : Int => uA n) (dec_u8 (by kernel_rfl)) (by kernel_rfl) h
  cases h
  exact (c_hierLists p hp k m hk hm).mono fun e H h => h.1

set_option maxRecDepth 100000 in
theorem hierLists_lifted (os : Os) (started : os.Started) (H : Type) (enc : TypeId × Value → H) :
    ReturnsInHanded {} Try.checked os 6 .any (Rows.hierListsSpec.pre6 enc Try.prog Try.f6 Rows.hierListsRow.domain false) (Rows.hierListsSpec.post enc Try.prog Try.f6 false true false false) := by
  refine returnsInHanded_of_change_sized (C := Try.checked) own started (by kernel_rfl) Try.func6
    (ChangeSpec.witness6 (enc := enc) (C := Try.checked) false ⟨#[], #[.agg #[.slice none 0 0, .slice none 0 0, .string ⟨#[]⟩, .string ⟨#[]⟩, .string ⟨#[]⟩], .int .u8 0, .int .u8 0], []⟩ 8 (by kernel_rfl) (by kernel_rfl) (by kernel_rfl) (by kernel_rfl)) ?_
  intro W base args ds gs before hval hW hcnd hsz _
  exact law_post 12 [39, 5, 5] (by kernel_rfl) (tb := 4) (by kernel_rfl) (by kernel_rfl) rfl laidOut (by kernel_rfl) (by kernel_rfl)
    (fun ds h => match ds, h with | [a, b, c], _ => ⟨rfl, rfl, rfl⟩) hval hW hsz hierLists_con

theorem hierLists_holds : Rows.HierListsSaid :=
  OpenClaim.holds_of_wide 6 Try.f6 rfl rfl rfl rfl rfl rfl rfl ⟨rfl, rfl, rfl, rfl, rfl⟩ rfl rfl rfl rfl rfl (by kernel_rfl) Try.func6 (by kernel_rfl)
    (of_decide_eq_true (by kernel_rfl)) (by unfold Func.isWrapper; first | (rw [if_pos (by decide +kernel)]; kernel_rfl) | (rw [if_neg (by decide +kernel)]; exact ⟨rfl, rfl⟩))
    (fun os started H enc _ => hierLists_lifted os started H enc)
#print axioms hierLists_holds
end Go.Proofs.Ytdombpcfmjlnlaa
