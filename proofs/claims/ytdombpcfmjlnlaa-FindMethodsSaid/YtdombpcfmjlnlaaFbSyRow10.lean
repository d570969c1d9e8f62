/- FindMethods: of any program, any two of its classes and any member: where a method is, statically, and by an object's class, is the reference's; the law's call returns true; conditions: those of the given statement alone. -/
import Derived.Test.YtdombpcfmjlnlaaRows
import Derived.Test.YtdombpcfmjlnlaaFbSyFind5
namespace Go.Proofs.Ytdombpcfmjlnlaa
open Go.ChangeShapes Go.WideShapes Go.ChangeAt Go.RowKit Go.Sx
set_option linter.unusedVariables false

theorem own : ownKnob Try.prog.godebug = none := by kernel_rfl
theorem laidOut : laidOutB Try.prog = true := by kernel_rfl

theorem findMethods_con (xs : List AV) (h : TXs Try.prog [39, 49] xs) : ACalls Try.prog 10 xs [] (fun e _ => e = .ret (.v (.bool true))) := by
  obtain ⟨p, xs, rfl, hp, h⟩ := txs_agg dec39 (by kernel_rfl) h
  obtain ⟨⟨k, m, n⟩, xs, rfl, hk, h⟩ := txs_agg (dec_arr3 (e := 5) (by kernel_rfl) (dec_u8 (by kernel_rfl))) (by kernel_rfl) h
  cases h
  exact (c_findMethods p hp k m n hk.1 hk.2.1 hk.2.2).mono fun e H h => h.1

set_option maxRecDepth 100000 in
theorem findMethods_lifted (os : Os) (started : os.Started) (H : Type) (enc : TypeId × Value → H) :
    ReturnsInHanded {} Try.checked os 10 .any (Rows.findMethodsSpec.pre6 enc Try.prog Try.f10 Rows.findMethodsRow.domain false) (Rows.findMethodsSpec.post enc Try.prog Try.f10 false true false false) := by
  refine returnsInHanded_of_change_sized (C := Try.checked) own started (by kernel_rfl) Try.func10
    (ChangeSpec.witness6 (enc := enc) (C := Try.checked) false ⟨#[], #[.agg #[.slice none 0 0, .slice none 0 0, .string ⟨#[]⟩, .string ⟨#[]⟩, .string ⟨#[]⟩], .agg #[.int .u8 0, .int .u8 0, .int .u8 0]], []⟩ 8 (by kernel_rfl) (by kernel_rfl) (by kernel_rfl) (by kernel_rfl)) ?_
  intro W base args ds gs before hval hW hcnd hsz _
  exact law_post 12 [39, 49] (by kernel_rfl) (tb := 4) (by kernel_rfl) (by kernel_rfl) rfl laidOut (by kernel_rfl) (by kernel_rfl)
    (fun ds h => match ds, h with | [a, b], _ => ⟨rfl, rfl, rfl⟩) hval hW hsz findMethods_con

theorem findMethods_holds : Rows.FindMethodsSaid :=
  OpenClaim.holds_of_wide 10 Try.f10 rfl rfl rfl rfl rfl rfl rfl ⟨rfl, rfl, rfl, rfl, rfl⟩ rfl rfl rfl rfl rfl (by kernel_rfl) Try.func10 (by kernel_rfl)
    (of_decide_eq_true (by kernel_rfl)) (by unfold Func.isWrapper; first | (rw [if_pos (by decide +kernel)]; kernel_rfl) | (rw [if_neg (by decide +kernel)]; exact ⟨rfl, rfl⟩))
    (fun os started H enc _ => findMethods_lifted os started H enc)
#print axioms findMethods_holds
end Go.Proofs.Ytdombpcfmjlnlaa
