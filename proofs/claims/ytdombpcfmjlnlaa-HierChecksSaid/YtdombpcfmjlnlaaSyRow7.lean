/- HierChecks: of any program: what is wrong first with its classes, and of which one, is the reference's; the law's call returns true; conditions: those of the given statement alone. -/
import Derived.Test.YtdombpcfmjlnlaaRows
import Derived.Test.YtdombpcfmjlnlaaSyHier2
namespace Go.Proofs.Ytdombpcfmjlnlaa
open Go.ChangeShapes Go.WideShapes Go.ChangeAt Go.RowKit Go.Sx
set_option linter.unusedVariables false

theorem own : ownKnob Try.prog.godebug = none := by kernel_rfl
theorem laidOut : laidOutB Try.prog = true := by kernel_rfl

theorem hierChecks_con (xs : List AV) (h : TXs Try.prog [39] xs) : ACalls Try.prog 7 xs [] (fun e _ => e = .ret (.v (.bool true))) := by
  obtain ⟨p, xs, rfl, hp, h⟩ := txs_agg dec39 (by kernel_rfl) h
  cases h
  exact (c_hierChecks p hp).mono fun e H h => h.1

set_option maxRecDepth 100000 in
theorem hierChecks_lifted (os : Os) (started : os.Started) (H : Type) (enc : TypeId × Value → H) :
    ReturnsInHanded {} Try.checked os 7 .any (Rows.hierChecksSpec.pre6 enc Try.prog Try.f7 Rows.hierChecksRow.domain false) (Rows.hierChecksSpec.post enc Try.prog Try.f7 false true false false) := by
  refine returnsInHanded_of_change_sized (C := Try.checked) own started (by kernel_rfl) Try.func7
    (ChangeSpec.witness6 (enc := enc) (C := Try.checked) false ⟨#[], #[.agg #[.slice none 0 0, .slice none 0 0, .string ⟨#[]⟩, .string ⟨#[]⟩, .string ⟨#[]⟩]], []⟩ 8 (by kernel_rfl) (by kernel_rfl) (by kernel_rfl) (by kernel_rfl)) ?_
  intro W base args ds gs before hval hW hcnd hsz _
  exact law_post 12 [39] (by kernel_rfl) (tb := 4) (by kernel_rfl) (by kernel_rfl) rfl laidOut (by kernel_rfl) (by kernel_rfl)
    (fun ds h => match ds, h with | [a], _ => ⟨rfl, rfl, rfl⟩) hval hW hsz hierChecks_con

theorem hierChecks_holds : Rows.HierChecksSaid :=
  OpenClaim.holds_of_wide 7 Try.f7 rfl rfl rfl rfl rfl rfl rfl ⟨rfl, rfl, rfl, rfl, rfl⟩ rfl rfl rfl rfl rfl (by kernel_rfl) Try.func7 (by kernel_rfl)
    (of_decide_eq_true (by kernel_rfl)) (by unfold Func.isWrapper; first | (rw [if_pos (by decide +kernel)]; kernel_rfl) | (rw [if_neg (by decide +kernel)]; exact ⟨rfl, rfl⟩))
    (fun os started H enc _ => hierChecks_lifted os started H enc)
#print axioms hierChecks_holds
end Go.Proofs.Ytdombpcfmjlnlaa
