/- BagOrder: of any three sites and places: which stands ahead of which is the reference's, 0 where they are alike and nowhere else, the other way round from the other side, and on to a third one; the law's call returns true; conditions: those of the given statement alone. -/
import Derived.Test.YtaphgfiboidpbaaRows
import Derived.Test.YtaphgfiboidpbaaBaSzLaw
namespace Go.Proofs.Ytaphgfiboidpbaa
open Go.ChangeShapes Go.WideShapes Go.ChangeAt Go.RowKit Go.Sx
set_option linter.unusedVariables false

theorem own : ownKnob Try.prog.godebug = none := by kernel_rfl
theorem laidOut : laidOutB Try.prog = true := by kernel_rfl

theorem bagOrder_con (xs : List AV) (h : TXs Try.prog [47, 53] xs) : ACalls Try.prog 5 xs [] (fun e _ => e = .ret (.v (.bool true))) := by
  obtain ⟨⟨a, b, c⟩, xs, rfl, _, h⟩ := txs_agg (dec_arr3 (e := 26) (by kernel_rfl) decSite) (by kernel_rfl) h
  obtain ⟨⟨x, y, z⟩, xs, rfl, _, h⟩ := txs_agg (dec_arr3 (e := 52) (by kernel_rfl) decPlace) (by kernel_rfl) h
  cases h
  exact (c_bagOrder a b c x y z).mono fun e H h => h.1

set_option maxRecDepth 100000 in
theorem bagOrder_lifted (os : Os) (started : os.Started) (H : Type) (enc : TypeId × Value → H) :
    ReturnsInHanded {} Try.checked os 5 .any (Rows.bagOrderSpec.pre6 enc Try.prog Try.f5 Rows.bagOrderRow.domain false) (Rows.bagOrderSpec.post enc Try.prog Try.f5 false true false false) := by
  refine returnsInHanded_of_change_sized (C := Try.checked) own started (by kernel_rfl) Try.func5
    (ChangeSpec.witness6 (enc := enc) (C := Try.checked) false ⟨#[], #[.agg #[.string ⟨#[]⟩, .string ⟨#[]⟩, .string ⟨#[]⟩, .int .i64 0, .string ⟨#[]⟩, .string ⟨#[]⟩, .string ⟨#[]⟩, .string ⟨#[]⟩, .int .i64 0, .string ⟨#[]⟩, .string ⟨#[]⟩, .string ⟨#[]⟩, .string ⟨#[]⟩, .int .i64 0, .string ⟨#[]⟩], .agg #[.int .i64 0, .string ⟨#[]⟩, .string ⟨#[]⟩, .string ⟨#[]⟩, .int .i64 0, .string ⟨#[]⟩, .string ⟨#[]⟩, .string ⟨#[]⟩, .string ⟨#[]⟩, .string ⟨#[]⟩, .int .i64 0, .string ⟨#[]⟩, .int .i64 0, .string ⟨#[]⟩, .string ⟨#[]⟩, .string ⟨#[]⟩, .int .i64 0, .string ⟨#[]⟩, .string ⟨#[]⟩, .string ⟨#[]⟩, .string ⟨#[]⟩, .string ⟨#[]⟩, .int .i64 0, .string ⟨#[]⟩, .int .i64 0, .string ⟨#[]⟩, .string ⟨#[]⟩, .string ⟨#[]⟩, .int .i64 0, .string ⟨#[]⟩, .string ⟨#[]⟩, .string ⟨#[]⟩, .string ⟨#[]⟩, .string ⟨#[]⟩, .int .i64 0, .string ⟨#[]⟩]], []⟩ 8 (by kernel_rfl) (by kernel_rfl) (by kernel_rfl) (by kernel_rfl)) ?_
  intro W base args ds gs before hval hW hcnd hsz _
  exact law_post 12 [47, 53] (by kernel_rfl) (tb := 4) (by kernel_rfl) (by kernel_rfl) rfl laidOut (by kernel_rfl) (by kernel_rfl)
    (fun ds h => match ds, h with | [a, b], _ => ⟨rfl, rfl, rfl⟩) hval hW hsz bagOrder_con

theorem bagOrder_holds : Rows.BagOrderSaid :=
  OpenClaim.holds_of_wide 5 Try.f5 rfl rfl rfl rfl rfl rfl rfl ⟨rfl, rfl, rfl, rfl, rfl⟩ rfl rfl rfl rfl rfl (by kernel_rfl) Try.func5 (by kernel_rfl)
    (of_decide_eq_true (by kernel_rfl)) (by unfold Func.isWrapper; first | (rw [if_pos (by decide +kernel)]; kernel_rfl) | (rw [if_neg (by decide +kernel)]; exact ⟨rfl, rfl⟩))
    (fun os started H enc _ => bagOrder_lifted os started H enc)
#print axioms bagOrder_holds
end Go.Proofs.Ytaphgfiboidpbaa
