/- StoreNone: of any act and any type: a store that is not there answers every call as the law says; the law's call returns true; conditions: those of the given statement alone. -/
import Derived.Test.YtcadlppohbngnaaRows
import Derived.Test.YtcadlppohbngnaaRaB3
set_option linter.unusedVariables false
set_option linter.unusedSimpArgs false
set_option linter.unusedSectionVars false
set_option linter.unnecessarySimpa false
namespace Go.Proofs.Ytcadlppohbngnaa
open Go.ChangeShapes Go.WideShapes Go.ChangeAt Go.RowKit Go.Sx
theorem own : ownKnob Try.prog.godebug = none := by kernel_rfl
theorem laidOut : laidOutB Try.prog = true := by kernel_rfl
theorem storeNone_con (xs : List AV) (h : TXs Try.prog [39, 29] xs) : ACalls Try.prog 4 xs [] (fun e _ => e = .ret (.v (.bool true))) := by
 obtain ⟨a, xs, rfl, _, h⟩ := txs_agg decAct (by kernel_rfl) h
 obtain ⟨u, xs, rfl, _, h⟩ := txs_agg dec29 (by kernel_rfl) h
 cases h
 exact (c_storeNone a u).mono fun e H h => h.1
set_option maxRecDepth 100000 in
theorem storeNone_lifted (os : Os) (started : os.Started) (H : Type) (enc : TypeId × Value → H) :
  ReturnsInHanded {} Try.checked os 4 .any (Rows.storeNoneSpec.pre6 enc Try.prog Try.f4 Rows.storeNoneRow.domain false) (Rows.storeNoneSpec.post enc Try.prog Try.f4 false true false false) := by
 refine returnsInHanded_of_change_sized (C := Try.checked) own started (by kernel_rfl) Try.func4
  (ChangeSpec.witness6 (enc := enc) (C := Try.checked) false ⟨#[], #[.agg #[.int .i64 0, .int .u8 0, .int .i64 0, .int .i64 0, .string ⟨#[]⟩, .string ⟨#[]⟩, .int .i64 0, .int .i64 0, .int .i64 0, .string ⟨#[]⟩], .agg #[.int .i64 0, .string ⟨#[]⟩]], []⟩ 8 (by kernel_rfl) (by kernel_rfl) (by kernel_rfl) (by kernel_rfl)) ?_
 intro W base args ds gs before hval hW hcnd hsz _
 exact law_post 12 [39, 29] (by kernel_rfl) (tb := 4) (by kernel_rfl) (by kernel_rfl) rfl laidOut (by kernel_rfl) (by kernel_rfl)
  (fun ds h => match ds, h with | [a, b], _ => ⟨rfl, rfl, rfl⟩) hval hW hsz storeNone_con
theorem storeNone_holds : Rows.StoreNoneSaid :=
 OpenClaim.holds_of_wide 4 Try.f4 rfl rfl rfl rfl rfl rfl rfl ⟨rfl, rfl, rfl, rfl, rfl⟩ rfl rfl rfl rfl rfl (by kernel_rfl) Try.func4 (by kernel_rfl)
  (of_decide_eq_true (by kernel_rfl)) (by unfold Func.isWrapper; first | (rw [if_pos (by decide +kernel)]; kernel_rfl) | (rw [if_neg (by decide +kernel)]; exact ⟨rfl, rfl⟩))
  (fun os started H enc _ => storeNone_lifted os started H enc)
#print axioms storeNone_holds
end Go.Proofs.Ytcadlppohbngnaa
