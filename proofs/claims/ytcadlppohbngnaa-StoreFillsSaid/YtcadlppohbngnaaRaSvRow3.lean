/- StoreFills: of every number of elements: there is room for just so many objects, numbered one behind the other; the law's call returns true; conditions: those of the given statement alone. -/
import Derived.Test.YtcadlppohbngnaaRows
import Derived.Test.YtcadlppohbngnaaRaB4
set_option linter.unusedVariables false
set_option linter.unusedSimpArgs false
set_option linter.unusedSectionVars false
set_option linter.unnecessarySimpa false
namespace Go.Proofs.Ytcadlppohbngnaa
open Go.ChangeShapes Go.WideShapes Go.ChangeAt Go.RowKit Go.Sx
theorem own : ownKnob Try.prog.godebug = none := by kernel_rfl
theorem laidOut : laidOutB Try.prog = true := by kernel_rfl
theorem storeFills_con (xs : List AV) (h : TXs Try.prog [5] xs) : ACalls Try.prog 3 xs [] (fun e _ => e = .ret (.v (.bool true))) := by
 obtain ⟨k, xs, rfl, hk, h⟩ := txs_one (f := fun n : Nat => uA n) (dec_u8n (by kernel_rfl)) (by kernel_rfl) h
 cases h
 exact (c_fill (k : Int) (k % 4) (by omega) (by rw [Int.tmod_eq_emod_of_nonneg (by omega)]; omega)).mono fun e H h => h.1
set_option maxRecDepth 100000 in
theorem storeFills_lifted (os : Os) (started : os.Started) (H : Type) (enc : TypeId × Value → H) :
  ReturnsInHanded {} Try.checked os 3 .any (Rows.storeFillsSpec.pre6 enc Try.prog Try.f3 Rows.storeFillsRow.domain false) (Rows.storeFillsSpec.post enc Try.prog Try.f3 false true false false) := by
 refine returnsInHanded_of_change_sized (C := Try.checked) own started (by kernel_rfl) Try.func3
  (ChangeSpec.witness6 (enc := enc) (C := Try.checked) false ⟨#[], #[.int .u8 0], []⟩ 8 (by kernel_rfl) (by kernel_rfl) (by kernel_rfl) (by kernel_rfl)) ?_
 intro W base args ds gs before hval hW hcnd hsz _
 exact law_post 12 [5] (by kernel_rfl) (tb := 4) (by kernel_rfl) (by kernel_rfl) rfl laidOut (by kernel_rfl) (by kernel_rfl)
  (fun ds h => match ds, h with | [a], _ => ⟨rfl, rfl, rfl⟩) hval hW hsz storeFills_con
theorem storeFills_holds : Rows.StoreFillsSaid :=
 OpenClaim.holds_of_wide 3 Try.f3 rfl rfl rfl rfl rfl rfl rfl ⟨rfl, rfl, rfl, rfl, rfl⟩ rfl rfl rfl rfl rfl (by kernel_rfl) Try.func3 (by kernel_rfl)
  (of_decide_eq_true (by kernel_rfl)) (by unfold Func.isWrapper; first | (rw [if_pos (by decide +kernel)]; kernel_rfl) | (rw [if_neg (by decide +kernel)]; exact ⟨rfl, rfl⟩))
  (fun os started H enc _ => storeFills_lifted os started H enc)
#print axioms storeFills_holds
end Go.Proofs.Ytcadlppohbngnaa
