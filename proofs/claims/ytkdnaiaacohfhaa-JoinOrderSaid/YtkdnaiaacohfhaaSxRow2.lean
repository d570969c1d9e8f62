/- JoinOrder: of any program, any three facts and any three classes: where nothing is wrong with the program's classes, it does not matter which two of three facts are joined first; the law's call returns true; conditions: those of the given statement alone. -/
import Derived.Test.YtkdnaiaacohfhaaRows
import Derived.Test.YtkdnaiaacohfhaaSxL
namespace Go.Proofs.Ytkdnaiaacohfhaa
open Go.ChangeShapes Go.WideShapes Go.ChangeAt Go.RowKit Go.Sx
set_option linter.unusedVariables false

theorem own : ownKnob Try.prog.godebug = none := by kernel_rfl
theorem laidOut : laidOutB Try.prog = true := by kernel_rfl

theorem joinOrder_con (xs : List AV) (h : TXs Try.prog [27, 42, 43] xs) : ACalls Try.prog 5 xs [] (fun e _ => e = .ret (.v (.bool true))) := by
  obtain ⟨p, xs, rfl, hp, h⟩ := txs_agg dec27 (by kernel_rfl) h
  obtain ⟨⟨a, b, c⟩, xs, rfl, _, h⟩ := txs_agg (dec_arr3 (e := 36) (by kernel_rfl) (dec36)) (by kernel_rfl) h
  obtain ⟨⟨k, l, m⟩, xs, rfl, hk, h⟩ := txs_agg (dec_arr3 (e := 5) (by kernel_rfl) (dec_u8 (by kernel_rfl))) (by kernel_rfl) h
  cases h
  exact (c_joinOrder p hp a b c k l m hk.1 hk.2.1 hk.2.2).mono fun e H h => h.1

set_option maxRecDepth 100000 in
theorem joinOrder_lifted (os : Os) (started : os.Started) (H : Type) (enc : TypeId × Value → H) :
    ReturnsInHanded {} Try.checked os 5 .any (Rows.joinOrderSpec.pre6 enc Try.prog Try.f5 Rows.joinOrderRow.domain false) (Rows.joinOrderSpec.post enc Try.prog Try.f5 false true false false) := by
  refine returnsInHanded_of_change_sized (C := Try.checked) own started (by kernel_rfl) Try.func5
    (ChangeSpec.witness6 (enc := enc) (C := Try.checked) false ⟨#[], #[.agg #[.slice none 0 0, .slice none 0 0, .string ⟨#[]⟩, .string ⟨#[]⟩, .string ⟨#[]⟩], .agg #[.int .i64 0, .string ⟨#[]⟩, .int .i64 0, .string ⟨#[]⟩, .int .i64 0, .string ⟨#[]⟩], .agg #[.int .u8 0, .int .u8 0, .int .u8 0]], []⟩ 8 (by kernel_rfl) (by kernel_rfl) (by kernel_rfl) (by kernel_rfl)) ?_
  intro W base args ds gs before hval hW hcnd hsz _
  exact law_post 12 [27, 42, 43] (by kernel_rfl) (tb := 4) (by kernel_rfl) (by kernel_rfl) rfl laidOut (by kernel_rfl) (by kernel_rfl)
    (fun ds h => match ds, h with | [a, b, c], _ => ⟨rfl, rfl, rfl⟩) hval hW hsz joinOrder_con

theorem joinOrder_holds : Rows.JoinOrderSaid :=
  OpenClaim.holds_of_wide 5 Try.f5 rfl rfl rfl rfl rfl rfl rfl ⟨rfl, rfl, rfl, rfl, rfl⟩ rfl rfl rfl rfl rfl (by kernel_rfl) Try.func5 (by kernel_rfl)
    (of_decide_eq_true (by kernel_rfl)) (by unfold Func.isWrapper; first | (rw [if_pos (by decide +kernel)]; kernel_rfl) | (rw [if_neg (by decide +kernel)]; exact ⟨rfl, rfl⟩))
    (fun os started H enc _ => joinOrder_lifted os started H enc)
#print axioms joinOrder_holds
end Go.Proofs.Ytkdnaiaacohfhaa
