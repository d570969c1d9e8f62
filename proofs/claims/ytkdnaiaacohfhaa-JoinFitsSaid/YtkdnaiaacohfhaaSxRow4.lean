/- JoinFits: of any program, any two facts, any type and any three classes: where nothing is wrong with the program's classes, what is below a fact that fits a type fits it; the law's call returns true; conditions: those of the given statement alone. -/
import Derived.Test.YtkdnaiaacohfhaaRows
import Derived.Test.YtkdnaiaacohfhaaSxL
namespace Go.Proofs.Ytkdnaiaacohfhaa
open Go.ChangeShapes Go.WideShapes Go.ChangeAt Go.RowKit Go.Sx
set_option linter.unusedVariables false

theorem own : ownKnob Try.prog.godebug = none := by kernel_rfl
theorem laidOut : laidOutB Try.prog = true := by kernel_rfl

theorem joinFits_con (xs : List AV) (h : TXs Try.prog [27, 50, 43] xs) : ACalls Try.prog 7 xs [] (fun e _ => e = .ret (.v (.bool true))) := by
  obtain ⟨p, xs, rfl, hp, h⟩ := txs_agg dec27 (by kernel_rfl) h
  obtain ⟨⟨⟨a, b⟩, t⟩, xs, rfl, _, h⟩ := txs_agg (dec_two (a := 37) (b := 48) (by kernel_rfl) (dec_arr2 (e := 36) (by kernel_rfl) dec36) dec48) (by kernel_rfl) h
  obtain ⟨⟨k, l, m⟩, xs, rfl, hk, h⟩ := txs_agg (dec_arr3 (e := 5) (by kernel_rfl) (dec_u8 (by kernel_rfl))) (by kernel_rfl) h
  cases h
  exact (c_joinFits p hp a b t k l m hk.1 hk.2.1 hk.2.2).mono fun e H h => h.1

set_option maxRecDepth 100000 in
theorem joinFits_lifted (os : Os) (started : os.Started) (H : Type) (enc : TypeId × Value → H) :
    ReturnsInHanded {} Try.checked os 7 .any (Rows.joinFitsSpec.pre6 enc Try.prog Try.f7 Rows.joinFitsRow.domain false) (Rows.joinFitsSpec.post enc Try.prog Try.f7 false true false false) := by
  refine returnsInHanded_of_change_sized (C := Try.checked) own started (by kernel_rfl) Try.func7
    (ChangeSpec.witness6 (enc := enc) (C := Try.checked) false ⟨#[], #[.agg #[.slice none 0 0, .slice none 0 0, .string ⟨#[]⟩, .string ⟨#[]⟩, .string ⟨#[]⟩], .agg #[.int .i64 0, .string ⟨#[]⟩, .int .i64 0, .string ⟨#[]⟩, .int .i64 0, .string ⟨#[]⟩], .agg #[.int .u8 0, .int .u8 0, .int .u8 0]], []⟩ 8 (by kernel_rfl) (by kernel_rfl) (by kernel_rfl) (by kernel_rfl)) ?_
  intro W base args ds gs before hval hW hcnd hsz _
  exact law_post 12 [27, 50, 43] (by kernel_rfl) (tb := 4) (by kernel_rfl) (by kernel_rfl) rfl laidOut (by kernel_rfl) (by kernel_rfl)
    (fun ds h => match ds, h with | [a, b, c], _ => ⟨rfl, rfl, rfl⟩) hval hW hsz joinFits_con

theorem joinFits_holds : Rows.JoinFitsSaid :=
  OpenClaim.holds_of_wide 7 Try.f7 rfl rfl rfl rfl rfl rfl rfl ⟨rfl, rfl, rfl, rfl, rfl⟩ rfl rfl rfl rfl rfl (by kernel_rfl) Try.func7 (by kernel_rfl)
    (of_decide_eq_true (by kernel_rfl)) (by unfold Func.isWrapper; first | (rw [if_pos (by decide +kernel)]; kernel_rfl) | (rw [if_neg (by decide +kernel)]; exact ⟨rfl, rfl⟩))
    (fun os started H enc _ => joinFits_lifted os started H enc)
#print axioms joinFits_holds
end Go.Proofs.Ytkdnaiaacohfhaa
