/- JoinMerges: of any program and any two lists of facts, the given program's own merging and the reference's come to the same list, and the law's call returns true; conditions: those of the given statement alone. -/
import Derived.Test.YtkdnaiaacohfhaaRows
import Derived.Test.YtkdnaiaacohfhaaSxJ
namespace Go.Proofs.Ytkdnaiaacohfhaa
open Go.ChangeShapes Go.WideShapes Go.ChangeAt Go.RowKit Go.Sx
set_option linter.unusedVariables false

theorem own : ownKnob Try.prog.godebug = none := by kernel_rfl
theorem laidOut : laidOutB Try.prog = true := by kernel_rfl

set_option maxRecDepth 100000 in
theorem joinMerges_lifted (con : ∀ xs, TXs Try.prog [27, 28, 28] xs → ACalls Try.prog 3 xs [] (fun e _ => e = .ret (.v (.bool true)))) (os : Os) (started : os.Started) (H : Type) (enc : TypeId × Value → H) :
    ReturnsInHanded {} Try.checked os 3 .any (Rows.joinMergesSpec.pre6 enc Try.prog Try.f3 Rows.joinMergesRow.domain false) (Rows.joinMergesSpec.post enc Try.prog Try.f3 false true false false) := by
  refine returnsInHanded_of_change_sized (C := Try.checked) own started (by kernel_rfl) Try.func3
    (ChangeSpec.witness6 (enc := enc) (C := Try.checked) false ⟨#[], #[.agg #[.slice none 0 0, .slice none 0 0, .string ⟨#[]⟩, .string ⟨#[]⟩, .string ⟨#[]⟩], .slice none 0 0, .slice none 0 0], []⟩ 8 (by kernel_rfl) (by kernel_rfl) (by kernel_rfl) (by kernel_rfl)) ?_
  intro W base args ds gs before hval hW hcnd hsz _
  exact law_post 12 [27, 28, 28] (by kernel_rfl) (tb := 4) (by kernel_rfl) (by kernel_rfl) rfl laidOut (by kernel_rfl) (by kernel_rfl)
    (fun ds h => match ds, h with | [a, b, c], _ => ⟨rfl, rfl, rfl⟩) hval hW hsz con

theorem joinMerges_over (con : ∀ xs, TXs Try.prog [27, 28, 28] xs → ACalls Try.prog 3 xs [] (fun e _ => e = .ret (.v (.bool true)))) : Rows.JoinMergesSaid :=
  OpenClaim.holds_of_wide 3 Try.f3 rfl rfl rfl rfl rfl rfl rfl ⟨rfl, rfl, rfl, rfl, rfl⟩ rfl rfl rfl rfl rfl (by kernel_rfl) Try.func3 (by kernel_rfl)
    (of_decide_eq_true (by kernel_rfl)) (by unfold Func.isWrapper; first | (rw [if_pos (by decide +kernel)]; kernel_rfl) | (rw [if_neg (by decide +kernel)]; exact ⟨rfl, rfl⟩))
    (fun os started H enc _ => joinMerges_lifted con os started H enc)

theorem joinMerges_con (xs : List AV) (h : TXs Try.prog [27, 28, 28] xs) : ACalls Try.prog 3 xs [] (fun e _ => e = .ret (.v (.bool true))) := by
  obtain ⟨p, xs, rfl, hp, h⟩ := txs_agg dec27 (by kernel_rfl) h
  obtain ⟨a, xs, rfl, ha, h⟩ := txs_one (f := fun l : List Fact => .lst (l.map Fact.cells)) (dec_list (e := 36) (by kernel_rfl) (by kernel_rfl) dec36) (by kernel_rfl) h
  obtain ⟨b, xs, rfl, hb, h⟩ := txs_one (f := fun l : List Fact => .lst (l.map Fact.cells)) (dec_list (e := 36) (by kernel_rfl) (by kernel_rfl) dec36) (by kernel_rfl) h
  cases h
  exact (c_joinMerges p hp a b).mono fun e H h => h.1
theorem joinMerges_holds : Rows.JoinMergesSaid := joinMerges_over joinMerges_con
#print axioms joinMerges_holds
end Go.Proofs.Ytkdnaiaacohfhaa
