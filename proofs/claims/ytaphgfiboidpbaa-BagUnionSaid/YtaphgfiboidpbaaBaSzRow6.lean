/- BagUnion: of any three lists: two sets together are a set, the same from either side, and with a third one in any order; the law's call returns true; conditions: those of the given statement alone. -/
import Derived.Test.YtaphgfiboidpbaaRows
import Derived.Test.YtaphgfiboidpbaaBaSzLaw
namespace Go.Proofs.Ytaphgfiboidpbaa
open Go.ChangeShapes Go.WideShapes Go.ChangeAt Go.RowKit Go.Sx
set_option linter.unusedVariables false

theorem own : ownKnob Try.prog.godebug = none := by kernel_rfl
theorem laidOut : laidOutB Try.prog = true := by kernel_rfl

theorem bagUnion_con (xs : List AV) (h : TXs Try.prog [22, 22, 22] xs) : ACalls Try.prog 6 xs [] (fun e _ => e = .ret (.v (.bool true))) := by
  obtain ⟨a, xs, rfl, ha, h⟩ := txs_one (f := fun l : List Site => .lst (l.map Site.cells)) (dec_list (e := 26) (by kernel_rfl) (by kernel_rfl) decSite) (by kernel_rfl) h
  obtain ⟨b, xs, rfl, hb, h⟩ := txs_one (f := fun l : List Site => .lst (l.map Site.cells)) (dec_list (e := 26) (by kernel_rfl) (by kernel_rfl) decSite) (by kernel_rfl) h
  obtain ⟨c, xs, rfl, hc, h⟩ := txs_one (f := fun l : List Site => .lst (l.map Site.cells)) (dec_list (e := 26) (by kernel_rfl) (by kernel_rfl) decSite) (by kernel_rfl) h
  cases h
  exact (c_bagUnion a b c ha.1 hb.1 hc.1).mono fun e H h => h.1

set_option maxRecDepth 100000 in
theorem bagUnion_lifted (os : Os) (started : os.Started) (H : Type) (enc : TypeId × Value → H) :
    ReturnsInHanded {} Try.checked os 6 .any (Rows.bagUnionSpec.pre6 enc Try.prog Try.f6 Rows.bagUnionRow.domain false) (Rows.bagUnionSpec.post enc Try.prog Try.f6 false true false false) := by
  refine returnsInHanded_of_change_sized (C := Try.checked) own started (by kernel_rfl) Try.func6
    (ChangeSpec.witness6 (enc := enc) (C := Try.checked) false ⟨#[], #[.slice none 0 0, .slice none 0 0, .slice none 0 0], []⟩ 8 (by kernel_rfl) (by kernel_rfl) (by kernel_rfl) (by kernel_rfl)) ?_
  intro W base args ds gs before hval hW hcnd hsz _
  exact law_post 12 [22, 22, 22] (by kernel_rfl) (tb := 4) (by kernel_rfl) (by kernel_rfl) rfl laidOut (by kernel_rfl) (by kernel_rfl)
    (fun ds h => match ds, h with | [a, b, c], _ => ⟨rfl, rfl, rfl⟩) hval hW hsz bagUnion_con

theorem bagUnion_holds : Rows.BagUnionSaid :=
  OpenClaim.holds_of_wide 6 Try.f6 rfl rfl rfl rfl rfl rfl rfl ⟨rfl, rfl, rfl, rfl, rfl⟩ rfl rfl rfl rfl rfl (by kernel_rfl) Try.func6 (by kernel_rfl)
    (of_decide_eq_true (by kernel_rfl)) (by unfold Func.isWrapper; first | (rw [if_pos (by decide +kernel)]; kernel_rfl) | (rw [if_neg (by decide +kernel)]; exact ⟨rfl, rfl⟩))
    (fun os started H enc _ => bagUnion_lifted os started H enc)
#print axioms bagUnion_holds
end Go.Proofs.Ytaphgfiboidpbaa
