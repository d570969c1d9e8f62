/- BagOnly: of any program, sites, and a class: those of the set whose classes are below it are the reference's; the law's call returns true; conditions: those of the given statement alone. -/
import Derived.Test.YtaphgfiboidpbaaRows
import Derived.Test.YtaphgfiboidpbaaBaSzLaw
namespace Go.Proofs.Ytaphgfiboidpbaa
open Go.ChangeShapes Go.WideShapes Go.ChangeAt Go.RowKit Go.Sx
set_option linter.unusedVariables false

theorem own : ownKnob Try.prog.godebug = none := by kernel_rfl
theorem laidOut : laidOutB Try.prog = true := by kernel_rfl

theorem bagOnly_con (xs : List AV) (h : TXs Try.prog [39, 22, 5] xs) : ACalls Try.prog 4 xs [] (fun e _ => e = .ret (.v (.bool true))) := by
  obtain ⟨p, xs, rfl, hp, h⟩ := txs_agg dec39 (by kernel_rfl) h
  obtain ⟨l, xs, rfl, hl, h⟩ := txs_one (f := fun l : List Site => .lst (l.map Site.cells)) (dec_list (e := 26) (by kernel_rfl) (by kernel_rfl) decSite) (by kernel_rfl) h
  obtain ⟨k, xs, rfl, hk, h⟩ := txs_one (f := fun n : Int => uA n) (dec_u8 (by kernel_rfl)) (by kernel_rfl) h
  cases h
  exact (c_bagOnly p hp l hl.1 k hk).mono fun e H h => h.1

set_option maxRecDepth 100000 in
theorem bagOnly_lifted (os : Os) (started : os.Started) (H : Type) (enc : TypeId × Value → H) :
    ReturnsInHanded {} Try.checked os 4 .any (Rows.bagOnlySpec.pre6 enc Try.prog Try.f4 Rows.bagOnlyRow.domain false) (Rows.bagOnlySpec.post enc Try.prog Try.f4 false true false false) := by
  refine returnsInHanded_of_change_sized (C := Try.checked) own started (by kernel_rfl) Try.func4
    (ChangeSpec.witness6 (enc := enc) (C := Try.checked) false ⟨#[], #[.agg #[.slice none 0 0, .slice none 0 0, .string ⟨#[]⟩, .string ⟨#[]⟩, .string ⟨#[]⟩], .slice none 0 0, .int .u8 0], []⟩ 8 (by kernel_rfl) (by kernel_rfl) (by kernel_rfl) (by kernel_rfl)) ?_
  intro W base args ds gs before hval hW hcnd hsz _
  exact law_post 12 [39, 22, 5] (by kernel_rfl) (tb := 4) (by kernel_rfl) (by kernel_rfl) rfl laidOut (by kernel_rfl) (by kernel_rfl)
    (fun ds h => match ds, h with | [a, b, c], _ => ⟨rfl, rfl, rfl⟩) hval hW hsz bagOnly_con

theorem bagOnly_holds : Rows.BagOnlySaid :=
  OpenClaim.holds_of_wide 4 Try.f4 rfl rfl rfl rfl rfl rfl rfl ⟨rfl, rfl, rfl, rfl, rfl⟩ rfl rfl rfl rfl rfl (by kernel_rfl) Try.func4 (by kernel_rfl)
    (of_decide_eq_true (by kernel_rfl)) (by unfold Func.isWrapper; first | (rw [if_pos (by decide +kernel)]; kernel_rfl) | (rw [if_neg (by decide +kernel)]; exact ⟨rfl, rfl⟩))
    (fun os started H enc _ => bagOnly_lifted os started H enc)
#print axioms bagOnly_holds
end Go.Proofs.Ytaphgfiboidpbaa
