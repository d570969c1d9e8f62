/- TopTypes: of any types and any other texts: a type's text, found in a pool that was written and read, is the type's; the law's call returns true; conditions: those of the given statement alone. -/
import Derived.Test.YtecfpjokgjdjcaaRows
import Derived.Test.YtecfpjokgjdjcaaRaB5
set_option linter.unusedVariables false
set_option linter.unusedSimpArgs false
set_option linter.unusedSectionVars false
set_option linter.unnecessarySimpa false
namespace Go.Proofs.Ytecfpjokgjdjcaa
open Go.ChangeShapes Go.WideShapes Go.ChangeAt Go.RowKit Go.Sx
theorem own : ownKnob Try.prog.godebug = none := by kernel_rfl
theorem laidOut : laidOutB Try.prog = true := by kernel_rfl
theorem topTypes_con (xs : List AV) (h : TXs Try.prog [22, 23] xs) : ACalls Try.prog 3 xs [] (fun e _ => e = .ret (.v (.bool true))) := by
 obtain ⟨l, xs, rfl, hl, h⟩ := txs_one (f := fun l : List Ty => AV.lst (l.map Ty.cells)) (dec_list (e := 27) (by kernel_rfl) (by kernel_rfl) dec27) (by kernel_rfl) h
 obtain ⟨m, xs, rfl, hm, h⟩ := txs_one (f := fun l : List Str => row1 sA l) (dec_list (e := 9) (by kernel_rfl) (by kernel_rfl) (dec_str (by kernel_rfl))) (by kernel_rfl) h
 cases h
 exact (c_topTypes l hl.1 (fun t ht => (hl.2 t ht).cls) m hm.1).mono fun e H h => h.1
set_option maxRecDepth 100000 in
theorem topTypes_lifted (os : Os) (started : os.Started) (H : Type) (enc : TypeId × Value → H) :
  ReturnsInHanded {} Try.checked os 3 .any (Rows.topTypesSpec.pre6 enc Try.prog Try.f3 Rows.topTypesRow.domain false) (Rows.topTypesSpec.post enc Try.prog Try.f3 false true false false) := by
 refine returnsInHanded_of_change_sized (C := Try.checked) own started (by kernel_rfl) Try.func3
  (ChangeSpec.witness6 (enc := enc) (C := Try.checked) false ⟨#[], #[.slice none 0 0, .slice none 0 0], []⟩ 8 (by kernel_rfl) (by kernel_rfl) (by kernel_rfl) (by kernel_rfl)) ?_
 intro W base args ds gs before hval hW hcnd hsz _
 exact law_post 12 [22, 23] (by kernel_rfl) (tb := 4) (by kernel_rfl) (by kernel_rfl) rfl laidOut (by kernel_rfl) (by kernel_rfl)
  (fun ds h => match ds, h with | [a, b], _ => ⟨rfl, rfl, rfl⟩) hval hW hsz topTypes_con
theorem topTypes_holds : Rows.TopTypesSaid :=
 OpenClaim.holds_of_wide 3 Try.f3 rfl rfl rfl rfl rfl rfl rfl ⟨rfl, rfl, rfl, rfl, rfl⟩ rfl rfl rfl rfl rfl (by kernel_rfl) Try.func3 (by kernel_rfl)
  (of_decide_eq_true (by kernel_rfl)) (by unfold Func.isWrapper; first | (rw [if_pos (by decide +kernel)]; kernel_rfl) | (rw [if_neg (by decide +kernel)]; exact ⟨rfl, rfl⟩))
  (fun os started H enc _ => topTypes_lifted os started H enc)
#print axioms topTypes_holds
end Go.Proofs.Ytecfpjokgjdjcaa
