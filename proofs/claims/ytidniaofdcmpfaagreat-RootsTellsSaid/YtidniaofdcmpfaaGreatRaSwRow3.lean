/- RootsTells: of any program, and two lists of rules: the exact rules of the reference's roots, whether two are the same, or one within the other, are the reference's; the law's call returns true; conditions: those of the given statement alone. -/
import Derived.Test.YtidniaofdcmpfaaGreatRows
import Derived.Test.YtidniaofdcmpfaaGreatRaB6
set_option linter.unusedVariables false
set_option linter.unusedSimpArgs false
set_option linter.unusedSectionVars false
set_option linter.unnecessarySimpa false
namespace Go.Proofs.YtidniaofdcmpfaaGreat
open Go.ChangeShapes Go.WideShapes Go.ChangeAt Go.RowKit Go.Sx
theorem own : ownKnob Tryz.prog.godebug = none := by kernel_rfl
theorem laidOut : laidOutB Tryz.prog = true := by kernel_rfl
theorem decRule : Dec Tryz.prog 63 Rule.cells Rule.ok := dec_Rule (b := 4) (s := 9) (by kernel_rfl) (by kernel_rfl) (by kernel_rfl)
theorem rootsTells_con (xs : List AV) (h : TXs Tryz.prog [27, 28, 28] xs) : ACalls Tryz.prog 3 xs [] (fun e _ => e = .ret (.v (.bool true))) := by
 obtain ⟨p, xs, rfl, hp, h⟩ := txs_agg dec27 (by kernel_rfl) h
 obtain ⟨l, xs, rfl, hl, h⟩ := txs_one (f := fun l : List Rule => .lst (l.map Rule.cells)) (dec_list (e := 63) (by kernel_rfl) (by kernel_rfl) decRule) (by kernel_rfl) h
 obtain ⟨m, xs, rfl, hm, h⟩ := txs_one (f := fun l : List Rule => .lst (l.map Rule.cells)) (dec_list (e := 63) (by kernel_rfl) (by kernel_rfl) decRule) (by kernel_rfl) h
 cases h
 exact (c_rootsTells p hp l m hl.1 hm.1).mono fun e H h => h.1
set_option maxRecDepth 100000 in
theorem rootsTells_lifted (os : Os) (started : os.Started) (H : Type) (enc : TypeId × Value → H) :
  ReturnsInHanded {} Tryz.checked os 3 .any (Rows.rootsTellsSpec.pre6 enc Tryz.prog Tryz.f3 Rows.rootsTellsRow.domain false) (Rows.rootsTellsSpec.post enc Tryz.prog Tryz.f3 false true false false) := by
 refine returnsInHanded_of_change_sized (C := Tryz.checked) own started (by kernel_rfl) Tryz.func3
  (ChangeSpec.witness6 (enc := enc) (C := Tryz.checked) false ⟨#[], #[.agg #[.slice none 0 0, .slice none 0 0, .string ⟨#[]⟩, .string ⟨#[]⟩, .string ⟨#[]⟩], .slice none 0 0, .slice none 0 0], []⟩ 8 (by kernel_rfl) (by kernel_rfl) (by kernel_rfl) (by kernel_rfl)) ?_
 intro W base args ds gs before hval hW hcnd hsz _
 exact law_post 12 [27, 28, 28] (by kernel_rfl) (tb := 4) (by kernel_rfl) (by kernel_rfl) rfl laidOut (by kernel_rfl) (by kernel_rfl)
  (fun ds h => match ds, h with | [a, b, c], _ => ⟨rfl, rfl, rfl⟩) hval hW hsz rootsTells_con
theorem rootsTells_holds : Rows.RootsTellsSaid :=
 OpenClaim.holds_of_wide 3 Tryz.f3 rfl rfl rfl rfl rfl rfl rfl ⟨rfl, rfl, rfl, rfl, rfl⟩ rfl rfl rfl rfl rfl (by kernel_rfl) Tryz.func3 (by kernel_rfl)
  (of_decide_eq_true (by kernel_rfl)) (by unfold Func.isWrapper; first | (rw [if_pos (by decide +kernel)]; kernel_rfl) | (rw [if_neg (by decide +kernel)]; exact ⟨rfl, rfl⟩))
  (fun os started H enc _ => rootsTells_lifted os started H enc)
#print axioms rootsTells_holds
end Go.Proofs.YtidniaofdcmpfaaGreat
