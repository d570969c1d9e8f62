/- PoolBack: of any texts and any bytes: a pool that is written is read as it was; what is read is written so; the law's call returns true; conditions: those of the given statement alone. -/
import Derived.Test.YtecfpjokgjdjcaaRows
import Derived.Test.YtecfpjokgjdjcaaRaB5
set_option linter.unusedVariables false
set_option linter.unusedSimpArgs false
set_option linter.unusedSectionVars false
set_option linter.unnecessarySimpa false
namespace Go.Proofs.Ytecfpjokgjdjcaa
open Go.ChangeShapes Go.WideShapes Go.ChangeAt Go.RowKit Go.Sx
theorem own : ownKnob Try.prog.godebug = none := by kernel_rfl
theorem laidOut : laidOutB Try.prog = true := by kernel_rfl
theorem poolBack_con (xs : List AV) (h : TXs Try.prog [23, 33] xs) : ACalls Try.prog 5 xs [] (fun e _ => e = .ret (.v (.bool true))) := by
 obtain ⟨l, xs, rfl, hl, h⟩ := txs_one (f := fun l : List Str => row1 sA l) (dec_list (e := 9) (by kernel_rfl) (by kernel_rfl) (dec_str (by kernel_rfl))) (by kernel_rfl) h
 obtain ⟨b, xs, rfl, hb, h⟩ := txs_one (f := fun l : List Nat => row1 oA l) (dec_list (e := 5) (by kernel_rfl) (by kernel_rfl) (dec_u8n (by kernel_rfl))) (by kernel_rfl) h
 cases h
 exact (c_poolBack l hl.1 b hb.2 hb.1).mono fun e H h => h.1
set_option maxRecDepth 100000 in
theorem poolBack_lifted (os : Os) (started : os.Started) (H : Type) (enc : TypeId × Value → H) :
  ReturnsInHanded {} Try.checked os 5 .any (Rows.poolBackSpec.pre6 enc Try.prog Try.f5 Rows.poolBackRow.domain false) (Rows.poolBackSpec.post enc Try.prog Try.f5 false true false false) := by
 refine returnsInHanded_of_change_sized (C := Try.checked) own started (by kernel_rfl) Try.func5
  (ChangeSpec.witness6 (enc := enc) (C := Try.checked) false ⟨#[], #[.slice none 0 0, .slice none 0 0], []⟩ 8 (by kernel_rfl) (by kernel_rfl) (by kernel_rfl) (by kernel_rfl)) ?_
 intro W base args ds gs before hval hW hcnd hsz _
 exact law_post 12 [23, 33] (by kernel_rfl) (tb := 4) (by kernel_rfl) (by kernel_rfl) rfl laidOut (by kernel_rfl) (by kernel_rfl)
  (fun ds h => match ds, h with | [a, b], _ => ⟨rfl, rfl, rfl⟩) hval hW hsz poolBack_con
theorem poolBack_holds : Rows.PoolBackSaid :=
 OpenClaim.holds_of_wide 5 Try.f5 rfl rfl rfl rfl rfl rfl rfl ⟨rfl, rfl, rfl, rfl, rfl⟩ rfl rfl rfl rfl rfl (by kernel_rfl) Try.func5 (by kernel_rfl)
  (of_decide_eq_true (by kernel_rfl)) (by unfold Func.isWrapper; first | (rw [if_pos (by decide +kernel)]; kernel_rfl) | (rw [if_neg (by decide +kernel)]; exact ⟨rfl, rfl⟩))
  (fun os started H enc _ => poolBack_lifted os started H enc)
#print axioms poolBack_holds
end Go.Proofs.Ytecfpjokgjdjcaa
