/- PoolMakes: of any texts: the pool of any strings, whether any are one, where a string stands, and two together, are the reference's; the law's call returns true; conditions: those of the given statement alone. -/
import Derived.Test.YtdombpcfmjlnlaaRows
import Derived.Test.YtdombpcfmjlnlaaSyLaw5c
namespace Go.Proofs.Ytdombpcfmjlnlaa
open Go.ChangeShapes Go.WideShapes Go.ChangeAt Go.RowKit Go.Sx
set_option linter.unusedVariables false

theorem own : ownKnob Try.prog.godebug = none := by kernel_rfl
theorem laidOut : laidOutB Try.prog = true := by kernel_rfl

theorem poolMakes_con (xs : List AV) (h : TXs Try.prog [22, 22, 9] xs) : ACalls Try.prog 5 xs [] (fun e _ => e = .ret (.v (.bool true))) := by
  obtain ⟨a, xs, rfl, ha, h⟩ := txs_one (f := fun l : List Str => row1 sA l) (dec_list (e := 9) (by kernel_rfl) (by kernel_rfl) (dec_str (by kernel_rfl))) (by kernel_rfl) h
  obtain ⟨b, xs, rfl, hb, h⟩ := txs_one (f := fun l : List Str => row1 sA l) (dec_list (e := 9) (by kernel_rfl) (by kernel_rfl) (dec_str (by kernel_rfl))) (by kernel_rfl) h
  obtain ⟨s, xs, rfl, hs, h⟩ := txs_one (f := sA) (dec_str (by kernel_rfl)) (by kernel_rfl) h
  cases h
  exact (c_poolMakes a ha.1 b hb.1 s).mono fun e H h => h.1

set_option maxRecDepth 100000 in
theorem poolMakes_lifted (os : Os) (started : os.Started) (H : Type) (enc : TypeId × Value → H) :
    ReturnsInHanded {} Try.checked os 5 .any (Rows.poolMakesSpec.pre6 enc Try.prog Try.f5 Rows.poolMakesRow.domain false) (Rows.poolMakesSpec.post enc Try.prog Try.f5 false true false false) := by
  refine returnsInHanded_of_change_sized (C := Try.checked) own started (by kernel_rfl) Try.func5
    (ChangeSpec.witness6 (enc := enc) (C := Try.checked) false ⟨#[], #[.slice none 0 0, .slice none 0 0, .string ⟨#[]⟩], []⟩ 8 (by kernel_rfl) (by kernel_rfl) (by kernel_rfl) (by kernel_rfl)) ?_
  intro W base args ds gs before hval hW hcnd hsz _
  exact law_post 12 [22, 22, 9] (by kernel_rfl) (tb := 4) (by kernel_rfl) (by kernel_rfl) rfl laidOut (by kernel_rfl) (by kernel_rfl)
    (fun ds h => match ds, h with | [a, b, c], _ => ⟨rfl, rfl, rfl⟩) hval hW hsz poolMakes_con

theorem poolMakes_holds : Rows.PoolMakesSaid :=
  OpenClaim.holds_of_wide 5 Try.f5 rfl rfl rfl rfl rfl rfl rfl ⟨rfl, rfl, rfl, rfl, rfl⟩ rfl rfl rfl rfl rfl (by kernel_rfl) Try.func5 (by kernel_rfl)
    (of_decide_eq_true (by kernel_rfl)) (by unfold Func.isWrapper; first | (rw [if_pos (by decide +kernel)]; kernel_rfl) | (rw [if_neg (by decide +kernel)]; exact ⟨rfl, rfl⟩))
    (fun os started H enc _ => poolMakes_lifted os started H enc)
#print axioms poolMakes_holds
end Go.Proofs.Ytdombpcfmjlnlaa
