/- PoolSame: of any texts: a pool's pool is the pool, and the list's order does not matter; the law's call returns true; conditions: those of the given statement alone. -/
import Derived.Test.YtdombpcfmjlnlaaRows
import Derived.Test.YtdombpcfmjlnlaaSyLaw5b
namespace Go.Proofs.Ytdombpcfmjlnlaa
open Go.ChangeShapes Go.WideShapes Go.ChangeAt Go.RowKit Go.Sx
set_option linter.unusedVariables false

theorem own : ownKnob Try.prog.godebug = none := by kernel_rfl
theorem laidOut : laidOutB Try.prog = true := by kernel_rfl

theorem poolSame_con (xs : List AV) (h : TXs Try.prog [22, 5] xs) : ACalls Try.prog 4 xs [] (fun e _ => e = .ret (.v (.bool true))) := by
  obtain ⟨l, xs, rfl, hl, h⟩ := txs_one (f := fun l : List Str => row1 sA l) (dec_list (e := 9) (by kernel_rfl) (by kernel_rfl) (dec_str (by kernel_rfl))) (by kernel_rfl) h
  obtain ⟨k, xs, rfl, hk, h⟩ := txs_one (f := fun n : Nat => uA n) (dec_u8n (by kernel_rfl)) (by kernel_rfl) h
  cases h
  exact (c_poolSame l hl.1 k hk).mono fun e H h => h.1

set_option maxRecDepth 100000 in
theorem poolSame_lifted (os : Os) (started : os.Started) (H : Type) (enc : TypeId × Value → H) :
    ReturnsInHanded {} Try.checked os 4 .any (Rows.poolSameSpec.pre6 enc Try.prog Try.f4 Rows.poolSameRow.domain false) (Rows.poolSameSpec.post enc Try.prog Try.f4 false true false false) := by
  refine returnsInHanded_of_change_sized (C := Try.checked) own started (by kernel_rfl) Try.func4
    (ChangeSpec.witness6 (enc := enc) (C := Try.checked) false ⟨#[], #[.slice none 0 0, .int .u8 0], []⟩ 8 (by kernel_rfl) (by kernel_rfl) (by kernel_rfl) (by kernel_rfl)) ?_
  intro W base args ds gs before hval hW hcnd hsz _
  exact law_post 12 [22, 5] (by kernel_rfl) (tb := 4) (by kernel_rfl) (by kernel_rfl) rfl laidOut (by kernel_rfl) (by kernel_rfl)
    (fun ds h => match ds, h with | [a, b], _ => ⟨rfl, rfl, rfl⟩) hval hW hsz poolSame_con

theorem poolSame_holds : Rows.PoolSameSaid :=
  OpenClaim.holds_of_wide 4 Try.f4 rfl rfl rfl rfl rfl rfl rfl ⟨rfl, rfl, rfl, rfl, rfl⟩ rfl rfl rfl rfl rfl (by kernel_rfl) Try.func4 (by kernel_rfl)
    (of_decide_eq_true (by kernel_rfl)) (by unfold Func.isWrapper; first | (rw [if_pos (by decide +kernel)]; kernel_rfl) | (rw [if_neg (by decide +kernel)]; exact ⟨rfl, rfl⟩))
    (fun os started H enc _ => poolSame_lifted os started H enc)
#print axioms poolSame_holds
end Go.Proofs.Ytdombpcfmjlnlaa
