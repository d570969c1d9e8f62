/- Layer 11, walked: classes below one, what is wrong with a program. -/
import Derived.Test.YtdombpcfmjlnlaaFbSyAnc
import Derived.Test.YtdombpcfmjlnlaaFbSyPool
import Derived.Test.YtdombpcfmjlnlaaFbSxCpt
import Derived.Test.YtdombpcfmjlnlaaFbSxCall2
set_option linter.unusedVariables false
set_option linter.unusedSimpArgs false
namespace Go.Sx
open Go Go.Proofs

theorem c_idxG (l : List Str) (hl : small l.length) (g : Nat) (caps : List AV) (Hc : AHeap) (f : Str → Bool) (hg : ∀ s, s ∈ l → ACalls Try.prog g (sA s :: caps) Hc (GivesH (bA (f s)) Hc)) : ACalls Try.prog 113 [row1 sA l, .fn (.func g) caps] Hc (GivesH (iA (idxFrom f l 0)) Hc) := by
  simp only [small] at hl
  refine acalls_of (n := 19) Try.func113 rfl (by decide +kernel) rfl rfl ?_
  refine awp_seq ?_
  refine awp_region ?_
  refine aops_e (w0 rfl) rfl (eff_assign rfl rfl) ?_
  refine aops_nil ?_
  refine awp_seq ?_
  refine awp_seq ?_
  refine awp_region ?_
  refine aops_e (w0 rfl) rfl (eff_move rfl rfl) ?_
  refine aops_e (w0 rfl) rfl (eff_len rfl rfl rfl rfl) ?_
  refine aops_e (w0 rfl) rfl (eff_move rfl rfl) ?_
  refine aops_nil ?_
  refine awp_block ?_
  refine awp_loopJ (α := Nat) (fun i => ⟨[(8, iA i), (0, row1 sA l), (1, .fn (.func g) caps), (7, iA l.length)], [] ++ Hc, [], 19⟩) (fun i => i ≤ l.length ∧ idxFrom f (l.drop i) i = idxFrom f l 0) (fun i => l.length - i) 0 ⟨by omega, rfl⟩ ?_ ?_
  · exact weak_tail (F := []) (F' := []) (Hj := Hc) [] ⟨rfl, rfl, rfl, (by show some (iA _) = some (iA _); simp), trivial⟩ rfl rfl rfl (by decide) rfl rfl
  rintro i hJ
  refine awp_seq ?_
  refine awp_region ?_
  refine aops_e (w0 rfl) rfl (eff_icmp rfl rfl rfl rfl) ?_
  refine aops_nil ?_
  refine awp_seq ?_
  refine awp_cond rfl ?_ ?_
  · intro hc
    have hi : i < l.length := by simpa using hc
    refine awp_skip ?_
    refine awp_seq ?_
    refine awp_block ?_
    refine awp_seq ?_
    refine awp_region ?_
    refine aops_e (w0 rfl) rfl (eff_move rfl rfl) ?_
    refine aops_e (w0 rfl) rfl (eff_assign rfl rfl) ?_
    refine aops_nil ?_
    refine awp_seq ?_
    refine awp_region ?_
    refine aops_e (w0 rfl) rfl (eff_move rfl rfl) ?_
    refine aops_e (w0 rfl) rfl (eff_move rfl rfl) ?_
    refine aops_e (w0 rfl) rfl (eff_move rfl rfl) ?_
    refine aops_e (w0 rfl) rfl (eff_indexAddr_lst rfl rfl rfl (len_map (fun _ => rfl)) (by first | omega | (simp only [List.length_map]; omega)) (by first | omega | (simp only [List.length_map]; omega))) ?_
    refine aops_e (w0 rfl) rfl (eff_loadE rfl rfl (map_get (by first | assumption | omega)) ld_one) ?_
    refine aops_callG Hc [] (w0 rfl) rfl rfl rfl rfl (by simp) (hg _ (List.getElem_mem hi)) ?_
    refine aops_nil ?_
    refine awp_cond rfl ?_ ?_
    · intro hc
      have hc : f (l[i]) = true := hc
      refine awp_seq ?_
      refine awp_region ?_
      refine aops_e (w0 rfl) rfl (eff_move rfl rfl) ?_
      refine aops_e (w0 rfl) rfl (eff_assign rfl rfl) ?_
      refine aops_nil ?_
      refine awp_ret ?_
      exact retq_keep rfl (res_tmp rfl res_nil) (.refl _) (gvH (congrArg iA (by rw [← hJ.2, drop_get hi]; simp [idxFrom, hc])))
    · intro hc
      have hc : f (l[i]) = false := hc
      refine awp_skip ?_
      refine awp_region ?_
      refine aops_e (w0 rfl) rfl (eff_arith rfl rfl rfl (arith_add (by first | omega | (simp only [List.length_map]; omega)))) ?_
      refine aops_e (w0 rfl) rfl (eff_move rfl rfl) ?_
      refine aops_nil ?_
      refine ⟨i + 1, ⟨by omega, by rw [← hJ.2, drop_get hi]; simp [idxFrom, hc]⟩, (by omega), ?_⟩
      exact weak_tail (F := []) (F' := []) (Hj := Hc) [] ⟨rfl, rfl, rfl, rfl, trivial⟩ rfl rfl rfl (by decide) rfl rfl
  · intro hc
    have hi : ¬ i < l.length := by simpa using hc
    refine awp_exit ?_
    refine awp_seq ?_
    refine awp_region ?_
    refine aops_e (w0 rfl) rfl (eff_assign rfl rfl) ?_
    refine aops_nil ?_
    refine awp_ret ?_
    exact retq_keep rfl (res_tmp rfl res_nil) (.refl _) (gvH (congrArg iA (by rw [← hJ.2, drop_end hi]; rfl)))

def concP (p : Prog) (nm : Str) : Bool := match clsFind p nm with | some c => !c.abs | none => false

end Go.Sx
