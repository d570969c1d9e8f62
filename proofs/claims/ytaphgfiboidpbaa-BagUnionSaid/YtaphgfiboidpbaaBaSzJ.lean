/- Contracts of functions, walked: classes and those above them. -/
import Derived.Test.YtaphgfiboidpbaaBaSzTry0
import Derived.Test.YtaphgfiboidpbaaBaSxBits
import Derived.Test.YtaphgfiboidpbaaBaSxSpec
import Derived.Test.YtaphgfiboidpbaaBaSxLive
import Derived.Test.YtaphgfiboidpbaaBaSxPlain
import Derived.Test.YtaphgfiboidpbaaBaSxForest
import Derived.Test.YtaphgfiboidpbaaBaSxKeys
set_option linter.unusedVariables false
set_option linter.unusedSimpArgs false
namespace Go.Sx
open Go Go.Proofs

theorem c_class (p : Prog) (hb : small p.classes.length) (nm : Str) : ACalls Try.prog 66 [p.av, sA nm] [] (Gives (iA (classAt p nm))) := by
  simp only [small] at hb
  refine acalls_of (n := 22) Try.func66 rfl (by decide +kernel) rfl rfl ?_
  refine awp_seq ?_
  refine awp_region ?_
  refine aops_n (w0 rfl) rfl (fun id => eff_box id rfl rfl rfl rfl rfl) (fun id1 => ?_)
  refine aops_e (w0 rfl) rfl (eff_assign rfl rfl) ?_
  refine aops_nil ?_
  refine awp_seq ?_
  refine awp_seq ?_
  refine awp_region ?_
  refine aops_e (w0 rfl) rfl (eff_assign rfl rfl) ?_
  refine aops_nil ?_
  refine awp_block ?_
  refine awp_loopJ (α := Nat) (fun i => ⟨[(5, iA i), (2, .ptr id1 5 0 0), (1, sA nm)], [(id1, .rows 39 5 [p.cells])], [], 22⟩) (fun i => idxFrom (fun c : Cls => beqS c.name nm) (p.classes.drop i) i = classAt p nm) (fun i => p.classes.length - i) 0 rfl ?_ ?_
  · exact weak_pick [0] ⟨rfl, rfl, rfl, trivial⟩ rfl (by decide) rfl rfl
  rintro i hJ
  refine awp_seq ?_
  refine awp_seq ?_
  refine awp_region ?_
  refine aops_e (w0 rfl) rfl (eff_move rfl rfl) ?_
  refine aops_e (w0 rfl) rfl (eff_fieldAddr rfl rfl rfl) ?_
  refine aops_load_ptr 0 (w0 rfl) rfl rfl rfl rfl rfl ld_one ?_
  refine aops_e (w0 rfl) rfl (eff_len rfl rfl rfl rfl) ?_
  refine aops_e (w0 rfl) rfl (eff_icmp rfl rfl rfl rfl) ?_
  refine aops_nil ?_
  refine awp_cond rfl ?_ ?_
  · intro hc
    have hi : i < p.classes.length := by simpa using hc
    refine awp_skip ?_
    refine awp_seq ?_
    refine awp_block ?_
    refine awp_seq ?_
    refine awp_region ?_
    refine aops_e (w0 rfl) rfl (eff_fieldAddr rfl rfl rfl) ?_
    refine aops_load_ptr 0 (w0 rfl) rfl rfl rfl rfl rfl ld_one ?_
    refine aops_e (w0 rfl) rfl (eff_move rfl rfl) ?_
    refine aops_e (w0 rfl) rfl (eff_indexAddr_lst rfl rfl rfl (len_map (fun _ => rfl)) (by first | omega | (simp only [List.length_map]; omega) | (simp only [List.length_map, List.length_drop]; omega)) (by first | omega | (simp only [List.length_map]; omega) | (simp only [List.length_map, List.length_drop]; omega))) ?_
    refine aops_e (w0 rfl) rfl (eff_fieldAddr rfl rfl rfl) ?_
    refine aops_e (w0 rfl) rfl (eff_loadE rfl rfl (map_get (by first | assumption | omega | (simp only [List.length_drop]; omega))) ld_one) ?_
    refine aops_e (w0 rfl) rfl (eff_move rfl rfl) ?_
    refine aops_e (w0 rfl) rfl (eff_scmp rfl rfl rfl rfl) ?_
    refine aops_nil ?_
    refine awp_cond rfl ?_ ?_
    · intro hc
      have hc : beqS (p.classes[i]).name nm = true := hc
      refine awp_seq ?_
      refine awp_region ?_
      refine aops_e (w0 rfl) rfl (eff_move rfl rfl) ?_
      refine aops_e (w0 rfl) rfl (eff_assign rfl rfl) ?_
      refine aops_nil ?_
      refine awp_ret ?_
      exact retq rfl (res_tmp rfl res_nil) (gi (by rw [← hJ, drop_get hi]; simp [idxFrom, hc]))
    · intro hc
      have hc : beqS (p.classes[i]).name nm = false := hc
      refine awp_skip ?_
      refine awp_region ?_
      refine aops_e (w0 rfl) rfl (eff_move rfl rfl) ?_
      refine aops_e (w0 rfl) rfl (eff_arith rfl rfl rfl (arith_add (by first | omega | (simp only [List.length_map]; omega)))) ?_
      refine aops_e (w0 rfl) rfl (eff_assign rfl rfl) ?_
      refine aops_nil ?_
      refine ⟨i + 1, (by rw [← hJ, drop_get hi]; simp [idxFrom, hc]), (by omega), ?_⟩
      exact weak_pick [0] ⟨rfl, rfl, rfl, trivial⟩ rfl (by decide) rfl rfl
  · intro hc
    have hi : ¬ i < p.classes.length := by simpa using hc
    refine awp_exit ?_
    refine awp_seq ?_
    refine awp_region ?_
    refine aops_e (w0 rfl) rfl (eff_assign rfl rfl) ?_
    refine aops_nil ?_
    refine awp_ret ?_
    exact retq rfl (res_tmp rfl res_nil) (gi (by rw [← hJ, drop_end hi]; rfl))

theorem c_in (l : List Str) (hl : small l.length) (s : Str) : ACalls Try.prog 57 [row1 sA l, sA s] [] (Gives (bA (inL l s))) := by
  simp only [small] at hl
  refine acalls_of (n := 18) Try.func57 rfl (by decide +kernel) rfl rfl ?_
  refine awp_seq ?_
  refine awp_region ?_
  refine aops_e (w0 rfl) rfl (eff_assign rfl rfl) ?_
  refine aops_nil ?_
  refine awp_seq ?_
  refine awp_seq ?_
  refine awp_region ?_
  refine aops_e (w0 rfl) rfl (eff_assign rfl rfl) ?_
  refine aops_nil ?_
  refine awp_block ?_
  refine awp_loopJ (α := Nat) (fun i => ⟨[(5, iA i), (0, row1 sA l), (1, sA s)], [], [], 18⟩) (fun i => inL (l.drop i) s = inL l s) (fun i => l.length - i) 0 rfl ?_ ?_
  · exact weak_pick [] ⟨rfl, rfl, rfl, trivial⟩ rfl (by decide) rfl rfl
  rintro i hJ
  refine awp_seq ?_
  refine awp_seq ?_
  refine awp_region ?_
  refine aops_e (w0 rfl) rfl (eff_move rfl rfl) ?_
  refine aops_e (w0 rfl) rfl (eff_move rfl rfl) ?_
  refine aops_e (w0 rfl) rfl (eff_len rfl rfl rfl rfl) ?_
  refine aops_e (w0 rfl) rfl (eff_icmp rfl rfl rfl rfl) ?_
  refine aops_nil ?_
  refine awp_cond rfl ?_ ?_
  · intro hc
    have hi : i < l.length := by simpa using hc
    refine awp_skip ?_
    refine awp_seq ?_
    refine awp_block ?_
    refine awp_seq ?_
    refine awp_region ?_
    refine aops_e (w0 rfl) rfl (eff_move rfl rfl) ?_
    refine aops_e (w0 rfl) rfl (eff_move rfl rfl) ?_
    refine aops_e (w0 rfl) rfl (eff_indexAddr_lst rfl rfl rfl (len_map (fun _ => rfl)) (by first | omega | (simp only [List.length_map]; omega) | (simp only [List.length_map, List.length_drop]; omega)) (by first | omega | (simp only [List.length_map]; omega) | (simp only [List.length_map, List.length_drop]; omega))) ?_
    refine aops_e (w0 rfl) rfl (eff_loadE rfl rfl (map_get (by first | assumption | omega | (simp only [List.length_drop]; omega))) ld_one) ?_
    refine aops_e (w0 rfl) rfl (eff_move rfl rfl) ?_
    refine aops_e (w0 rfl) rfl (eff_scmp rfl rfl rfl rfl) ?_
    refine aops_nil ?_
    refine awp_cond rfl ?_ ?_
    · intro hc
      have hc : beqS (l[i]) s = true := hc
      refine awp_seq ?_
      refine awp_region ?_
      refine aops_e (w0 rfl) rfl (eff_assign rfl rfl) ?_
      refine aops_nil ?_
      refine awp_ret ?_
      exact retq rfl (res_tmp rfl res_nil) (gb (by rw [← hJ, drop_get hi, inL_cons, hc]; rfl))
    · intro hc
      have hc : beqS (l[i]) s = false := hc
      refine awp_skip ?_
      refine awp_region ?_
      refine aops_e (w0 rfl) rfl (eff_move rfl rfl) ?_
      refine aops_e (w0 rfl) rfl (eff_arith rfl rfl rfl (arith_add (by first | omega | (simp only [List.length_map]; omega)))) ?_
      refine aops_e (w0 rfl) rfl (eff_assign rfl rfl) ?_
      refine aops_nil ?_
      refine ⟨i + 1, (by rw [← hJ, drop_get hi, inL_cons, hc]; rfl), (by omega), ?_⟩
      exact weak_pick [] ⟨rfl, rfl, rfl, trivial⟩ rfl (by decide) rfl rfl
  · intro hc
    have hi : ¬ i < l.length := by simpa using hc
    refine awp_exit ?_
    refine awp_seq ?_
    refine awp_region ?_
    refine aops_e (w0 rfl) rfl (eff_assign rfl rfl) ?_
    refine aops_nil ?_
    refine awp_ret ?_
    exact retq rfl (res_tmp rfl res_nil) (gb (by rw [← hJ, drop_end hi]; rfl))

theorem c_classFn (c : Cls) (nm : Str) (idn : Nat) : ACalls Try.prog 86 [c.av, .ptr idn 1 0 0] [(idn, .rows 9 1 [[sA nm]])] (GivesH (bA (beqS c.name nm)) [(idn, .rows 9 1 [[sA nm]])]) := by
  refine acalls_of (n := 8) Try.func86 rfl (by decide +kernel) rfl rfl ?_
  refine awp_seq ?_
  refine awp_region ?_
  refine aops_n (w0 rfl) rfl (fun id => eff_box id rfl rfl rfl rfl rfl) (fun id1 => ?_)
  refine aops_e (w0 rfl) rfl (eff_assign rfl rfl) ?_
  refine aops_nil ?_
  refine awp_seq ?_
  refine awp_region ?_
  refine aops_e (w0 rfl) rfl (eff_fieldAddr rfl rfl rfl) ?_
  refine aops_load_ptr 0 (w0 rfl) rfl rfl rfl rfl rfl ld_one ?_
  refine aops_load_ptr 1 (w0 rfl) rfl rfl rfl rfl rfl ld_one ?_
  refine aops_e (w0 rfl) rfl (eff_scmp rfl rfl rfl rfl) ?_
  refine aops_e (w0 rfl) rfl (eff_assign rfl rfl) ?_
  refine aops_nil ?_
  refine awp_ret ?_
  exact retq_keep rfl (res_tmp rfl res_nil) (.cons _ (.refl _)) (gvH rfl)

theorem c_indexFunc (cs : List Cls) (hl : small cs.length) (g : Nat) (caps : List AV) (idn : Nat) (ob : AObj) (f : Cls → Bool) (hg : ∀ c, c ∈ cs → ACalls Try.prog g (c.av :: caps) [(idn, ob)] (GivesH (bA (f c)) [(idn, ob)])) : ACalls Try.prog 85 [.lst (cs.map Cls.cells), .fn (.func g) caps] [(idn, ob)] (GivesH (iA (idxFrom f cs 0)) [(idn, ob)]) := by
  simp only [small] at hl
  refine acalls_of (n := 19) Try.func85 rfl (by decide +kernel) rfl rfl ?_
  refine awp_seq ?_
  refine awp_region ?_
  refine aops_e (w0 rfl) rfl (eff_assign rfl rfl) ?_
  refine aops_nil ?_
  refine awp_seq ?_
  refine awp_seq ?_
  refine awp_region ?_
  refine aops_e (w0 rfl) rfl (eff_move rfl rfl) ?_
  refine aops_e (w0 rfl) rfl (eff_len rfl rfl rfl rfl) ?_
  refine aops_e (w0 rfl) rfl (eff_move rfl rfl) ?_
  refine aops_nil ?_
  refine awp_block ?_
  refine awp_loopJ (α := Nat) (fun i => ⟨[(8, iA i), (0, .lst (cs.map Cls.cells)), (1, .fn (.func g) caps), (7, iA cs.length)], [(idn, ob)], [], 19⟩) (fun i => i ≤ cs.length ∧ idxFrom f (cs.drop i) i = idxFrom f cs 0) (fun i => cs.length - i) 0 ⟨by omega, rfl⟩ ?_ ?_
  · exact weak_pick [0] ⟨rfl, rfl, rfl, (by show some (iA _) = some (iA _); simp), trivial⟩ rfl (by decide) rfl rfl
  rintro i hJ
  refine awp_seq ?_
  refine awp_region ?_
  refine aops_e (w0 rfl) rfl (eff_icmp rfl rfl rfl rfl) ?_
  refine aops_nil ?_
  refine awp_seq ?_
  refine awp_cond rfl ?_ ?_
  · intro hc
    have hi : i < cs.length := by simpa using hc
    refine awp_skip ?_
    refine awp_seq ?_
    refine awp_block ?_
    refine awp_seq ?_
    refine awp_region ?_
    refine aops_e (w0 rfl) rfl (eff_move rfl rfl) ?_
    refine aops_e (w0 rfl) rfl (eff_assign rfl rfl) ?_
    refine aops_nil ?_
    refine awp_seq ?_
    refine awp_region ?_
    refine aops_e (w0 rfl) rfl (eff_move rfl rfl) ?_
    refine aops_e (w0 rfl) rfl (eff_move rfl rfl) ?_
    refine aops_e (w0 rfl) rfl (eff_move rfl rfl) ?_
    refine aops_e (w0 rfl) rfl (eff_indexAddr_lst rfl rfl rfl (len_map (fun _ => rfl)) (by first | omega | (simp only [List.length_map]; omega) | (simp only [List.length_map, List.length_drop]; omega)) (by first | omega | (simp only [List.length_map]; omega) | (simp only [List.length_map, List.length_drop]; omega))) ?_
    refine aops_e (w0 rfl) rfl (eff_loadE rfl rfl (map_get (by first | assumption | omega | (simp only [List.length_drop]; omega))) (ld_agg (Nat.le_of_ble_eq_true rfl))) ?_
    refine aops_callH 0 (w0 rfl) rfl rfl rfl rfl rfl (hg _ (List.getElem_mem hi)) ?_
    refine aops_nil ?_
    refine awp_cond rfl ?_ ?_
    · intro hc
      have hc : f (cs[i]) = true := hc
      refine awp_seq ?_
      refine awp_region ?_
      refine aops_e (w0 rfl) rfl (eff_move rfl rfl) ?_
      refine aops_e (w0 rfl) rfl (eff_assign rfl rfl) ?_
      refine aops_nil ?_
      refine awp_ret ?_
      exact retq_keep rfl (res_tmp rfl res_nil) (.refl _) (gvH (congrArg iA (by rw [← hJ.2, drop_get hi]; simp [idxFrom, hc])))
    · intro hc
      have hc : f (cs[i]) = false := hc
      refine awp_skip ?_
      refine awp_region ?_
      refine aops_e (w0 rfl) rfl (eff_arith rfl rfl rfl (arith_add (by first | omega | (simp only [List.length_map]; omega)))) ?_
      refine aops_e (w0 rfl) rfl (eff_move rfl rfl) ?_
      refine aops_nil ?_
      refine ⟨i + 1, ⟨by omega, by rw [← hJ.2, drop_get hi]; simp [idxFrom, hc]⟩, (by omega), ?_⟩
      exact weak_pick [0] ⟨rfl, rfl, rfl, rfl, trivial⟩ rfl (by decide) rfl rfl
  · intro hc
    have hi : ¬ i < cs.length := by simpa using hc
    refine awp_exit ?_
    refine awp_seq ?_
    refine awp_region ?_
    refine aops_e (w0 rfl) rfl (eff_assign rfl rfl) ?_
    refine aops_nil ?_
    refine awp_ret ?_
    exact retq_keep rfl (res_tmp rfl res_nil) (.refl _) (gvH (congrArg iA (by rw [← hJ.2, drop_end hi]; rfl)))

theorem c_normClass (p : Prog) (hb : small p.classes.length) (nm : Str) : ACalls Try.prog 79 [p.av, sA nm] [] (Gives (iA (classAt p nm))) := by
  refine acalls_of (n := 9) Try.func79 rfl (by decide +kernel) rfl rfl ?_
  refine awp_seq ?_
  refine awp_region ?_
  refine aops_n (w0 rfl) rfl (fun id => eff_box id rfl rfl rfl rfl rfl) (fun id1 => ?_)
  refine aops_n (w0 rfl) rfl (fun id => eff_box id rfl rfl rfl rfl rfl) (fun id2 => ?_)
  refine aops_e (w0 rfl) rfl (eff_assign rfl rfl) ?_
  refine aops_nil ?_
  refine awp_seq ?_
  refine awp_region ?_
  refine aops_e (w0 rfl) rfl (eff_fieldAddr rfl rfl rfl) ?_
  refine aops_load_ptr 1 (w0 rfl) rfl rfl rfl rfl rfl ld_one ?_
  refine aops_e (w0 rfl) rfl (eff_makeFunc rfl rfl) ?_
  refine aops_callH 0 (w0 rfl) rfl rfl rfl rfl rfl (c_indexFunc p.classes hb 86 [.ptr id2 1 0 0] id2 _ (fun c => beqS c.name nm) (fun c _ => c_classFn c nm id2)) ?_
  refine aops_e (w0 rfl) rfl (eff_assign rfl rfl) ?_
  refine aops_nil ?_
  refine awp_ret ?_
  exact retq rfl (res_tmp rfl res_nil) (gi rfl)

theorem c_known (p : Prog) (hb : small p.classes.length) (nm : Str) {o : Option Cls} (ho : clsFind p nm = o) : ACalls Try.prog 64 [p.av, sA nm] [] (Gives (knownA o)) := by
  refine acalls_of (n := 18) Try.func64 rfl (by decide +kernel) rfl rfl ?_
  refine awp_seq ?_
  refine awp_region ?_
  refine aops_n (w0 rfl) rfl (fun id => eff_box id rfl rfl rfl rfl rfl) (fun id1 => ?_)
  refine aops_n (w0 rfl) rfl (fun id => eff_alloc id rfl rfl rfl) (fun id2 => ?_)
  refine aops_e (w0 rfl) rfl (eff_assign rfl rfl) ?_
  refine aops_nil ?_
  refine awp_seq ?_
  rcases classAt_cases p nm with ⟨h1, h2⟩ | ⟨j, hj, h1, h2⟩
  · skip
    rw [h2] at ho; subst ho
    refine awp_region ?_
    refine aops_load_ptr 1 (w0 rfl) rfl rfl rfl rfl rfl (ld_agg (Nat.le_of_ble_eq_true rfl)) ?_
    refine aops_e (w0 rfl) rfl (eff_move rfl rfl) ?_
    refine aops_e (w0 rfl) rfl (eff_call [] rfl rfl rfl (c_normClass p hb nm) List.nodup_nil) ?_
    refine aops_e (w0 rfl) rfl (eff_assign rfl rfl) ?_
    refine aops_nil ?_
    refine awp_seq ?_
    refine awp_seq ?_
    refine awp_region ?_
    refine aops_e (w0 rfl) rfl (eff_move rfl rfl) ?_
    refine aops_e (w0 rfl) rfl (eff_icmp rfl rfl rfl rfl) ?_
    refine aops_nil ?_
    refine awp_cond rfl ?_ ?_
    · intro hc
      have hx : classAt p nm < 0 := by simpa using hc
      refine awp_seq ?_
      refine awp_region ?_
      refine aops_e (w0 rfl) rfl (eff_build rfl rfl rfl) ?_
      refine aops_store 0 (w0 rfl) rfl rfl rfl rfl rfl rfl rfl rfl rfl ?_
      refine aops_e (w0 rfl) rfl (eff_assign rfl rfl) ?_
      refine aops_nil ?_
      refine awp_ret ?_
      exact retq rfl (res_cell 0 rfl rfl rfl (ld_agg (Nat.le_of_ble_eq_true rfl)) (res_tmp rfl res_nil)) (gvr (by first | rfl | (exfalso; omega)))
    · intro hc
      have hx : ¬ classAt p nm < 0 := by simpa using hc
      refine awp_skip ?_
      refine awp_seq ?_
      refine awp_region ?_
      refine aops_e (w0 rfl) rfl (eff_fieldAddr rfl rfl rfl) ?_
      refine aops_load_ptr 1 (w0 rfl) rfl rfl rfl rfl rfl ld_one ?_
      refine aops_e (w0 rfl) rfl (eff_move rfl rfl) ?_
      refine aops_e (w0 rfl) rfl (eff_indexAddr_lst rfl rfl rfl (len_map (fun _ => rfl)) (by first | omega | (simp only [List.length_map]; omega) | (simp only [List.length_map, List.length_drop]; omega)) (by first | omega | (simp only [List.length_map]; omega) | (simp only [List.length_map, List.length_drop]; omega))) ?_
      refine aops_e (w0 rfl) rfl (eff_loadE rfl rfl (map_get (by first | assumption | omega | (simp only [List.length_drop]; omega))) (ld_agg (Nat.le_of_ble_eq_true rfl))) ?_
      refine aops_store 0 (w0 rfl) rfl rfl rfl rfl rfl rfl rfl rfl rfl ?_
      refine aops_e (w0 rfl) rfl (eff_assign rfl rfl) ?_
      refine aops_nil ?_
      refine awp_ret ?_
      exact retq rfl (res_cell 0 rfl rfl rfl (ld_agg (Nat.le_of_ble_eq_true rfl)) (res_tmp rfl res_nil)) (gvr (by first | (exfalso; omega) | (simp only [h1]; rfl)))
  · skip
    rw [h2] at ho; subst ho
    refine awp_region ?_
    refine aops_load_ptr 1 (w0 rfl) rfl rfl rfl rfl rfl (ld_agg (Nat.le_of_ble_eq_true rfl)) ?_
    refine aops_e (w0 rfl) rfl (eff_move rfl rfl) ?_
    refine aops_e (w0 rfl) rfl (eff_call [] rfl rfl rfl (c_normClass p hb nm) List.nodup_nil) ?_
    refine aops_e (w0 rfl) rfl (eff_assign rfl rfl) ?_
    refine aops_nil ?_
    refine awp_seq ?_
    refine awp_seq ?_
    refine awp_region ?_
    refine aops_e (w0 rfl) rfl (eff_move rfl rfl) ?_
    refine aops_e (w0 rfl) rfl (eff_icmp rfl rfl rfl rfl) ?_
    refine aops_nil ?_
    refine awp_cond rfl ?_ ?_
    · intro hc
      have hx : classAt p nm < 0 := by simpa using hc
      refine awp_seq ?_
      refine awp_region ?_
      refine aops_e (w0 rfl) rfl (eff_build rfl rfl rfl) ?_
      refine aops_store 0 (w0 rfl) rfl rfl rfl rfl rfl rfl rfl rfl rfl ?_
      refine aops_e (w0 rfl) rfl (eff_assign rfl rfl) ?_
      refine aops_nil ?_
      refine awp_ret ?_
      exact retq rfl (res_cell 0 rfl rfl rfl (ld_agg (Nat.le_of_ble_eq_true rfl)) (res_tmp rfl res_nil)) (gvr (by first | rfl | (exfalso; omega)))
    · intro hc
      have hx : ¬ classAt p nm < 0 := by simpa using hc
      refine awp_skip ?_
      refine awp_seq ?_
      refine awp_region ?_
      refine aops_e (w0 rfl) rfl (eff_fieldAddr rfl rfl rfl) ?_
      refine aops_load_ptr 1 (w0 rfl) rfl rfl rfl rfl rfl ld_one ?_
      refine aops_e (w0 rfl) rfl (eff_move rfl rfl) ?_
      refine aops_e (w0 rfl) rfl (eff_indexAddr_lst rfl rfl rfl (len_map (fun _ => rfl)) (by first | omega | (simp only [List.length_map]; omega) | (simp only [List.length_map, List.length_drop]; omega)) (by first | omega | (simp only [List.length_map]; omega) | (simp only [List.length_map, List.length_drop]; omega))) ?_
      refine aops_e (w0 rfl) rfl (eff_loadE rfl rfl (map_get (by first | assumption | omega | (simp only [List.length_drop]; omega))) (ld_agg (Nat.le_of_ble_eq_true rfl))) ?_
      refine aops_store 0 (w0 rfl) rfl rfl rfl rfl rfl rfl rfl rfl rfl ?_
      refine aops_e (w0 rfl) rfl (eff_assign rfl rfl) ?_
      refine aops_nil ?_
      refine awp_ret ?_
      exact retq rfl (res_cell 0 rfl rfl rfl (ld_agg (Nat.le_of_ble_eq_true rfl)) (res_tmp rfl res_nil)) (gvr (by first | (exfalso; omega) | (simp only [h1]; rfl)))

theorem c_up (c : Cls) (hl : c.ifaces.length ≤ 1000) : ACalls Try.prog 65 [c.av] [] (Gives (row1 sA (upC c))) := by
  refine acalls_of (n := 14) Try.func65 rfl (by decide +kernel) rfl rfl ?_
  refine awp_seq ?_
  refine awp_region ?_
  refine aops_n (w0 rfl) rfl (fun id => eff_box id rfl rfl rfl rfl rfl) (fun id1 => ?_)
  refine aops_e (w0 rfl) rfl (eff_assign rfl rfl) ?_
  refine aops_nil ?_
  refine awp_seq ?_
  refine awp_seq ?_
  refine awp_region ?_
  refine aops_e (w0 rfl) rfl (eff_fieldAddr rfl rfl rfl) ?_
  refine aops_load_ptr 0 (w0 rfl) rfl rfl rfl rfl rfl ld_one ?_
  refine aops_e (w0 rfl) rfl (eff_scmp rfl rfl rfl rfl) ?_
  refine aops_nil ?_
  refine awp_cond rfl ?_ ?_
  · intro hc
    have hc : beqS c.super zS = true := hc
    refine awp_seq ?_
    refine awp_region ?_
    refine aops_e (w0 rfl) rfl (eff_fieldAddr rfl rfl rfl) ?_
    refine aops_load_ptr 0 (w0 rfl) rfl rfl rfl rfl rfl ld_one ?_
    refine aops_e (w0 rfl) rfl (eff_assign rfl rfl) ?_
    refine aops_nil ?_
    refine awp_ret ?_
    exact retq rfl (res_tmp rfl res_nil) (gvr (by simp [upC, hc]; rfl))
  · intro hc
    have hc : beqS c.super zS = false := hc
    refine awp_skip ?_
    refine awp_seq ?_
    refine awp_region ?_
    refine aops_e (w0 rfl) rfl (eff_fieldAddr rfl rfl rfl) ?_
    refine aops_load_ptr 0 (w0 rfl) rfl rfl rfl rfl rfl ld_one ?_
    refine aops_n (w0 rfl) rfl (fun id => eff_buildSlice id (ps := [(0, .tmp 9)]) rfl rfl rfl rfl rfl rfl rfl rfl) (fun id2 => ?_)
    refine aops_e (w0 rfl) rfl (eff_fieldAddr rfl rfl rfl) ?_
    refine aops_load_ptr 1 (w0 rfl) rfl rfl rfl rfl rfl ld_one ?_
    refine aops_append 0 (w0 rfl) rfl rfl rfl rfl rfl rfl ⟨rfl, len_map (fun _ => rfl)⟩ (by first | omega | (simp; omega) | (simp [maxLen]; omega) | (simp; done) | (simp [maxLen]; done)) (by first | omega | (simp; omega) | (simp [maxLen]; omega) | (simp; done) | (simp [maxLen]; done)) (fun id3 => ?_)
    refine aops_e (w0 rfl) rfl (eff_assign rfl rfl) ?_
    refine aops_nil ?_
    refine awp_ret ?_
    exact retq_frz 0 rfl rfl rfl rfl (by simp; omega) (by simp [upC, hc, row1, cellsA])

theorem c_great (p : Prog) (hp : p.ok) : ACalls Try.prog 23 [p.av] [] (Gives (bA (greatP p))) := by
  have hb := hp.classes.1
  simp only [small] at hb
  refine acalls_of (n := 131) Try.func23 rfl (by decide +kernel) rfl rfl ?_
  refine awp_seq ?_
  refine awp_region ?_
  refine aops_n (w0 rfl) rfl (fun id => eff_box id rfl rfl rfl rfl rfl) (fun id1 => ?_)
  refine aops_e (w0 rfl) rfl (eff_assign rfl rfl) ?_
  refine aops_nil ?_
  refine awp_seq ?_
  refine awp_seq ?_
  refine awp_region ?_
  refine aops_e (w0 rfl) rfl (eff_fieldAddr rfl rfl rfl) ?_
  refine aops_load_ptr 0 (w0 rfl) rfl rfl rfl rfl rfl ld_one ?_
  refine aops_e (w0 rfl) rfl (eff_len rfl rfl rfl rfl) ?_
  refine aops_e (w0 rfl) rfl (eff_icmp rfl rfl rfl rfl) ?_
  refine aops_e (w0 rfl) rfl (eff_move rfl rfl) ?_
  refine aops_g (wF rfl rfl rfl rfl) rfl (fun hg => (eff_fieldAddr rfl rfl rfl)) ?_
  refine aops_gload 0 (wF rfl rfl rfl rfl) rfl rfl (fun hg => (ev_g hg rfl)) rfl rfl ld_one ?_
  refine aops_g (wF rfl rfl rfl rfl) rfl (fun hg => (eff_len rfl (ev_g hg rfl) rfl rfl)) ?_
  refine aops_g (wF rfl rfl rfl rfl) rfl (fun hg => (eff_icmp rfl (ev_g hg rfl) rfl rfl)) ?_
  refine aops_e (w0 rfl) rfl (eff_or rfl rfl rfl (fun h => by rw [h]; rfl)) ?_
  refine aops_nil ?_
  refine awp_cond rfl ?_ ?_
  · intro hc
    have hq : greatP0 p = true := by simp [greatP0] at hc ⊢; omega
    refine awp_seq ?_
    refine awp_region ?_
    refine aops_e (w0 rfl) rfl (eff_assign rfl rfl) ?_
    refine aops_nil ?_
    refine awp_ret ?_
    exact retq rfl (res_tmp rfl res_nil) (gb (by unfold greatP; rw [hq]; rfl))
  · intro hc
    have hq : greatP0 p = false := by simp [greatP0] at hc ⊢; omega
    refine awp_skip ?_
    refine awp_seq ?_
    refine awp_seq ?_
    refine awp_region ?_
    refine aops_e (w0 rfl) rfl (eff_assign rfl rfl) ?_
    refine aops_nil ?_
    refine awp_block ?_
    refine awp_loopJ (α := Nat) (fun i => ⟨[(3, iA i), (1, .ptr id1 5 0 0)], [(id1, .rows 39 5 [p.cells])], [], 131⟩) (fun i => i ≤ p.classes.length ∧ (p.classes.drop i).any greatC = p.classes.any greatC) (fun i => p.classes.length - i) 0 ⟨Nat.zero_le _, rfl⟩ ?_ ?_
    · exact weak_pick [0] ⟨rfl, rfl, trivial⟩ rfl (by decide) rfl rfl
    rintro i hJ
    refine awp_seq ?_
    refine awp_seq ?_
    refine awp_region ?_
    refine aops_e (w0 rfl) rfl (eff_move rfl rfl) ?_
    refine aops_e (w0 rfl) rfl (eff_fieldAddr rfl rfl rfl) ?_
    refine aops_load_ptr 0 (w0 rfl) rfl rfl rfl rfl rfl ld_one ?_
    refine aops_e (w0 rfl) rfl (eff_len rfl rfl rfl rfl) ?_
    refine aops_e (w0 rfl) rfl (eff_icmp rfl rfl rfl rfl) ?_
    refine aops_nil ?_
    refine awp_cond rfl ?_ ?_
    · intro hc
      have hi : i < p.classes.length := by simpa using hc
      have hok := hp.classes.2 _ (List.getElem_mem hi)
      have hm1 := hok.methods.1
      simp only [small] at hm1
      refine awp_skip ?_
      refine awp_seq ?_
      refine awp_block ?_
      refine awp_seq ?_
      refine awp_region ?_
      refine aops_e (w0 rfl) rfl (eff_fieldAddr rfl rfl rfl) ?_
      refine aops_load_ptr 0 (w0 rfl) rfl rfl rfl rfl rfl ld_one ?_
      refine aops_e (w0 rfl) rfl (eff_move rfl rfl) ?_
      refine aops_e (w0 rfl) rfl (eff_indexAddr_lst rfl rfl rfl (len_map (fun _ => rfl)) (by first | omega | (simp only [List.length_map]; omega) | (simp only [List.length_map, List.length_drop]; omega)) (by first | omega | (simp only [List.length_map]; omega) | (simp only [List.length_map, List.length_drop]; omega))) ?_
      refine aops_e (w0 rfl) rfl (eff_loadE rfl rfl (map_get (by first | assumption | omega | (simp only [List.length_drop]; omega))) (ld_agg (Nat.le_of_ble_eq_true rfl))) ?_
      refine aops_n (w0 rfl) rfl (fun id => eff_alloc id rfl rfl rfl) (fun id2 => ?_)
      refine aops_store 0 (w0 rfl) rfl rfl rfl rfl rfl rfl rfl rfl rfl ?_
      refine aops_nil ?_
      refine awp_seq ?_
      refine awp_seq ?_
      refine awp_region ?_
      refine aops_e (w0 rfl) rfl (eff_fieldAddr rfl rfl rfl) ?_
      refine aops_load_ptr 0 (w0 rfl) rfl rfl rfl rfl rfl ld_one ?_
      refine aops_e (w0 rfl) rfl (eff_len rfl rfl rfl rfl) ?_
      refine aops_e (w0 rfl) rfl (eff_icmp rfl rfl rfl rfl) ?_
      refine aops_e (w0 rfl) rfl (eff_move rfl rfl) ?_
      refine aops_g (wF rfl rfl rfl rfl) rfl (fun hg => (eff_fieldAddr rfl rfl rfl)) ?_
      refine aops_gload 0 (wF rfl rfl rfl rfl) rfl rfl (fun hg => (ev_g hg rfl)) rfl rfl ld_one ?_
      refine aops_g (wF rfl rfl rfl rfl) rfl (fun hg => (eff_len rfl (ev_g hg rfl) rfl rfl)) ?_
      refine aops_g (wF rfl rfl rfl rfl) rfl (fun hg => (eff_icmp rfl (ev_g hg rfl) rfl rfl)) ?_
      refine aops_e (w0 rfl) rfl (eff_or rfl rfl rfl (fun h => by rw [h]; rfl)) ?_
      refine aops_e (w0 rfl) rfl (eff_move rfl rfl) ?_
      refine aops_g (wF rfl rfl rfl rfl) rfl (fun hg => (eff_fieldAddr rfl rfl rfl)) ?_
      refine aops_gload 0 (wF rfl rfl rfl rfl) rfl rfl (fun hg => (ev_g hg rfl)) rfl rfl ld_one ?_
      refine aops_g (wF rfl rfl rfl rfl) rfl (fun hg => (eff_len rfl (ev_g hg rfl) rfl rfl)) ?_
      refine aops_g (wF rfl rfl rfl rfl) rfl (fun hg => (eff_icmp rfl (ev_g hg rfl) rfl rfl)) ?_
      refine aops_e (w0 rfl) rfl (eff_or rfl rfl rfl (fun h => by rw [h]; rfl)) ?_
      refine aops_e (w0 rfl) rfl (eff_move rfl rfl) ?_
      refine aops_g (wF rfl rfl rfl rfl) rfl (fun hg => (eff_fieldAddr rfl rfl rfl)) ?_
      refine aops_gload 0 (wF rfl rfl rfl rfl) rfl rfl (fun hg => (ev_g hg rfl)) rfl rfl ld_one ?_
      refine aops_g (wF rfl rfl rfl rfl) rfl (fun hg => (eff_len rfl (ev_g hg rfl) rfl rfl)) ?_
      refine aops_g (wF rfl rfl rfl rfl) rfl (fun hg => (eff_icmp rfl (ev_g hg rfl) rfl rfl)) ?_
      refine aops_e (w0 rfl) rfl (eff_or rfl rfl rfl (fun h => by rw [h]; rfl)) ?_
      refine aops_e (w0 rfl) rfl (eff_move rfl rfl) ?_
      refine aops_g (wF rfl rfl rfl rfl) rfl (fun hg => (eff_fieldAddr rfl rfl rfl)) ?_
      refine aops_gload 0 (wF rfl rfl rfl rfl) rfl rfl (fun hg => (ev_g hg rfl)) rfl rfl ld_one ?_
      refine aops_g (wF rfl rfl rfl rfl) rfl (fun hg => (eff_len rfl (ev_g hg rfl) rfl rfl)) ?_
      refine aops_g (wF rfl rfl rfl rfl) rfl (fun hg => (eff_icmp rfl (ev_g hg rfl) rfl rfl)) ?_
      refine aops_e (w0 rfl) rfl (eff_or rfl rfl rfl (fun h => by rw [h]; rfl)) ?_
      refine aops_nil ?_
      refine awp_cond rfl ?_ ?_
      · intro hc
        have hq2 : greatC0 p.classes[i] = true := by simp [greatC0] at hc ⊢; omega
        refine awp_seq ?_
        refine awp_region ?_
        refine aops_e (w0 rfl) rfl (eff_assign rfl rfl) ?_
        refine aops_nil ?_
        refine awp_ret ?_
        exact retq rfl (res_tmp rfl res_nil) (gb (by unfold greatP; rw [any_hit hJ.2 hi (by unfold greatC; rw [hq2]; rfl), Bool.or_true]))
      · intro hc
        have hq2 : greatC0 p.classes[i] = false := by simp [greatC0] at hc ⊢; omega
        refine awp_skip ?_
        refine awp_seq ?_
        refine awp_region ?_
        refine aops_e (w0 rfl) rfl (eff_assign rfl rfl) ?_
        refine aops_nil ?_
        refine awp_block ?_
        refine awp_loopJ (α := Nat) (fun k => ⟨[(5, iA k), (3, iA i), (1, .ptr id1 5 0 0), (4, .ptr id2 7 0 0)], [(id2, .rows 44 7 [p.classes[i].cells]), (id1, .rows 39 5 [p.cells])], [], 131⟩) (fun k => k ≤ p.classes[i].methods.length ∧ (p.classes[i].methods.drop k).any greatM = p.classes[i].methods.any greatM) (fun k => p.classes[i].methods.length - k) 0 ⟨Nat.zero_le _, rfl⟩ ?_ ?_
        · exact weak_pick [0, 1] ⟨rfl, rfl, rfl, rfl, trivial⟩ rfl (by decide) rfl rfl
        rintro k hJ1
        refine awp_seq ?_
        refine awp_seq ?_
        refine awp_region ?_
        refine aops_e (w0 rfl) rfl (eff_move rfl rfl) ?_
        refine aops_e (w0 rfl) rfl (eff_fieldAddr rfl rfl rfl) ?_
        refine aops_load_ptr 0 (w0 rfl) rfl rfl rfl rfl rfl ld_one ?_
        refine aops_e (w0 rfl) rfl (eff_len rfl rfl rfl rfl) ?_
        refine aops_e (w0 rfl) rfl (eff_icmp rfl rfl rfl rfl) ?_
        refine aops_nil ?_
        refine awp_cond rfl ?_ ?_
        · intro hc
          have hk : k < p.classes[i].methods.length := by simpa using hc
          have hm2 := (hok.methods.2 _ (List.getElem_mem hk)).code.1
          simp only [small] at hm2
          refine awp_skip ?_
          refine awp_seq ?_
          refine awp_block ?_
          refine awp_seq ?_
          refine awp_region ?_
          refine aops_e (w0 rfl) rfl (eff_fieldAddr rfl rfl rfl) ?_
          refine aops_load_ptr 0 (w0 rfl) rfl rfl rfl rfl rfl ld_one ?_
          refine aops_e (w0 rfl) rfl (eff_move rfl rfl) ?_
          refine aops_e (w0 rfl) rfl (eff_indexAddr_lst rfl rfl rfl (len_map (fun _ => rfl)) (by first | omega | (simp only [List.length_map]; omega) | (simp only [List.length_map, List.length_drop]; omega)) (by first | omega | (simp only [List.length_map]; omega) | (simp only [List.length_map, List.length_drop]; omega))) ?_
          refine aops_e (w0 rfl) rfl (eff_loadE rfl rfl (map_get (by first | assumption | omega | (simp only [List.length_drop]; omega))) (ld_agg (Nat.le_of_ble_eq_true rfl))) ?_
          refine aops_n (w0 rfl) rfl (fun id => eff_alloc id rfl rfl rfl) (fun id3 => ?_)
          refine aops_store 0 (w0 rfl) rfl rfl rfl rfl rfl rfl rfl rfl rfl ?_
          refine aops_nil ?_
          refine awp_seq ?_
          refine awp_seq ?_
          refine awp_region ?_
          refine aops_e (w0 rfl) rfl (eff_fieldAddr rfl rfl rfl) ?_
          refine aops_load_ptr 0 (w0 rfl) rfl rfl rfl rfl rfl ld_one ?_
          refine aops_e (w0 rfl) rfl (eff_len rfl rfl rfl rfl) ?_
          refine aops_e (w0 rfl) rfl (eff_icmp rfl rfl rfl rfl) ?_
          refine aops_e (w0 rfl) rfl (eff_move rfl rfl) ?_
          refine aops_g (wF rfl rfl rfl rfl) rfl (fun hg => (eff_fieldAddr rfl rfl rfl)) ?_
          refine aops_gload 0 (wF rfl rfl rfl rfl) rfl rfl (fun hg => (ev_g hg rfl)) rfl rfl ld_one ?_
          refine aops_g (wF rfl rfl rfl rfl) rfl (fun hg => (eff_len rfl (ev_g hg rfl) rfl rfl)) ?_
          refine aops_g (wF rfl rfl rfl rfl) rfl (fun hg => (eff_icmp rfl (ev_g hg rfl) rfl rfl)) ?_
          refine aops_e (w0 rfl) rfl (eff_or rfl rfl rfl (fun h => by rw [h]; rfl)) ?_
          refine aops_e (w0 rfl) rfl (eff_move rfl rfl) ?_
          refine aops_g (wF rfl rfl rfl rfl) rfl (fun hg => (eff_fieldAddr rfl rfl rfl)) ?_
          refine aops_gload 0 (wF rfl rfl rfl rfl) rfl rfl (fun hg => (ev_g hg rfl)) rfl rfl ld_one ?_
          refine aops_g (wF rfl rfl rfl rfl) rfl (fun hg => (eff_len rfl (ev_g hg rfl) rfl rfl)) ?_
          refine aops_g (wF rfl rfl rfl rfl) rfl (fun hg => (eff_icmp rfl (ev_g hg rfl) rfl rfl)) ?_
          refine aops_e (w0 rfl) rfl (eff_or rfl rfl rfl (fun h => by rw [h]; rfl)) ?_
          refine aops_nil ?_
          refine awp_cond rfl ?_ ?_
          · intro hc
            have hq3 : greatM0 p.classes[i].methods[k] = true := by simp [greatM0] at hc ⊢; omega
            refine awp_seq ?_
            refine awp_region ?_
            refine aops_e (w0 rfl) rfl (eff_assign rfl rfl) ?_
            refine aops_nil ?_
            refine awp_ret ?_
            exact retq rfl (res_tmp rfl res_nil) (gb (by unfold greatP; rw [any_hit hJ.2 hi (by unfold greatC; rw [any_hit hJ1.2 hk (by unfold greatM; rw [hq3]; rfl), Bool.or_true]), Bool.or_true]))
          · intro hc
            have hq3 : greatM0 p.classes[i].methods[k] = false := by simp [greatM0] at hc ⊢; omega
            refine awp_skip ?_
            refine awp_seq ?_
            refine awp_region ?_
            refine aops_e (w0 rfl) rfl (eff_assign rfl rfl) ?_
            refine aops_nil ?_
            refine awp_block ?_
            refine awp_loopJ (α := Nat) (fun z => ⟨[(7, iA z), (5, iA k), (3, iA i), (1, .ptr id1 5 0 0), (4, .ptr id2 7 0 0), (6, .ptr id3 6 0 0)], [(id3, .rows 68 6 [p.classes[i].methods[k].cells]), (id2, .rows 44 7 [p.classes[i].cells]), (id1, .rows 39 5 [p.cells])], [], 131⟩) (fun z => z ≤ p.classes[i].methods[k].code.length ∧ (p.classes[i].methods[k].code.drop z).any greatI = p.classes[i].methods[k].code.any greatI) (fun z => p.classes[i].methods[k].code.length - z) 0 ⟨Nat.zero_le _, rfl⟩ ?_ ?_
            · exact weak_pick [0, 1, 2] ⟨rfl, rfl, rfl, rfl, rfl, rfl, trivial⟩ rfl (by decide) rfl rfl
            rintro z hJ2
            refine awp_seq ?_
            refine awp_seq ?_
            refine awp_region ?_
            refine aops_e (w0 rfl) rfl (eff_move rfl rfl) ?_
            refine aops_e (w0 rfl) rfl (eff_fieldAddr rfl rfl rfl) ?_
            refine aops_load_ptr 0 (w0 rfl) rfl rfl rfl rfl rfl ld_one ?_
            refine aops_e (w0 rfl) rfl (eff_len rfl rfl rfl rfl) ?_
            refine aops_e (w0 rfl) rfl (eff_icmp rfl rfl rfl rfl) ?_
            refine aops_nil ?_
            refine awp_cond rfl ?_ ?_
            · intro hc
              have hz : z < p.classes[i].methods[k].code.length := by simpa using hc
              refine awp_skip ?_
              refine awp_seq ?_
              refine awp_block ?_
              refine awp_seq ?_
              refine awp_region ?_
              refine aops_e (w0 rfl) rfl (eff_fieldAddr rfl rfl rfl) ?_
              refine aops_load_ptr 0 (w0 rfl) rfl rfl rfl rfl rfl ld_one ?_
              refine aops_e (w0 rfl) rfl (eff_move rfl rfl) ?_
              refine aops_e (w0 rfl) rfl (eff_indexAddr_lst rfl rfl rfl (len_map (fun _ => rfl)) (by first | omega | (simp only [List.length_map]; omega) | (simp only [List.length_map, List.length_drop]; omega)) (by first | omega | (simp only [List.length_map]; omega) | (simp only [List.length_map, List.length_drop]; omega))) ?_
              refine aops_e (w0 rfl) rfl (eff_fieldAddr rfl rfl rfl) ?_
              refine aops_e (w0 rfl) rfl (eff_loadE rfl rfl (map_get (by first | assumption | omega | (simp only [List.length_drop]; omega))) ld_one) ?_
              refine aops_e (w0 rfl) rfl (eff_len rfl rfl rfl rfl) ?_
              refine aops_e (w0 rfl) rfl (eff_icmp rfl rfl rfl rfl) ?_
              refine aops_e (w0 rfl) rfl (eff_move rfl rfl) ?_
              refine aops_g (wF rfl rfl rfl rfl) rfl (fun hg => (eff_fieldAddr rfl rfl rfl)) ?_
              refine aops_gload 0 (wF rfl rfl rfl rfl) rfl rfl (fun hg => (ev_g hg rfl)) rfl rfl ld_one ?_
              refine aops_g (wF rfl rfl rfl rfl) rfl (fun hg => (eff_move rfl rfl)) ?_
              refine aops_g (wF rfl rfl rfl rfl) rfl (fun hg => (eff_indexAddr_lst rfl (ev_g hg rfl) (ev_g hg rfl) (len_map (fun _ => rfl)) (by (try simp at hg) <;> first | omega | (simp only [List.length_map]; omega) | (simp only [List.length_map, List.length_drop]; omega)) (by (try simp at hg) <;> first | omega | (simp only [List.length_map]; omega) | (simp only [List.length_map, List.length_drop]; omega)))) ?_
              refine aops_g (wF rfl rfl rfl rfl) rfl (fun hg => (eff_fieldAddr rfl (ev_g hg rfl) rfl)) ?_
              refine aops_g (wF rfl rfl rfl rfl) rfl (fun hg => (eff_loadE rfl (ev_g hg rfl) (map_getD (by (try simp at hg) <;> first | assumption | omega | (simp only [List.length_drop]; omega))) ld_one)) ?_
              refine aops_g (wF rfl rfl rfl rfl) rfl (fun hg => (eff_len rfl (ev_g hg rfl) rfl rfl)) ?_
              refine aops_g (wF rfl rfl rfl rfl) rfl (fun hg => (eff_icmp rfl (ev_g hg rfl) rfl rfl)) ?_
              refine aops_e (w0 rfl) rfl (eff_or rfl rfl rfl (fun h => by rw [h]; rfl)) ?_
              refine aops_e (w0 rfl) rfl (eff_move rfl rfl) ?_
              refine aops_g (wF rfl rfl rfl rfl) rfl (fun hg => (eff_fieldAddr rfl rfl rfl)) ?_
              refine aops_gload 0 (wF rfl rfl rfl rfl) rfl rfl (fun hg => (ev_g hg rfl)) rfl rfl ld_one ?_
              refine aops_g (wF rfl rfl rfl rfl) rfl (fun hg => (eff_move rfl rfl)) ?_
              refine aops_g (wF rfl rfl rfl rfl) rfl (fun hg => (eff_indexAddr_lst rfl (ev_g hg rfl) (ev_g hg rfl) (len_map (fun _ => rfl)) (by (try simp at hg) <;> first | omega | (simp only [List.length_map]; omega) | (simp only [List.length_map, List.length_drop]; omega)) (by (try simp at hg) <;> first | omega | (simp only [List.length_map]; omega) | (simp only [List.length_map, List.length_drop]; omega)))) ?_
              refine aops_g (wF rfl rfl rfl rfl) rfl (fun hg => (eff_fieldAddr rfl (ev_g hg rfl) rfl)) ?_
              refine aops_g (wF rfl rfl rfl rfl) rfl (fun hg => (eff_loadE rfl (ev_g hg rfl) (map_getD (by (try simp at hg) <;> first | assumption | omega | (simp only [List.length_drop]; omega))) ld_one)) ?_
              refine aops_g (wF rfl rfl rfl rfl) rfl (fun hg => (eff_len rfl (ev_g hg rfl) rfl rfl)) ?_
              refine aops_g (wF rfl rfl rfl rfl) rfl (fun hg => (eff_icmp rfl (ev_g hg rfl) rfl rfl)) ?_
              refine aops_e (w0 rfl) rfl (eff_or rfl rfl rfl (fun h => by rw [h]; rfl)) ?_
              refine aops_e (w0 rfl) rfl (eff_move rfl rfl) ?_
              refine aops_g (wF rfl rfl rfl rfl) rfl (fun hg => (eff_fieldAddr rfl rfl rfl)) ?_
              refine aops_gload 0 (wF rfl rfl rfl rfl) rfl rfl (fun hg => (ev_g hg rfl)) rfl rfl ld_one ?_
              refine aops_g (wF rfl rfl rfl rfl) rfl (fun hg => (eff_move rfl rfl)) ?_
              refine aops_g (wF rfl rfl rfl rfl) rfl (fun hg => (eff_indexAddr_lst rfl (ev_g hg rfl) (ev_g hg rfl) (len_map (fun _ => rfl)) (by (try simp at hg) <;> first | omega | (simp only [List.length_map]; omega) | (simp only [List.length_map, List.length_drop]; omega)) (by (try simp at hg) <;> first | omega | (simp only [List.length_map]; omega) | (simp only [List.length_map, List.length_drop]; omega)))) ?_
              refine aops_g (wF rfl rfl rfl rfl) rfl (fun hg => (eff_fieldAddr rfl (ev_g hg rfl) rfl)) ?_
              refine aops_g (wF rfl rfl rfl rfl) rfl (fun hg => (eff_loadE rfl (ev_g hg rfl) (map_getD (by (try simp at hg) <;> first | assumption | omega | (simp only [List.length_drop]; omega))) ld_one)) ?_
              refine aops_g (wF rfl rfl rfl rfl) rfl (fun hg => (eff_len rfl (ev_g hg rfl) rfl rfl)) ?_
              refine aops_g (wF rfl rfl rfl rfl) rfl (fun hg => (eff_icmp rfl (ev_g hg rfl) rfl rfl)) ?_
              refine aops_e (w0 rfl) rfl (eff_or rfl rfl rfl (fun h => by rw [h]; rfl)) ?_
              refine aops_nil ?_
              refine awp_cond rfl ?_ ?_
              · intro hc
                have hq4 : greatI p.classes[i].methods[k].code[z] = true := by simp [greatI, List.getD, hz] at hc ⊢; omega
                refine awp_seq ?_
                refine awp_region ?_
                refine aops_e (w0 rfl) rfl (eff_assign rfl rfl) ?_
                refine aops_nil ?_
                refine awp_ret ?_
                exact retq rfl (res_tmp rfl res_nil) (gb (by unfold greatP; rw [any_hit hJ.2 hi (by unfold greatC; rw [any_hit hJ1.2 hk (by unfold greatM; rw [any_hit hJ2.2 hz hq4, Bool.or_true]), Bool.or_true]), Bool.or_true]))
              · intro hc
                have hq4 : greatI p.classes[i].methods[k].code[z] = false := by simp [greatI, List.getD, hz] at hc ⊢; omega
                refine awp_skip ?_
                refine awp_region ?_
                refine aops_e (w0 rfl) rfl (eff_move rfl rfl) ?_
                refine aops_e (w0 rfl) rfl (eff_arith rfl rfl rfl (arith_add (by first | omega | (simp only [List.length_map]; omega)))) ?_
                refine aops_e (w0 rfl) rfl (eff_assign rfl rfl) ?_
                refine aops_nil ?_
                refine ⟨z + 1, ⟨hz, any_next hJ2.2 hz hq4⟩, (by omega), ?_⟩
                exact weak_pick [0, 1, 2] ⟨rfl, rfl, rfl, rfl, rfl, rfl, trivial⟩ rfl (by decide) rfl rfl
            · intro hc
              have hz : ¬ z < p.classes[i].methods[k].code.length := by simpa using hc
              refine awp_exit ?_
              refine awp_region ?_
              refine aops_e (w0 rfl) rfl (eff_move rfl rfl) ?_
              refine aops_e (w0 rfl) rfl (eff_arith rfl rfl rfl (arith_add (by first | omega | (simp only [List.length_map]; omega)))) ?_
              refine aops_e (w0 rfl) rfl (eff_assign rfl rfl) ?_
              refine aops_nil ?_
              refine ⟨k + 1, ⟨hk, any_next hJ1.2 hk (by unfold greatM; rw [hq3, any_end hJ2.2 hz]; rfl)⟩, (by omega), ?_⟩
              exact weak_pick [1, 2] ⟨rfl, rfl, rfl, rfl, trivial⟩ rfl (by decide) rfl rfl
        · intro hc
          have hk : ¬ k < p.classes[i].methods.length := by simpa using hc
          refine awp_exit ?_
          refine awp_region ?_
          refine aops_e (w0 rfl) rfl (eff_move rfl rfl) ?_
          refine aops_e (w0 rfl) rfl (eff_arith rfl rfl rfl (arith_add (by first | omega | (simp only [List.length_map]; omega)))) ?_
          refine aops_e (w0 rfl) rfl (eff_assign rfl rfl) ?_
          refine aops_nil ?_
          refine ⟨i + 1, ⟨hi, any_next hJ.2 hi (by unfold greatC; rw [hq2, any_end hJ1.2 hk]; rfl)⟩, (by omega), ?_⟩
          exact weak_pick [1] ⟨rfl, rfl, trivial⟩ rfl (by decide) rfl rfl
    · intro hc
      have hi : ¬ i < p.classes.length := by simpa using hc
      refine awp_exit ?_
      refine awp_seq ?_
      refine awp_region ?_
      refine aops_e (w0 rfl) rfl (eff_assign rfl rfl) ?_
      refine aops_nil ?_
      refine awp_ret ?_
      exact retq rfl (res_tmp rfl res_nil) (gb (by unfold greatP; rw [hq, any_end hJ.2 hi]; rfl))

theorem c_ancestors (p : Prog) (hb : p.classes.length ≤ 1000) (hif : ∀ c, c ∈ p.classes → c.ifaces.length ≤ 1000) (nm : Str) : ACalls Try.prog 56 [p.av, sA nm] [] (MapN p nm) := by
  have hbs : small p.classes.length := by unfold small; omega
  refine acalls_of (n := 47) Try.func56 rfl (by decide +kernel) rfl rfl ?_
  refine awp_seq ?_
  refine awp_region ?_
  refine aops_n (w0 rfl) rfl (fun id => eff_box id rfl rfl rfl rfl rfl) (fun id1 => ?_)
  refine aops_e (w0 rfl) rfl (eff_assign rfl rfl) ?_
  refine aops_nil ?_
  refine awp_scope ?_
  refine awp_seq ?_
  refine awp_region ?_
  refine aops_n (w0 rfl) rfl (fun id => eff_makeMap id rfl) (fun id2 => ?_)
  refine aops_e (w0 rfl) rfl (eff_assign rfl rfl) ?_
  refine aops_nil ?_
  refine awp_seq ?_
  refine awp_region ?_
  refine aops_e (w0 rfl) rfl (eff_move rfl rfl) ?_
  refine aops_n (w0 rfl) rfl (fun id => eff_buildSlice id (ps := [(0, .tmp 11)]) rfl rfl rfl rfl rfl rfl rfl rfl) (fun id3 => ?_)
  refine aops_e (w0 rfl) rfl (eff_assign rfl rfl) ?_
  refine aops_nil ?_
  refine awp_seq ?_
  refine awp_label ?_
  refine awp_seq ?_
  refine awp_block ?_
  refine awp_loopJ (α := Nat × List Str × List Str) (fun x => ⟨[(6, .own x.1 1 0 x.2.1.length), (5, .map id2), (2, .ptr id1 5 0 0)], [(x.1, .rows 9 1 (x.2.1.map fun x => [sA x])), (id2, .mp (setM x.2.2)), (id1, .rows 39 5 [p.cells])], [], 47⟩) (fun x => AncJ p nm x.2.1 x.2.2 ∧ x.2.1.length ≤ 1 + 1001 * x.2.2.length) (fun x => (p.classes.length - x.2.2.length) * 1002 + x.2.1.length) (id3, [nm], []) ⟨AncJ.start p nm, by simp⟩ ?_ ?_
  · exact weak_pick [0, 1, 2] ⟨rfl, rfl, rfl, trivial⟩ rfl (by decide) rfl rfl
  rintro x hJ
  have hol := hJ.1.len
  have htl := hJ.2
  refine awp_seq ?_
  refine awp_seq ?_
  refine awp_region ?_
  refine aops_e (w0 rfl) rfl (eff_move rfl rfl) ?_
  refine aops_e (w0 rfl) rfl (eff_len rfl rfl rfl rfl) ?_
  refine aops_e (w0 rfl) rfl (eff_icmp rfl rfl rfl rfl) ?_
  refine aops_nil ?_
  refine awp_cond rfl ?_ ?_
  · intro hc
    have hpos : 0 < x.2.1.length := by simpa using hc
    obtain ⟨t, sx, ht⟩ : ∃ t sx, x.2.1 = t ++ [sx] := by rcases List.eq_nil_or_concat x.2.1 with h | ⟨t, sx, h⟩; rw [h] at hpos; simp at hpos; exact ⟨t, sx, by simpa using h⟩
    have htn : x.2.1.length = t.length + 1 := by rw [ht]; simp
    refine awp_skip ?_
    refine awp_block ?_
    refine awp_seq ?_
    refine awp_region ?_
    refine aops_e (w0 rfl) rfl (eff_move rfl rfl) ?_
    refine aops_e (w0 rfl) rfl (eff_move rfl rfl) ?_
    refine aops_e (w0 rfl) rfl (eff_len rfl rfl rfl rfl) ?_
    refine aops_e (w0 rfl) rfl (eff_arith rfl rfl rfl (arith_sub (by first | omega | (simp only [List.length_map]; omega)))) ?_
    refine aops_e (w0 rfl) rfl (eff_indexAddr_ownN t.length rfl rfl rfl (by first | omega | (simp only [List.length_map]; omega) | (simp only [List.length_map, List.length_drop]; omega)) (by first | omega | (simp only [List.length_map]; omega) | (simp only [List.length_map, List.length_drop]; omega)) (by simp only [List.length_map, htn]; omega)) ?_
    refine aops_load_ptr 0 (w0 rfl) rfl rfl rfl rfl (last_get ht rfl) ld_one ?_
    refine aops_e (w0 rfl) rfl (eff_assign rfl rfl) ?_
    refine aops_nil ?_
    refine awp_seq ?_
    refine awp_region ?_
    refine aops_e (w0 rfl) rfl (eff_move rfl rfl) ?_
    refine aops_e (w0 rfl) rfl (eff_move rfl rfl) ?_
    refine aops_e (w0 rfl) rfl (eff_len rfl rfl rfl rfl) ?_
    refine aops_e (w0 rfl) rfl (eff_arith rfl rfl rfl (arith_sub (by first | omega | (simp only [List.length_map]; omega)))) ?_
    refine aops_e (w0 rfl) rfl (eff_sliceTo_own rfl rfl rfl (by first | omega | (simp only [List.length_map]; omega) | (simp only [List.length_map, List.length_drop]; omega)) (by first | omega | (simp only [List.length_map]; omega) | (simp only [List.length_map, List.length_drop]; omega))) ?_
    refine aops_e (w0 rfl) rfl (eff_assign rfl rfl) ?_
    refine aops_nil ?_
    refine awp_seq ?_
    refine opt_cases (clsFind p sx) (fun hk => ?_) (fun c hk => ?_)
    · skip
      refine awp_weak (weak_shrink (m := x.2.1.length - 1) 0 rfl) ?_
      refine awp_region ?_
      refine aops_load_ptr 2 (w0 rfl) rfl rfl rfl rfl rfl (ld_agg (Nat.le_of_ble_eq_true rfl)) ?_
      refine aops_e (w0 rfl) rfl (eff_move rfl rfl) ?_
      refine aops_e (w0 rfl) rfl (eff_call [] rfl rfl rfl (c_known p hbs sx hk) List.nodup_nil) ?_
      refine aops_e (w0 rfl) rfl (eff_move rfl rfl) ?_
      refine aops_e (w0 rfl) rfl (eff_extract rfl rfl rfl) ?_
      refine aops_e (w0 rfl) rfl (eff_extract rfl rfl rfl) ?_
      refine aops_n (w0 rfl) rfl (fun id => eff_alloc id rfl rfl rfl) (fun id4 => ?_)
      refine aops_store 0 (w0 rfl) rfl rfl rfl rfl rfl rfl rfl rfl rfl ?_
      refine aops_e (w0 rfl) rfl (eff_assign rfl rfl) ?_
      refine aops_nil ?_
      refine awp_seq ?_
      refine awp_seq ?_
      refine awp_region ?_
      refine aops_e (w0 rfl) rfl (eff_move rfl rfl) ?_
      refine aops_e (w0 rfl) rfl (eff_not rfl rfl) ?_
      refine aops_e (w0 rfl) rfl (eff_move rfl rfl) ?_
      refine aops_g (wF rfl rfl rfl rfl) rfl (fun hg => (eff_move rfl rfl)) ?_
      refine aops_g (wF rfl rfl rfl rfl) rfl (fun hg => (eff_move rfl rfl)) ?_
      refine aops_ghasS (out := x.2.2) 2 (wF rfl rfl rfl rfl) rfl rfl (fun hg => (ev_g hg rfl)) (fun hg => (ev_g hg rfl)) rfl ?_
      refine aops_e (w0 rfl) rfl (eff_or rfl rfl rfl (fun h => by rw [h]; rfl)) ?_
      refine aops_nil ?_
      refine awp_cond rfl ?_ ?_
      · intro hc
        have hsk : clsFind p sx = none ∨ sx ∈ x.2.2 := .inl hk
        refine awp_exit ?_
        refine ⟨(x.1, t, x.2.2), ⟨(by rw [ht] at hJ; exact hJ.1.skip hsk), (by have := hJ.2; rw [ht] at this; simp at this ⊢; omega)⟩, (by simp [ht]), ?_⟩
        exact weak_pick [1, 2, 3] ⟨(by show some (AV.own _ _ _ _) = some (AV.own _ _ _ _); simp [ht]), rfl, rfl, trivial⟩ (by show some [(_, AObj.rows _ _ _), _, _] = some [(_, AObj.rows _ _ _), _, _]; simp [ht, cellsA]) (by decide) rfl rfl
      · intro hc
        simp at hc
    · skip
      have hul := upC_len (hif c (clsFind_name hk).2)
      refine awp_weak (weak_shrink (m := x.2.1.length - 1) 0 rfl) ?_
      refine awp_region ?_
      refine aops_load_ptr 2 (w0 rfl) rfl rfl rfl rfl rfl (ld_agg (Nat.le_of_ble_eq_true rfl)) ?_
      refine aops_e (w0 rfl) rfl (eff_move rfl rfl) ?_
      refine aops_e (w0 rfl) rfl (eff_call [] rfl rfl rfl (c_known p hbs sx hk) List.nodup_nil) ?_
      refine aops_e (w0 rfl) rfl (eff_move rfl rfl) ?_
      refine aops_e (w0 rfl) rfl (eff_extract rfl rfl rfl) ?_
      refine aops_e (w0 rfl) rfl (eff_extract rfl rfl rfl) ?_
      refine aops_n (w0 rfl) rfl (fun id => eff_alloc id rfl rfl rfl) (fun id5 => ?_)
      refine aops_store 0 (w0 rfl) rfl rfl rfl rfl rfl rfl rfl rfl rfl ?_
      refine aops_e (w0 rfl) rfl (eff_assign rfl rfl) ?_
      refine aops_nil ?_
      refine awp_seq ?_
      refine awp_seq ?_
      refine awp_region ?_
      refine aops_e (w0 rfl) rfl (eff_move rfl rfl) ?_
      refine aops_e (w0 rfl) rfl (eff_not rfl rfl) ?_
      refine aops_e (w0 rfl) rfl (eff_move rfl rfl) ?_
      refine aops_g (wF rfl rfl rfl rfl) rfl (fun hg => (eff_move rfl rfl)) ?_
      refine aops_g (wF rfl rfl rfl rfl) rfl (fun hg => (eff_move rfl rfl)) ?_
      refine aops_ghasS (out := x.2.2) 2 (wF rfl rfl rfl rfl) rfl rfl (fun hg => (ev_g hg rfl)) (fun hg => (ev_g hg rfl)) rfl ?_
      refine aops_e (w0 rfl) rfl (eff_or rfl rfl rfl (fun h => by rw [h]; rfl)) ?_
      refine aops_nil ?_
      refine awp_cond rfl ?_ ?_
      · intro hc
        have hsk : clsFind p sx = none ∨ sx ∈ x.2.2 := .inr (inL_mem.1 (by simpa using hc))
        refine awp_exit ?_
        refine ⟨(x.1, t, x.2.2), ⟨(by rw [ht] at hJ; exact hJ.1.skip hsk), (by have := hJ.2; rw [ht] at this; simp at this ⊢; omega)⟩, (by simp [ht]), ?_⟩
        exact weak_pick [1, 2, 3] ⟨(by show some (AV.own _ _ _ _) = some (AV.own _ _ _ _); simp [ht]), rfl, rfl, trivial⟩ (by show some [(_, AObj.rows _ _ _), _, _] = some [(_, AObj.rows _ _ _), _, _]; simp [ht, cellsA]) (by decide) rfl rfl
      · intro hc
        have hnin : sx ∉ x.2.2 := inL_false.1 (by simpa using hc)
        have hlt := (show AncJ p nm (t ++ [sx]) x.2.2 from ht ▸ hJ.1).lt hk hnin
        refine awp_skip ?_
        refine awp_seq ?_
        refine awp_region ?_
        refine aops_e (w0 rfl) rfl (eff_move rfl rfl) ?_
        refine aops_e (w0 rfl) rfl (eff_move rfl rfl) ?_
        refine aops_putS (out := x.2.2) 2 (w0 rfl) rfl rfl rfl rfl rfl rfl (inL_false.2 hnin) ?_
        refine aops_nil ?_
        refine awp_region ?_
        refine aops_e (w0 rfl) rfl (eff_move rfl rfl) ?_
        refine aops_load_ptr 0 (w0 rfl) rfl rfl rfl rfl rfl (ld_agg (Nat.le_of_ble_eq_true rfl)) ?_
        refine aops_e (w0 rfl) rfl (eff_call [] rfl rfl rfl (c_up c (hif c (clsFind_name hk).2)) List.nodup_nil) ?_
        refine aops_append 1 (w0 rfl) rfl rfl rfl rfl (by simp) rfl ⟨rfl, len_map (fun _ => rfl)⟩ (by first | omega | (simp; omega) | (simp [maxLen]; omega) | (simp; done) | (simp [maxLen]; done)) (by first | omega | (simp; omega) | (simp [maxLen]; omega) | (simp; done) | (simp [maxLen]; done)) (fun id6 => ?_)
        refine aops_e (w0 rfl) rfl (eff_assign rfl rfl) ?_
        refine aops_nil ?_
        refine ⟨(id6, t ++ upC c, x.2.2 ++ [sx]), ⟨(by rw [ht] at hJ; exact hJ.1.add hk hnin), (by have := hJ.2; rw [ht] at this; simp at this ⊢; omega)⟩, (by simp [ht]; omega), ?_⟩
        exact weak_pick [1, 2, 3] ⟨(by show some (AV.own _ _ _ _) = some (AV.own _ _ _ _); simp [ht]), rfl, rfl, trivial⟩ (by show some [(_, AObj.rows _ _ _), _, _] = some [(_, AObj.rows _ _ _), _, _]; simp [ht, cellsA]) (by decide) rfl rfl
  · intro hc
    have h0 : ¬ 0 < x.2.1.length := by simpa using hc
    have hz : x.2.1 = [] := List.eq_nil_of_length_eq_zero (by omega)
    refine awp_exit ?_
    refine awp_seq ?_
    refine awp_region ?_
    refine aops_e (w0 rfl) rfl (eff_move rfl rfl) ?_
    refine aops_e (w0 rfl) rfl (eff_assign rfl rfl) ?_
    refine aops_nil ?_
    refine awp_ret ?_
    exact retq_keep rfl (res_tmp rfl res_nil) (.cons _ (.cons_cons _ (List.nil_sublist _))) ⟨id2, x.2.2, rfl, rfl, hJ.1.nd, hol, fun s => (show AncJ p nm [] x.2.2 from hz ▸ hJ.1).fin s⟩

theorem c_sub (p : Prog) (hb : p.classes.length ≤ 1000) (hif : ∀ c, c ∈ p.classes → c.ifaces.length ≤ 1000) (a b : Str) : ACalls Try.prog 40 [p.av, sA a, sA b] [] (Gives (bA (subP p a b))) := by
  refine acalls_of (n := 12) Try.func40 rfl (by decide +kernel) rfl rfl ?_
  refine awp_seq ?_
  refine awp_region ?_
  refine aops_n (w0 rfl) rfl (fun id => eff_box id rfl rfl rfl rfl rfl) (fun id1 => ?_)
  refine aops_e (w0 rfl) rfl (eff_assign rfl rfl) ?_
  refine aops_nil ?_
  refine awp_seq ?_
  refine awp_region ?_
  refine aops_load_ptr 0 (w0 rfl) rfl rfl rfl rfl rfl (ld_agg (Nat.le_of_ble_eq_true rfl)) ?_
  refine aops_e (w0 rfl) rfl (eff_move rfl rfl) ?_
  refine aops_callR (w0 rfl) rfl rfl rfl rfl (c_ancestors p hb hif a) (fun ch H' hR => by obtain ⟨_, _, h, _⟩ := hR; cases h) (fun y Hy hR => ?_)
  obtain ⟨idm, out, hR, rfl, _, _, hout⟩ := hR
  cases hR
  refine aops_e (w0 rfl) rfl (eff_move rfl rfl) ?_
  refine aops_hasS (out := out) 0 (w0 rfl) rfl rfl rfl rfl rfl ?_
  refine aops_e (w0 rfl) rfl (eff_assign rfl rfl) ?_
  refine aops_nil ?_
  refine awp_ret ?_
  exact retq rfl (res_tmp rfl res_nil) (gb (inL_subP hout))

theorem c_rising (l : List Str) (hl : l.length ≤ 1000) : ACalls Try.prog 67 [row1 sA l] [] (Gives (row1 sA (risF l))) := by
  have hdl := dd_len l
  refine acalls_of (n := 69) Try.func67 rfl (by decide +kernel) rfl rfl ?_
  refine awp_seq ?_
  refine awp_region ?_
  refine aops_e (w0 rfl) rfl (eff_assign rfl rfl) ?_
  refine aops_nil ?_
  refine awp_seq ?_
  refine awp_region ?_
  refine aops_n (w0 rfl) rfl (fun id => eff_nil id 9 1 (.inl rfl) rfl) (fun id1 => ?_)
  refine aops_nil ?_
  refine awp_seq ?_
  refine awp_seq ?_
  refine awp_region ?_
  refine aops_e (w0 rfl) rfl (eff_assign rfl rfl) ?_
  refine aops_nil ?_
  refine awp_block ?_
  refine awp_loopJ (α := Nat × Nat) (fun x => ⟨[(4, iA x.2), (3, .own x.1 1 0 (dd (l.take x.2)).length), (0, row1 sA l)], [(x.1, .rows 9 1 ((dd (l.take x.2)).map fun x => [sA x]))], [], 69⟩) (fun x => x.2 ≤ l.length) (fun x => l.length - x.2) (id1, 0) (Nat.zero_le _) ?_ ?_
  · exact weak_pick [0] ⟨rfl, rfl, rfl, trivial⟩ rfl (by decide) rfl rfl
  rintro x hJ
  have hdt := dd_len (l.take x.2)
  rw [List.length_take] at hdt
  have hos : small (dd (l.take x.2)).length := by unfold small; omega
  refine awp_seq ?_
  refine awp_seq ?_
  refine awp_region ?_
  refine aops_e (w0 rfl) rfl (eff_move rfl rfl) ?_
  refine aops_e (w0 rfl) rfl (eff_move rfl rfl) ?_
  refine aops_e (w0 rfl) rfl (eff_len rfl rfl rfl rfl) ?_
  refine aops_e (w0 rfl) rfl (eff_icmp rfl rfl rfl rfl) ?_
  refine aops_nil ?_
  refine awp_cond rfl ?_ ?_
  · intro hc
    have hx : x.2 < l.length := by simpa using hc
    refine awp_skip ?_
    refine awp_seq ?_
    refine awp_block ?_
    refine awp_seq ?_
    refine awp_region ?_
    refine aops_e (w0 rfl) rfl (eff_move rfl rfl) ?_
    refine aops_e (w0 rfl) rfl (eff_move rfl rfl) ?_
    refine aops_e (w0 rfl) rfl (eff_move rfl rfl) ?_
    refine aops_e (w0 rfl) rfl (eff_indexAddr_lst rfl rfl rfl (len_map (fun _ => rfl)) (by first | omega | (simp only [List.length_map]; omega) | (simp only [List.length_map, List.length_drop]; omega)) (by first | omega | (simp only [List.length_map]; omega) | (simp only [List.length_map, List.length_drop]; omega))) ?_
    refine aops_e (w0 rfl) rfl (eff_loadE rfl rfl (map_get (by first | assumption | omega | (simp only [List.length_drop]; omega))) ld_one) ?_
    refine aops_lend 0 (w0 rfl) rfl rfl rfl rfl rfl (.lend (by simp) (.keep .nil)) (c_in (dd (l.take x.2)) hos _) rfl ?_
    refine aops_e (w0 rfl) rfl (eff_not rfl rfl) ?_
    refine aops_nil ?_
    refine awp_cond rfl ?_ ?_
    · intro hc
      have hin : inL (dd (l.take x.2)) l[x.2] = false := notT hc
      have e : dd (l.take (x.2 + 1)) = dd (l.take x.2) ++ [l[x.2]] := by rw [dd_take hx, ddS, hin]; rfl
      refine awp_region ?_
      refine aops_e (w0 rfl) rfl (eff_move rfl rfl) ?_
      refine aops_e (w0 rfl) rfl (eff_move rfl rfl) ?_
      refine aops_e (w0 rfl) rfl (eff_move rfl rfl) ?_
      refine aops_e (w0 rfl) rfl (eff_indexAddr_lst rfl rfl rfl (len_map (fun _ => rfl)) (by first | omega | (simp only [List.length_map]; omega) | (simp only [List.length_map, List.length_drop]; omega)) (by first | omega | (simp only [List.length_map]; omega) | (simp only [List.length_map, List.length_drop]; omega))) ?_
      refine aops_e (w0 rfl) rfl (eff_loadE rfl rfl (map_get (by first | assumption | omega | (simp only [List.length_drop]; omega))) ld_one) ?_
      refine aops_n (w0 rfl) rfl (fun id => eff_buildSlice id (ps := [(0, .tmp 25)]) rfl rfl rfl rfl rfl rfl rfl rfl) (fun id2 => ?_)
      refine aops_append 1 (w0 rfl) rfl rfl rfl rfl (by simp) rfl ⟨rfl, _, _, List.mem_of_getElem? (i := 0) rfl, by simp, rfl⟩ (by first | omega | (simp; omega) | (simp [maxLen]; omega) | (simp; done) | (simp [maxLen]; done)) (by first | omega | (simp; omega) | (simp [maxLen]; omega) | (simp; done) | (simp [maxLen]; done)) (fun id3 => ?_)
      refine aops_e (w0 rfl) rfl (eff_assign rfl rfl) ?_
      refine aops_nil ?_
      refine awp_region ?_
      refine aops_e (w0 rfl) rfl (eff_move rfl rfl) ?_
      refine aops_e (w0 rfl) rfl (eff_arith rfl rfl rfl (arith_add (by first | omega | (simp only [List.length_map]; omega)))) ?_
      refine aops_e (w0 rfl) rfl (eff_assign rfl rfl) ?_
      refine aops_nil ?_
      refine ⟨(id3, x.2 + 1), (by show x.2 + 1 ≤ l.length; omega), (by show l.length - (x.2 + 1) < l.length - x.2; omega), ?_⟩
      exact weak_pick [1] ⟨rfl, (by show some (AV.own _ _ _ _) = some (AV.own _ _ _ _); first | (rw [e]; done) | (rw [e]; simp [cellsA])), rfl, trivial⟩ (by show some [(_, AObj.rows _ _ _)] = some [(_, AObj.rows _ _ _)]; first | (rw [e]; done) | (rw [e]; simp [cellsA])) (by decide) rfl rfl
    · intro hc
      have hin : inL (dd (l.take x.2)) l[x.2] = true := notF hc
      have e : dd (l.take (x.2 + 1)) = dd (l.take x.2) := by rw [dd_take hx, ddS, hin]; rfl
      refine awp_skip ?_
      refine awp_region ?_
      refine aops_e (w0 rfl) rfl (eff_move rfl rfl) ?_
      refine aops_e (w0 rfl) rfl (eff_arith rfl rfl rfl (arith_add (by first | omega | (simp only [List.length_map]; omega)))) ?_
      refine aops_e (w0 rfl) rfl (eff_assign rfl rfl) ?_
      refine aops_nil ?_
      refine ⟨(x.1, x.2 + 1), (by show x.2 + 1 ≤ l.length; omega), (by show l.length - (x.2 + 1) < l.length - x.2; omega), ?_⟩
      exact weak_pick [0] ⟨rfl, (by show some (AV.own _ _ _ _) = some (AV.own _ _ _ _); first | (rw [e]; done) | (rw [e]; simp [cellsA])), rfl, trivial⟩ (by show some [(_, AObj.rows _ _ _)] = some [(_, AObj.rows _ _ _)]; first | (rw [e]; done) | (rw [e]; simp [cellsA])) (by decide) rfl rfl
  · intro hc
    have hx : ¬ x.2 < l.length := by simpa using hc
    have e0 : dd (l.take x.2) = dd l := by rw [List.take_of_length_le (by omega)]
    refine awp_exit ?_
    refine awp_seq ?_
    refine awp_seq ?_
    refine awp_region ?_
    refine aops_e (w0 rfl) rfl (eff_assign rfl rfl) ?_
    refine aops_nil ?_
    refine awp_block ?_
    refine awp_loopJ (α := List Str × Nat) (fun y => ⟨[(5, iA y.2), (3, .own x.1 1 0 y.1.length)], [(x.1, .rows 9 1 (y.1.map fun x => [sA x]))], [], 69⟩) (fun y => 1 ≤ y.2 ∧ y.1.length = (dd l).length ∧ outF ((dd l).length - y.2) y.2 y.1 = risF l) (fun y => (dd l).length - y.2) (dd l, 1) ⟨Nat.le_refl _, rfl, rfl⟩ ?_ ?_
    · exact weak_pick [0] ⟨rfl, (by show some (AV.own _ _ _ _) = some (AV.own _ _ _ _); rw [e0]), trivial⟩ (by show some [(_, AObj.rows _ _ _)] = some [(_, AObj.rows _ _ _)]; rw [e0]) (by decide) rfl rfl
    rintro y hJ1
    refine awp_seq ?_
    refine awp_seq ?_
    refine awp_region ?_
    refine aops_e (w0 rfl) rfl (eff_move rfl rfl) ?_
    refine aops_e (w0 rfl) rfl (eff_move rfl rfl) ?_
    refine aops_e (w0 rfl) rfl (eff_len rfl rfl rfl rfl) ?_
    refine aops_e (w0 rfl) rfl (eff_icmp rfl rfl rfl rfl) ?_
    refine aops_nil ?_
    refine awp_cond rfl ?_ ?_
    · intro hc
      have hy : y.2 < y.1.length := by simpa using hc
      refine awp_skip ?_
      refine awp_seq ?_
      refine awp_block ?_
      refine awp_seq ?_
      refine awp_region ?_
      refine aops_e (w0 rfl) rfl (eff_move rfl rfl) ?_
      refine aops_e (w0 rfl) rfl (eff_assign rfl rfl) ?_
      refine aops_nil ?_
      refine awp_block ?_
      refine awp_loopJ (α := List Str × Nat) (fun z => ⟨[(6, iA z.2), (3, .own x.1 1 0 z.1.length), (5, iA y.2)], [(x.1, .rows 9 1 (z.1.map fun x => [sA x]))], [], 69⟩) (fun z => z.2 ≤ y.2 ∧ z.1.length = y.1.length ∧ insK z.2 z.1 = insK y.2 y.1) (fun z => z.2) (y.1, y.2) ⟨Nat.le_refl _, rfl, rfl⟩ ?_ ?_
      · exact weak_pick [0] ⟨rfl, rfl, rfl, trivial⟩ rfl (by decide) rfl rfl
      rintro z hJ2
      refine awp_seq ?_
      refine awp_seq ?_
      refine awp_drawM [0, 1, 3, 7, 7, 31, 63, 7, 7, 263, 903, 1927, 4095, 8191] 14 rfl (by kernel_rfl) ?_
      refine calm_e (w0 rfl) rfl (eff_move rfl rfl) ?_
      refine calm_e (w0 rfl) rfl (eff_icmp rfl rfl rfl rfl) ?_
      refine calm_e (w0 rfl) rfl (eff_move rfl rfl) ?_
      refine calm_g (wT rfl rfl rfl rfl) rfl (fun hg => (eff_move rfl rfl)) ?_
      refine calm_g (wT rfl rfl rfl rfl) rfl (fun hg => (eff_move rfl rfl)) ?_
      refine calm_g (wT rfl rfl rfl rfl) rfl (fun hg => (eff_indexAddr_ownN z.2 rfl (ev_g hg rfl) (ev_g hg rfl) (by (try simp at hg) <;> first | omega | (simp only [List.length_map]; omega) | (simp only [List.length_map, List.length_drop]; omega)) (by (try simp at hg) <;> first | omega | (simp only [List.length_map]; omega) | (simp only [List.length_map, List.length_drop]; omega)) (by omega))) ?_
      refine calm_gload 0 (wT rfl rfl rfl rfl) rfl rfl (fun hg => (ev_g hg rfl)) rfl (own_get (by omega)) ld_one ?_
      refine calm_g (wT rfl rfl rfl rfl) rfl (fun hg => (eff_move rfl rfl)) ?_
      refine calm_g (wT rfl rfl rfl rfl) rfl (fun hg => (eff_move rfl rfl)) ?_
      refine calm_g (wT rfl rfl rfl rfl) rfl (fun hg => (eff_arith rfl (ev_g hg rfl) rfl (arith_sub (by first | omega | (simp only [List.length_map]; omega))))) ?_
      refine calm_g (wT rfl rfl rfl rfl) rfl (fun hg => (eff_indexAddr_ownN (z.2 - 1) rfl (ev_g hg rfl) (ev_g hg rfl) (by (try simp at hg) <;> first | omega | (simp only [List.length_map]; omega) | (simp only [List.length_map, List.length_drop]; omega)) (by (try simp at hg) <;> first | omega | (simp only [List.length_map]; omega) | (simp only [List.length_map, List.length_drop]; omega)) (by omega))) ?_
      refine calm_gload 0 (wT rfl rfl rfl rfl) rfl rfl (fun hg => (ev_g hg rfl)) rfl (own_get (by omega)) ld_one ?_
      refine calm_g (wT rfl rfl rfl rfl) rfl (fun hg => (eff_scmp rfl (ev_g hg rfl) (ev_g hg rfl) rfl)) ?_
      refine calm_e (w0 rfl) rfl (eff_and rfl rfl rfl (fun h => h)) ?_
      refine .done ?_
      refine aops_nil ?_
      refine awp_cond rfl ?_ ?_
      · intro hc
        have hk : 0 < z.2 := by simp at hc; omega
        have hsw := insK_swap hk (by have := andR hc; exact this)
        refine awp_skip ?_
        refine awp_seq ?_
        refine awp_block ?_
        refine awp_seq ?_
        refine awp_region ?_
        refine aops_e (w0 rfl) rfl (eff_move rfl rfl) ?_
        refine aops_e (w0 rfl) rfl (eff_move rfl rfl) ?_
        refine aops_e (w0 rfl) rfl (eff_indexAddr_ownN z.2 rfl rfl rfl (by first | omega | (simp only [List.length_map]; omega) | (simp only [List.length_map, List.length_drop]; omega)) (by first | omega | (simp only [List.length_map]; omega) | (simp only [List.length_map, List.length_drop]; omega)) (by omega)) ?_
        refine aops_load_ptr 0 (w0 rfl) rfl rfl rfl rfl (own_get (by omega)) ld_one ?_
        refine aops_e (w0 rfl) rfl (eff_assign rfl rfl) ?_
        refine aops_nil ?_
        refine awp_seq ?_
        refine awp_region ?_
        refine aops_e (w0 rfl) rfl (eff_move rfl rfl) ?_
        refine aops_e (w0 rfl) rfl (eff_move rfl rfl) ?_
        refine aops_e (w0 rfl) rfl (eff_move rfl rfl) ?_
        refine aops_e (w0 rfl) rfl (eff_move rfl rfl) ?_
        refine aops_e (w0 rfl) rfl (eff_arith rfl rfl rfl (arith_sub (by first | omega | (simp only [List.length_map]; omega)))) ?_
        refine aops_e (w0 rfl) rfl (eff_indexAddr_ownN (z.2 - 1) rfl rfl rfl (by first | omega | (simp only [List.length_map]; omega) | (simp only [List.length_map, List.length_drop]; omega)) (by first | omega | (simp only [List.length_map]; omega) | (simp only [List.length_map, List.length_drop]; omega)) (by omega)) ?_
        refine aops_load_ptr 0 (w0 rfl) rfl rfl rfl rfl (own_get (by omega)) ld_one ?_
        refine aops_e (w0 rfl) rfl (eff_indexAddr_ownN z.2 rfl rfl rfl (by first | omega | (simp only [List.length_map]; omega) | (simp only [List.length_map, List.length_drop]; omega)) (by first | omega | (simp only [List.length_map]; omega) | (simp only [List.length_map, List.length_drop]; omega)) (by omega)) ?_
        refine aops_storeS 0 rfl (w0 rfl) rfl rfl rfl rfl (by omega) rfl ?_
        refine aops_nil ?_
        refine awp_region ?_
        refine aops_e (w0 rfl) rfl (eff_move rfl rfl) ?_
        refine aops_e (w0 rfl) rfl (eff_move rfl rfl) ?_
        refine aops_e (w0 rfl) rfl (eff_arith rfl rfl rfl (arith_sub (by first | omega | (simp only [List.length_map]; omega)))) ?_
        refine aops_e (w0 rfl) rfl (eff_move rfl rfl) ?_
        refine aops_e (w0 rfl) rfl (eff_indexAddr_ownN (z.2 - 1) rfl rfl rfl (by first | omega | (simp only [List.length_map]; omega) | (simp only [List.length_map, List.length_drop]; omega)) (by first | omega | (simp only [List.length_map]; omega) | (simp only [List.length_map, List.length_drop]; omega)) (by omega)) ?_
        refine aops_storeS 0 rfl (w0 rfl) rfl rfl rfl rfl (by simp; omega) rfl ?_
        refine aops_nil ?_
        refine awp_region ?_
        refine aops_e (w0 rfl) rfl (eff_move rfl rfl) ?_
        refine aops_e (w0 rfl) rfl (eff_arith rfl rfl rfl (arith_sub (by first | omega | (simp only [List.length_map]; omega)))) ?_
        refine aops_e (w0 rfl) rfl (eff_assign rfl rfl) ?_
        refine aops_nil ?_
        refine ⟨((z.1.set z.2 (z.1.getD (z.2 - 1) default)).set (z.2 - 1) (z.1.getD z.2 default), z.2 - 1), ⟨by show z.2 - 1 ≤ y.2; omega, by simp; omega, hsw.symm.trans hJ2.2.2⟩, (by show z.2 - 1 < z.2; omega), ?_⟩
        exact weak_pick [0] ⟨(congrArg (fun n => some (iA n)) (by omega)), (by show some (AV.own _ _ _ _) = some (AV.own _ _ _ _); simp), rfl, trivial⟩ rfl (by decide) rfl rfl
      · intro hc
        have hst : z.1 = insK y.2 y.1 := by rw [← hJ2.2.2]; exact (insK_stop hc).symm
        refine awp_exit ?_
        refine awp_region ?_
        refine aops_e (w0 rfl) rfl (eff_move rfl rfl) ?_
        refine aops_e (w0 rfl) rfl (eff_arith rfl rfl rfl (arith_add (by first | omega | (simp only [List.length_map]; omega)))) ?_
        refine aops_e (w0 rfl) rfl (eff_assign rfl rfl) ?_
        refine aops_nil ?_
        refine ⟨(z.1, y.2 + 1), ⟨by show 1 ≤ y.2 + 1; omega, by show z.1.length = _; omega, by show outF ((dd l).length - (y.2 + 1)) (y.2 + 1) z.1 = _; rw [hst, ← outF_step (by omega)]; exact hJ1.2.2⟩, (by show (dd l).length - (y.2 + 1) < (dd l).length - y.2; omega), ?_⟩
        exact weak_pick [0] ⟨rfl, rfl, trivial⟩ rfl (by decide) rfl rfl
    · intro hc
      have hy : ¬ y.2 < y.1.length := by simpa using hc
      have hfin : y.1 = risF l := by have := hJ1.2.2; rwa [show (dd l).length - y.2 = 0 from by omega] at this
      refine awp_exit ?_
      refine awp_seq ?_
      refine awp_region ?_
      refine aops_e (w0 rfl) rfl (eff_move rfl rfl) ?_
      refine aops_e (w0 rfl) rfl (eff_assign rfl rfl) ?_
      refine aops_nil ?_
      refine awp_ret ?_
      exact retq_frz 0 rfl rfl rfl rfl (by simp) (by rw [← hfin]; rfl)

theorem c_refAnc (p : Prog) (hb : p.classes.length ≤ 1000) (hif : ∀ c, c ∈ p.classes → c.ifaces.length ≤ 1000) (nm : Str) : ACalls Try.prog 58 [p.av, sA nm] [] (GSome (row1 sA) (fun l => ∃ out : List Str, l = risF out ∧ (∀ s, s ∈ out ↔ Anc p nm s) ∧ out.length ≤ 1000)) := by
  have hbs : small p.classes.length := by unfold small; omega
  refine acalls_of (n := 77) Try.func58 rfl (by decide +kernel) rfl rfl ?_
  refine awp_seq ?_
  refine awp_region ?_
  refine aops_n (w0 rfl) rfl (fun id => eff_box id rfl rfl rfl rfl rfl) (fun id1 => ?_)
  refine aops_e (w0 rfl) rfl (eff_assign rfl rfl) ?_
  refine aops_nil ?_
  refine awp_seq ?_
  refine awp_region ?_
  refine aops_n (w0 rfl) rfl (fun id => eff_nil id 9 1 (.inl rfl) rfl) (fun id2 => ?_)
  refine aops_nil ?_
  refine awp_seq ?_
  refine awp_seq ?_
  refine awp_region ?_
  refine aops_load_ptr 1 (w0 rfl) rfl rfl rfl rfl rfl (ld_agg (Nat.le_of_ble_eq_true rfl)) ?_
  refine aops_e (w0 rfl) rfl (eff_move rfl rfl) ?_
  refine aops_e (w0 rfl) rfl (eff_call [] rfl rfl rfl (c_class p hbs nm) List.nodup_nil) ?_
  refine aops_e (w0 rfl) rfl (eff_icmp rfl rfl rfl rfl) ?_
  refine aops_nil ?_
  refine awp_cond rfl ?_ ?_
  · intro hc
    have hh : hasC p nm = true := (classAt_nn p nm).symm.trans hc
    refine awp_region ?_
    refine aops_e (w0 rfl) rfl (eff_move rfl rfl) ?_
    refine aops_e (w0 rfl) rfl (eff_move rfl rfl) ?_
    refine aops_n (w0 rfl) rfl (fun id => eff_buildSlice id (ps := [(0, .tmp 15)]) rfl rfl rfl rfl rfl rfl rfl rfl) (fun id3 => ?_)
    refine aops_append 1 (w0 rfl) rfl rfl rfl rfl rfl rfl ⟨rfl, _, _, List.mem_of_getElem? (i := 0) rfl, by simp, rfl⟩ (by first | omega | (simp; omega) | (simp [maxLen]; omega) | (simp; done) | (simp [maxLen]; done)) (by first | omega | (simp; omega) | (simp [maxLen]; omega) | (simp; done) | (simp [maxLen]; done)) (fun id4 => ?_)
    refine aops_e (w0 rfl) rfl (eff_assign rfl rfl) ?_
    refine aops_nil ?_
    refine awp_seq ?_
    refine awp_seq ?_
    refine awp_region ?_
    refine aops_e (w0 rfl) rfl (eff_assign rfl rfl) ?_
    refine aops_nil ?_
    refine awp_block ?_
    refine awp_loopJ (α := Nat × List Str × Nat) (fun x => ⟨[(6, iA x.2.2), (5, .own x.1 1 0 x.2.1.length), (2, .ptr id1 5 0 0)], [(x.1, .rows 9 1 (x.2.1.map fun x => [sA x])), (id1, .rows 39 5 [p.cells])], [], 77⟩) (fun x => AncB p nm x.2.1 x.2.2) (fun x => p.classes.length - x.2.2) (id4, [nm], 0) (AncB.start1 hh) ?_ ?_
    · exact weak_pick [1, 2] ⟨rfl, rfl, rfl, trivial⟩ rfl (by decide) rfl rfl
    rintro x hJ
    have hol := hJ.len
    refine awp_seq ?_
    refine awp_seq ?_
    refine awp_region ?_
    refine aops_e (w0 rfl) rfl (eff_move rfl rfl) ?_
    refine aops_e (w0 rfl) rfl (eff_move rfl rfl) ?_
    refine aops_e (w0 rfl) rfl (eff_len rfl rfl rfl rfl) ?_
    refine aops_e (w0 rfl) rfl (eff_icmp rfl rfl rfl rfl) ?_
    refine aops_nil ?_
    refine awp_cond rfl ?_ ?_
    · intro hc
      have hx : x.2.2 < x.2.1.length := by simpa using hc
      refine awp_skip ?_
      refine awp_seq ?_
      refine awp_block ?_
      refine awp_seq ?_
      obtain ⟨j, hj, h1, h2⟩ := hJ.idx hx
      have hif1 := hif _ (List.getElem_mem hj)
      have hul := upC_len hif1
      refine awp_drawN 11 rfl (by kernel_rfl) ?_
      refine calm_e (w0 rfl) rfl (eff_fieldAddr rfl rfl rfl) ?_
      refine calm_load_ptr 1 (w0 rfl) rfl rfl rfl rfl rfl ld_one ?_
      refine calm_load_ptr 1 (w0 rfl) rfl rfl rfl rfl rfl (ld_agg (Nat.le_of_ble_eq_true rfl)) ?_
      refine calm_e (w0 rfl) rfl (eff_move rfl rfl) ?_
      refine calm_e (w0 rfl) rfl (eff_move rfl rfl) ?_
      refine calm_e (w0 rfl) rfl (eff_indexAddr_ownN x.2.2 rfl rfl rfl (by first | omega | (simp only [List.length_map]; omega) | (simp only [List.length_map, List.length_drop]; omega)) (by first | omega | (simp only [List.length_map]; omega) | (simp only [List.length_map, List.length_drop]; omega)) (by omega)) ?_
      refine calm_load_ptr 0 (w0 rfl) rfl rfl rfl rfl (own_get (by omega)) ld_one ?_
      refine calm_e (w0 rfl) rfl (eff_call [] rfl rfl rfl (show ACalls Try.prog 66 [p.av, sA (x.2.1.getD x.2.2 default)] [] (Gives (iA j)) from h1 ▸ c_class p hbs _) List.nodup_nil) ?_
      refine calm_e (w0 rfl) rfl (eff_indexAddr_lst rfl rfl rfl (len_map (fun _ => rfl)) (by first | omega | (simp only [List.length_map]; omega) | (simp only [List.length_map, List.length_drop]; omega)) (by first | omega | (simp only [List.length_map]; omega) | (simp only [List.length_map, List.length_drop]; omega))) ?_
      refine calm_e (w0 rfl) rfl (eff_loadE rfl rfl (map_get (by first | assumption | omega | (simp only [List.length_drop]; omega))) (ld_agg (Nat.le_of_ble_eq_true rfl))) ?_
      refine calm_n (w0 rfl) rfl (fun id => eff_alloc id rfl rfl rfl) (fun id5 => ?_)
      refine .done ?_
      refine aops_store 0 (w0 rfl) rfl rfl rfl rfl rfl rfl rfl rfl rfl ?_
      refine aops_nil ?_
      refine awp_seq ?_
      refine awp_region ?_
      refine aops_n (w0 rfl) rfl (fun id => eff_nil id 9 1 (.inl rfl) rfl) (fun id6 => ?_)
      refine aops_nil ?_
      refine awp_seq ?_
      refine awp_seq ?_
      refine awp_region ?_
      refine aops_e (w0 rfl) rfl (eff_fieldAddr rfl rfl rfl) ?_
      refine aops_load_ptr 1 (w0 rfl) rfl rfl rfl rfl rfl ld_one ?_
      refine aops_e (w0 rfl) rfl (eff_scmp rfl rfl rfl rfl) ?_
      refine aops_nil ?_
      refine awp_cond rfl ?_ ?_
      · intro hc
        have hs : beqS p.classes[j].super zS = false := notT hc
        refine awp_region ?_
        refine aops_e (w0 rfl) rfl (eff_move rfl rfl) ?_
        refine aops_e (w0 rfl) rfl (eff_fieldAddr rfl rfl rfl) ?_
        refine aops_load_ptr 1 (w0 rfl) rfl rfl rfl rfl rfl ld_one ?_
        refine aops_n (w0 rfl) rfl (fun id => eff_buildSlice id (ps := [(0, .tmp 39)]) rfl rfl rfl rfl rfl rfl rfl rfl) (fun id7 => ?_)
        refine aops_append 1 (w0 rfl) rfl rfl rfl rfl rfl rfl ⟨rfl, _, _, List.mem_of_getElem? (i := 0) rfl, by simp, rfl⟩ (by first | omega | (simp; omega) | (simp [maxLen]; omega) | (simp; done) | (simp [maxLen]; done)) (by first | omega | (simp; omega) | (simp [maxLen]; omega) | (simp; done) | (simp [maxLen]; done)) (fun id8 => ?_)
        refine aops_e (w0 rfl) rfl (eff_assign rfl rfl) ?_
        refine aops_nil ?_
        refine awp_seq ?_
        refine awp_region ?_
        refine aops_e (w0 rfl) rfl (eff_move rfl rfl) ?_
        refine aops_e (w0 rfl) rfl (eff_fieldAddr rfl rfl rfl) ?_
        refine aops_load_ptr 2 (w0 rfl) rfl rfl rfl rfl rfl ld_one ?_
        refine aops_append 1 (w0 rfl) rfl rfl rfl rfl (by simp) rfl ⟨rfl, len_map (fun _ => rfl)⟩ (by first | omega | (simp; omega) | (simp [maxLen]; omega) | (simp; done) | (simp [maxLen]; done)) (by first | omega | (simp; omega) | (simp [maxLen]; omega) | (simp; done) | (simp [maxLen]; done)) (fun id9 => ?_)
        refine aops_e (w0 rfl) rfl (eff_assign rfl rfl) ?_
        refine aops_nil ?_
        refine awp_seq ?_
        refine awp_region ?_
        refine aops_e (w0 rfl) rfl (eff_assign rfl rfl) ?_
        refine aops_nil ?_
        refine awp_block ?_
        refine awp_loopJ (α := Nat × Nat × Nat) (fun y => ⟨[(9, iA y.2.2), (8, .own y.2.1 1 0 (upC p.classes[j]).length), (5, .own y.1 1 0 (addU p ((upC p.classes[j]).take y.2.2) x.2.1).length), (6, iA x.2.2), (2, .ptr id1 5 0 0)], [(y.2.1, .rows 9 1 ((upC p.classes[j]).map fun x => [sA x])), (y.1, .rows 9 1 ((addU p ((upC p.classes[j]).take y.2.2) x.2.1).map fun x => [sA x])), (id1, .rows 39 5 [p.cells])], [], 77⟩) (fun y => y.2.2 ≤ (upC p.classes[j]).length) (fun y => (upC p.classes[j]).length - y.2.2) (x.1, id9, 0) (Nat.zero_le _) ?_ ?_
        · exact weak_pick [1, 3, 4] ⟨rfl, (by show some (AV.own _ _ _ _) = some (AV.own _ _ _ _); simp [upC, hs, Nat.add_comm]), rfl, rfl, rfl, trivial⟩ (by show some [(_, AObj.rows _ _ _), (_, AObj.rows _ _ _), _] = some [(_, AObj.rows _ _ _), (_, AObj.rows _ _ _), _]; simp [upC, hs, cellsA, addU]) (by decide) rfl rfl
        rintro y hJ1
        have hal := (hJ.inner ((upC p.classes[j]).take y.2.2))
        have hos : small (addU p ((upC p.classes[j]).take y.2.2) x.2.1).length := by unfold small; omega
        refine awp_seq ?_
        refine awp_seq ?_
        refine awp_region ?_
        refine aops_e (w0 rfl) rfl (eff_move rfl rfl) ?_
        refine aops_e (w0 rfl) rfl (eff_move rfl rfl) ?_
        refine aops_e (w0 rfl) rfl (eff_len rfl rfl rfl rfl) ?_
        refine aops_e (w0 rfl) rfl (eff_icmp rfl rfl rfl rfl) ?_
        refine aops_nil ?_
        refine awp_cond rfl ?_ ?_
        · intro hc
          have hy : y.2.2 < (upC p.classes[j]).length := by simpa using hc
          refine awp_skip ?_
          refine awp_seq ?_
          refine awp_block ?_
          refine awp_seq ?_
          refine awp_drawM [0, 0, 0, 6, 14, 31, 63, 127, 255, 255, 255, 1791, 3839, 8191, 16383, 32767] 13 rfl (by kernel_rfl) ?_
          refine calm_load_ptr 2 (w0 rfl) rfl rfl rfl rfl rfl (ld_agg (Nat.le_of_ble_eq_true rfl)) ?_
          refine calm_e (w0 rfl) rfl (eff_move rfl rfl) ?_
          refine calm_e (w0 rfl) rfl (eff_move rfl rfl) ?_
          refine calm_e (w0 rfl) rfl (eff_indexAddr_ownN y.2.2 rfl rfl rfl (by first | omega | (simp only [List.length_map]; omega) | (simp only [List.length_map, List.length_drop]; omega)) (by first | omega | (simp only [List.length_map]; omega) | (simp only [List.length_map, List.length_drop]; omega)) (by omega)) ?_
          refine calm_load_ptr 0 (w0 rfl) rfl rfl rfl rfl (own_get (by omega)) ld_one ?_
          refine calm_e (w0 rfl) rfl (eff_call [] rfl rfl rfl (c_class p hbs _) List.nodup_nil) ?_
          refine calm_e (w0 rfl) rfl (eff_icmp rfl rfl rfl rfl) ?_
          refine calm_e (w0 rfl) rfl (eff_move rfl rfl) ?_
          refine calm_g (wT rfl rfl rfl rfl) rfl (fun hg => (eff_move rfl rfl)) ?_
          refine calm_g (wT rfl rfl rfl rfl) rfl (fun hg => (eff_move rfl rfl)) ?_
          refine calm_g (wT rfl rfl rfl rfl) rfl (fun hg => (eff_move rfl rfl)) ?_
          refine calm_g (wT rfl rfl rfl rfl) rfl (fun hg => (eff_indexAddr_ownN y.2.2 rfl (ev_g hg rfl) (ev_g hg rfl) (by (try simp at hg) <;> first | omega | (simp only [List.length_map]; omega) | (simp only [List.length_map, List.length_drop]; omega)) (by (try simp at hg) <;> first | omega | (simp only [List.length_map]; omega) | (simp only [List.length_map, List.length_drop]; omega)) (by omega))) ?_
          refine calm_gload 0 (wT rfl rfl rfl rfl) rfl rfl (fun hg => (ev_g hg rfl)) rfl (own_get (by omega)) ld_one ?_
          refine .done ?_
          refine aops_glend (x := bA (inL (addU p ((upC p.classes[j]).take y.2.2) x.2.1) ((upC p.classes[j]).getD y.2.2 default))) 1 (wT rfl rfl rfl rfl) rfl rfl rfl (fun hg => (evs_cons (ev_g hg rfl) (evs_cons (ev_g hg rfl) evs_nil))) rfl (.lend (by simp) (.keep .nil)) (fun hg => (c_in (addU p ((upC p.classes[j]).take y.2.2) x.2.1) hos ((upC p.classes[j]).getD y.2.2 default))) rfl ?_
          refine aops_g (wT rfl rfl rfl rfl) rfl (fun hg => (eff_not rfl (ev_g hg rfl))) ?_
          refine aops_e (w0 rfl) rfl (eff_and rfl rfl rfl (fun h => h)) ?_
          refine aops_nil ?_
          refine awp_cond rfl ?_ ?_
          · intro hc
            have e : addU p ((upC p.classes[j]).take (y.2.2 + 1)) x.2.1 = (addU p ((upC p.classes[j]).take y.2.2) x.2.1) ++ [(upC p.classes[j]).getD y.2.2 default] := by rw [addU_take hy, addS, ← getD_eq hy, ← classAt_nn]; exact if_pos hc
            refine awp_region ?_
            refine aops_e (w0 rfl) rfl (eff_move rfl rfl) ?_
            refine aops_e (w0 rfl) rfl (eff_move rfl rfl) ?_
            refine aops_e (w0 rfl) rfl (eff_move rfl rfl) ?_
            refine aops_e (w0 rfl) rfl (eff_indexAddr_ownN y.2.2 rfl rfl rfl (by first | omega | (simp only [List.length_map]; omega) | (simp only [List.length_map, List.length_drop]; omega)) (by first | omega | (simp only [List.length_map]; omega) | (simp only [List.length_map, List.length_drop]; omega)) (by omega)) ?_
            refine aops_load_ptr 0 (w0 rfl) rfl rfl rfl rfl (own_get (by omega)) ld_one ?_
            refine aops_n (w0 rfl) rfl (fun id => eff_buildSlice id (ps := [(0, .tmp 72)]) rfl rfl rfl rfl rfl rfl rfl rfl) (fun id10 => ?_)
            refine aops_append 2 (w0 rfl) rfl rfl rfl rfl (by simp) rfl ⟨rfl, _, _, List.mem_of_getElem? (i := 0) rfl, by simp, rfl⟩ (by first | omega | (simp; omega) | (simp [maxLen]; omega) | (simp; done) | (simp [maxLen]; done)) (by first | omega | (simp; omega) | (simp [maxLen]; omega) | (simp; done) | (simp [maxLen]; done)) (fun id11 => ?_)
            refine aops_e (w0 rfl) rfl (eff_assign rfl rfl) ?_
            refine aops_nil ?_
            refine awp_region ?_
            refine aops_e (w0 rfl) rfl (eff_move rfl rfl) ?_
            refine aops_e (w0 rfl) rfl (eff_arith rfl rfl rfl (arith_add (by first | omega | (simp only [List.length_map]; omega)))) ?_
            refine aops_e (w0 rfl) rfl (eff_assign rfl rfl) ?_
            refine aops_nil ?_
            refine ⟨(id11, y.2.1, y.2.2 + 1), (by show y.2.2 + 1 ≤ (upC p.classes[j]).length; omega), (by show (upC p.classes[j]).length - (y.2.2 + 1) < (upC p.classes[j]).length - y.2.2; omega), ?_⟩
            exact weak_pick [1, 2, 3] ⟨rfl, rfl, (by show some (AV.own _ _ _ _) = some (AV.own _ _ _ _); first | (rw [e]; done) | (rw [e]; simp [cellsA])), rfl, rfl, trivial⟩ (by show some [_, (_, AObj.rows _ _ _), _] = some [_, (_, AObj.rows _ _ _), _]; first | (rw [e]; done) | (rw [e]; simp [cellsA])) (by decide) rfl rfl
          · intro hc
            have e : addU p ((upC p.classes[j]).take (y.2.2 + 1)) x.2.1 = (addU p ((upC p.classes[j]).take y.2.2) x.2.1) := by rw [addU_take hy, addS, ← getD_eq hy, ← classAt_nn]; exact if_neg (by rw [hc]; exact Bool.false_ne_true)
            refine awp_skip ?_
            refine awp_region ?_
            refine aops_e (w0 rfl) rfl (eff_move rfl rfl) ?_
            refine aops_e (w0 rfl) rfl (eff_arith rfl rfl rfl (arith_add (by first | omega | (simp only [List.length_map]; omega)))) ?_
            refine aops_e (w0 rfl) rfl (eff_assign rfl rfl) ?_
            refine aops_nil ?_
            refine ⟨(y.1, y.2.1, y.2.2 + 1), (by show y.2.2 + 1 ≤ (upC p.classes[j]).length; omega), (by show (upC p.classes[j]).length - (y.2.2 + 1) < (upC p.classes[j]).length - y.2.2; omega), ?_⟩
            exact weak_pick [0, 1, 2] ⟨rfl, rfl, (by show some (AV.own _ _ _ _) = some (AV.own _ _ _ _); first | (rw [e]; done) | (rw [e]; simp [cellsA])), rfl, rfl, trivial⟩ (by show some [_, (_, AObj.rows _ _ _), _] = some [_, (_, AObj.rows _ _ _), _]; first | (rw [e]; done) | (rw [e]; simp [cellsA])) (by decide) rfl rfl
        · intro hc
          have hy : ¬ y.2.2 < (upC p.classes[j]).length := by simpa using hc
          have e2 : (addU p ((upC p.classes[j]).take y.2.2) x.2.1) = addU p (upC p.classes[j]) x.2.1 := by rw [List.take_of_length_le (by omega)]
          refine awp_exit ?_
          refine awp_region ?_
          refine aops_e (w0 rfl) rfl (eff_move rfl rfl) ?_
          refine aops_e (w0 rfl) rfl (eff_arith rfl rfl rfl (arith_add (by first | omega | (simp only [List.length_map]; omega)))) ?_
          refine aops_e (w0 rfl) rfl (eff_assign rfl rfl) ?_
          refine aops_nil ?_
          refine ⟨(y.1, addU p (upC p.classes[j]) x.2.1, x.2.2 + 1), (hJ.stepD hx h2), (by show p.classes.length - (x.2.2 + 1) < p.classes.length - x.2.2; omega), ?_⟩
          exact weak_pick [1, 2] ⟨rfl, (by show some (AV.own _ _ _ _) = some (AV.own _ _ _ _); rw [e2]), rfl, trivial⟩ (by show some [(_, AObj.rows _ _ _), _] = some [(_, AObj.rows _ _ _), _]; rw [e2]) (by decide) rfl rfl
      · intro hc
        have hs : beqS p.classes[j].super zS = true := notF hc
        refine awp_skip ?_
        refine awp_seq ?_
        refine awp_region ?_
        refine aops_e (w0 rfl) rfl (eff_move rfl rfl) ?_
        refine aops_e (w0 rfl) rfl (eff_fieldAddr rfl rfl rfl) ?_
        refine aops_load_ptr 1 (w0 rfl) rfl rfl rfl rfl rfl ld_one ?_
        refine aops_append 0 (w0 rfl) rfl rfl rfl rfl (by simp) rfl ⟨rfl, len_map (fun _ => rfl)⟩ (by first | omega | (simp; omega) | (simp [maxLen]; omega) | (simp; done) | (simp [maxLen]; done)) (by first | omega | (simp; omega) | (simp [maxLen]; omega) | (simp; done) | (simp [maxLen]; done)) (fun id12 => ?_)
        refine aops_e (w0 rfl) rfl (eff_assign rfl rfl) ?_
        refine aops_nil ?_
        refine awp_seq ?_
        refine awp_region ?_
        refine aops_e (w0 rfl) rfl (eff_assign rfl rfl) ?_
        refine aops_nil ?_
        refine awp_block ?_
        refine awp_loopJ (α := Nat × Nat × Nat) (fun y => ⟨[(9, iA y.2.2), (8, .own y.2.1 1 0 (upC p.classes[j]).length), (5, .own y.1 1 0 (addU p ((upC p.classes[j]).take y.2.2) x.2.1).length), (6, iA x.2.2), (2, .ptr id1 5 0 0)], [(y.2.1, .rows 9 1 ((upC p.classes[j]).map fun x => [sA x])), (y.1, .rows 9 1 ((addU p ((upC p.classes[j]).take y.2.2) x.2.1).map fun x => [sA x])), (id1, .rows 39 5 [p.cells])], [], 77⟩) (fun y => y.2.2 ≤ (upC p.classes[j]).length) (fun y => (upC p.classes[j]).length - y.2.2) (x.1, id12, 0) (Nat.zero_le _) ?_ ?_
        · exact weak_pick [0, 2, 3] ⟨rfl, (by show some (AV.own _ _ _ _) = some (AV.own _ _ _ _); simp [upC, hs, Nat.add_comm]), rfl, rfl, rfl, trivial⟩ (by show some [(_, AObj.rows _ _ _), (_, AObj.rows _ _ _), _] = some [(_, AObj.rows _ _ _), (_, AObj.rows _ _ _), _]; simp [upC, hs, cellsA, addU]) (by decide) rfl rfl
        rintro y hJ1
        have hal := (hJ.inner ((upC p.classes[j]).take y.2.2))
        have hos : small (addU p ((upC p.classes[j]).take y.2.2) x.2.1).length := by unfold small; omega
        refine awp_seq ?_
        refine awp_seq ?_
        refine awp_region ?_
        refine aops_e (w0 rfl) rfl (eff_move rfl rfl) ?_
        refine aops_e (w0 rfl) rfl (eff_move rfl rfl) ?_
        refine aops_e (w0 rfl) rfl (eff_len rfl rfl rfl rfl) ?_
        refine aops_e (w0 rfl) rfl (eff_icmp rfl rfl rfl rfl) ?_
        refine aops_nil ?_
        refine awp_cond rfl ?_ ?_
        · intro hc
          have hy : y.2.2 < (upC p.classes[j]).length := by simpa using hc
          refine awp_skip ?_
          refine awp_seq ?_
          refine awp_block ?_
          refine awp_seq ?_
          refine awp_drawM [0, 0, 0, 6, 14, 31, 63, 127, 255, 255, 255, 1791, 3839, 8191, 16383, 32767] 13 rfl (by kernel_rfl) ?_
          refine calm_load_ptr 2 (w0 rfl) rfl rfl rfl rfl rfl (ld_agg (Nat.le_of_ble_eq_true rfl)) ?_
          refine calm_e (w0 rfl) rfl (eff_move rfl rfl) ?_
          refine calm_e (w0 rfl) rfl (eff_move rfl rfl) ?_
          refine calm_e (w0 rfl) rfl (eff_indexAddr_ownN y.2.2 rfl rfl rfl (by first | omega | (simp only [List.length_map]; omega) | (simp only [List.length_map, List.length_drop]; omega)) (by first | omega | (simp only [List.length_map]; omega) | (simp only [List.length_map, List.length_drop]; omega)) (by omega)) ?_
          refine calm_load_ptr 0 (w0 rfl) rfl rfl rfl rfl (own_get (by omega)) ld_one ?_
          refine calm_e (w0 rfl) rfl (eff_call [] rfl rfl rfl (c_class p hbs _) List.nodup_nil) ?_
          refine calm_e (w0 rfl) rfl (eff_icmp rfl rfl rfl rfl) ?_
          refine calm_e (w0 rfl) rfl (eff_move rfl rfl) ?_
          refine calm_g (wT rfl rfl rfl rfl) rfl (fun hg => (eff_move rfl rfl)) ?_
          refine calm_g (wT rfl rfl rfl rfl) rfl (fun hg => (eff_move rfl rfl)) ?_
          refine calm_g (wT rfl rfl rfl rfl) rfl (fun hg => (eff_move rfl rfl)) ?_
          refine calm_g (wT rfl rfl rfl rfl) rfl (fun hg => (eff_indexAddr_ownN y.2.2 rfl (ev_g hg rfl) (ev_g hg rfl) (by (try simp at hg) <;> first | omega | (simp only [List.length_map]; omega) | (simp only [List.length_map, List.length_drop]; omega)) (by (try simp at hg) <;> first | omega | (simp only [List.length_map]; omega) | (simp only [List.length_map, List.length_drop]; omega)) (by omega))) ?_
          refine calm_gload 0 (wT rfl rfl rfl rfl) rfl rfl (fun hg => (ev_g hg rfl)) rfl (own_get (by omega)) ld_one ?_
          refine .done ?_
          refine aops_glend (x := bA (inL (addU p ((upC p.classes[j]).take y.2.2) x.2.1) ((upC p.classes[j]).getD y.2.2 default))) 1 (wT rfl rfl rfl rfl) rfl rfl rfl (fun hg => (evs_cons (ev_g hg rfl) (evs_cons (ev_g hg rfl) evs_nil))) rfl (.lend (by simp) (.keep .nil)) (fun hg => (c_in (addU p ((upC p.classes[j]).take y.2.2) x.2.1) hos ((upC p.classes[j]).getD y.2.2 default))) rfl ?_
          refine aops_g (wT rfl rfl rfl rfl) rfl (fun hg => (eff_not rfl (ev_g hg rfl))) ?_
          refine aops_e (w0 rfl) rfl (eff_and rfl rfl rfl (fun h => h)) ?_
          refine aops_nil ?_
          refine awp_cond rfl ?_ ?_
          · intro hc
            have e : addU p ((upC p.classes[j]).take (y.2.2 + 1)) x.2.1 = (addU p ((upC p.classes[j]).take y.2.2) x.2.1) ++ [(upC p.classes[j]).getD y.2.2 default] := by rw [addU_take hy, addS, ← getD_eq hy, ← classAt_nn]; exact if_pos hc
            refine awp_region ?_
            refine aops_e (w0 rfl) rfl (eff_move rfl rfl) ?_
            refine aops_e (w0 rfl) rfl (eff_move rfl rfl) ?_
            refine aops_e (w0 rfl) rfl (eff_move rfl rfl) ?_
            refine aops_e (w0 rfl) rfl (eff_indexAddr_ownN y.2.2 rfl rfl rfl (by first | omega | (simp only [List.length_map]; omega) | (simp only [List.length_map, List.length_drop]; omega)) (by first | omega | (simp only [List.length_map]; omega) | (simp only [List.length_map, List.length_drop]; omega)) (by omega)) ?_
            refine aops_load_ptr 0 (w0 rfl) rfl rfl rfl rfl (own_get (by omega)) ld_one ?_
            refine aops_n (w0 rfl) rfl (fun id => eff_buildSlice id (ps := [(0, .tmp 72)]) rfl rfl rfl rfl rfl rfl rfl rfl) (fun id13 => ?_)
            refine aops_append 2 (w0 rfl) rfl rfl rfl rfl (by simp) rfl ⟨rfl, _, _, List.mem_of_getElem? (i := 0) rfl, by simp, rfl⟩ (by first | omega | (simp; omega) | (simp [maxLen]; omega) | (simp; done) | (simp [maxLen]; done)) (by first | omega | (simp; omega) | (simp [maxLen]; omega) | (simp; done) | (simp [maxLen]; done)) (fun id14 => ?_)
            refine aops_e (w0 rfl) rfl (eff_assign rfl rfl) ?_
            refine aops_nil ?_
            refine awp_region ?_
            refine aops_e (w0 rfl) rfl (eff_move rfl rfl) ?_
            refine aops_e (w0 rfl) rfl (eff_arith rfl rfl rfl (arith_add (by first | omega | (simp only [List.length_map]; omega)))) ?_
            refine aops_e (w0 rfl) rfl (eff_assign rfl rfl) ?_
            refine aops_nil ?_
            refine ⟨(id14, y.2.1, y.2.2 + 1), (by show y.2.2 + 1 ≤ (upC p.classes[j]).length; omega), (by show (upC p.classes[j]).length - (y.2.2 + 1) < (upC p.classes[j]).length - y.2.2; omega), ?_⟩
            exact weak_pick [1, 2, 3] ⟨rfl, rfl, (by show some (AV.own _ _ _ _) = some (AV.own _ _ _ _); first | (rw [e]; done) | (rw [e]; simp [cellsA])), rfl, rfl, trivial⟩ (by show some [_, (_, AObj.rows _ _ _), _] = some [_, (_, AObj.rows _ _ _), _]; first | (rw [e]; done) | (rw [e]; simp [cellsA])) (by decide) rfl rfl
          · intro hc
            have e : addU p ((upC p.classes[j]).take (y.2.2 + 1)) x.2.1 = (addU p ((upC p.classes[j]).take y.2.2) x.2.1) := by rw [addU_take hy, addS, ← getD_eq hy, ← classAt_nn]; exact if_neg (by rw [hc]; exact Bool.false_ne_true)
            refine awp_skip ?_
            refine awp_region ?_
            refine aops_e (w0 rfl) rfl (eff_move rfl rfl) ?_
            refine aops_e (w0 rfl) rfl (eff_arith rfl rfl rfl (arith_add (by first | omega | (simp only [List.length_map]; omega)))) ?_
            refine aops_e (w0 rfl) rfl (eff_assign rfl rfl) ?_
            refine aops_nil ?_
            refine ⟨(y.1, y.2.1, y.2.2 + 1), (by show y.2.2 + 1 ≤ (upC p.classes[j]).length; omega), (by show (upC p.classes[j]).length - (y.2.2 + 1) < (upC p.classes[j]).length - y.2.2; omega), ?_⟩
            exact weak_pick [0, 1, 2] ⟨rfl, rfl, (by show some (AV.own _ _ _ _) = some (AV.own _ _ _ _); first | (rw [e]; done) | (rw [e]; simp [cellsA])), rfl, rfl, trivial⟩ (by show some [_, (_, AObj.rows _ _ _), _] = some [_, (_, AObj.rows _ _ _), _]; first | (rw [e]; done) | (rw [e]; simp [cellsA])) (by decide) rfl rfl
        · intro hc
          have hy : ¬ y.2.2 < (upC p.classes[j]).length := by simpa using hc
          have e2 : (addU p ((upC p.classes[j]).take y.2.2) x.2.1) = addU p (upC p.classes[j]) x.2.1 := by rw [List.take_of_length_le (by omega)]
          refine awp_exit ?_
          refine awp_region ?_
          refine aops_e (w0 rfl) rfl (eff_move rfl rfl) ?_
          refine aops_e (w0 rfl) rfl (eff_arith rfl rfl rfl (arith_add (by first | omega | (simp only [List.length_map]; omega)))) ?_
          refine aops_e (w0 rfl) rfl (eff_assign rfl rfl) ?_
          refine aops_nil ?_
          refine ⟨(y.1, addU p (upC p.classes[j]) x.2.1, x.2.2 + 1), (hJ.stepD hx h2), (by show p.classes.length - (x.2.2 + 1) < p.classes.length - x.2.2; omega), ?_⟩
          exact weak_pick [1, 2] ⟨rfl, (by show some (AV.own _ _ _ _) = some (AV.own _ _ _ _); rw [e2]), rfl, trivial⟩ (by show some [(_, AObj.rows _ _ _), _] = some [(_, AObj.rows _ _ _), _]; rw [e2]) (by decide) rfl rfl
    · intro hc
      have hx : ¬ x.2.2 < x.2.1.length := by simpa using hc
      refine awp_exit ?_
      refine awp_seq ?_
      refine awp_weak (weak_frz 0 5 (T' := []) rfl rfl (by simp) trivial) ?_
      refine awp_region ?_
      refine aops_e (w0 rfl) rfl (eff_move rfl rfl) ?_
      refine aops_e (w0 rfl) rfl (eff_call [] rfl rfl rfl (c_rising x.2.1 (by omega)) List.nodup_nil) ?_
      refine aops_e (w0 rfl) rfl (eff_assign rfl rfl) ?_
      refine aops_nil ?_
      refine awp_ret ?_
      exact retq rfl (res_tmp rfl res_nil) (gsome (risF x.2.1) ⟨x.2.1, rfl, hJ.fin hx, by omega⟩ rfl)
  · intro hc
    have hh : hasC p nm = false := (classAt_nn p nm).symm.trans hc
    refine awp_skip ?_
    refine awp_seq ?_
    refine awp_seq ?_
    refine awp_region ?_
    refine aops_e (w0 rfl) rfl (eff_assign rfl rfl) ?_
    refine aops_nil ?_
    refine awp_block ?_
    refine awp_loopJ (α := Nat × List Str × Nat) (fun x => ⟨[(6, iA x.2.2), (5, .own x.1 1 0 x.2.1.length), (2, .ptr id1 5 0 0)], [(x.1, .rows 9 1 (x.2.1.map fun x => [sA x])), (id1, .rows 39 5 [p.cells])], [], 77⟩) (fun x => AncB p nm x.2.1 x.2.2) (fun x => p.classes.length - x.2.2) (id2, [], 0) (AncB.start0 hh) ?_ ?_
    · exact weak_pick [0, 1] ⟨rfl, rfl, rfl, trivial⟩ rfl (by decide) rfl rfl
    rintro x hJ
    have hol := hJ.len
    refine awp_seq ?_
    refine awp_seq ?_
    refine awp_region ?_
    refine aops_e (w0 rfl) rfl (eff_move rfl rfl) ?_
    refine aops_e (w0 rfl) rfl (eff_move rfl rfl) ?_
    refine aops_e (w0 rfl) rfl (eff_len rfl rfl rfl rfl) ?_
    refine aops_e (w0 rfl) rfl (eff_icmp rfl rfl rfl rfl) ?_
    refine aops_nil ?_
    refine awp_cond rfl ?_ ?_
    · intro hc
      have hx : x.2.2 < x.2.1.length := by simpa using hc
      refine awp_skip ?_
      refine awp_seq ?_
      refine awp_block ?_
      refine awp_seq ?_
      obtain ⟨j, hj, h1, h2⟩ := hJ.idx hx
      have hif1 := hif _ (List.getElem_mem hj)
      have hul := upC_len hif1
      refine awp_drawN 11 rfl (by kernel_rfl) ?_
      refine calm_e (w0 rfl) rfl (eff_fieldAddr rfl rfl rfl) ?_
      refine calm_load_ptr 1 (w0 rfl) rfl rfl rfl rfl rfl ld_one ?_
      refine calm_load_ptr 1 (w0 rfl) rfl rfl rfl rfl rfl (ld_agg (Nat.le_of_ble_eq_true rfl)) ?_
      refine calm_e (w0 rfl) rfl (eff_move rfl rfl) ?_
      refine calm_e (w0 rfl) rfl (eff_move rfl rfl) ?_
      refine calm_e (w0 rfl) rfl (eff_indexAddr_ownN x.2.2 rfl rfl rfl (by first | omega | (simp only [List.length_map]; omega) | (simp only [List.length_map, List.length_drop]; omega)) (by first | omega | (simp only [List.length_map]; omega) | (simp only [List.length_map, List.length_drop]; omega)) (by omega)) ?_
      refine calm_load_ptr 0 (w0 rfl) rfl rfl rfl rfl (own_get (by omega)) ld_one ?_
      refine calm_e (w0 rfl) rfl (eff_call [] rfl rfl rfl (show ACalls Try.prog 66 [p.av, sA (x.2.1.getD x.2.2 default)] [] (Gives (iA j)) from h1 ▸ c_class p hbs _) List.nodup_nil) ?_
      refine calm_e (w0 rfl) rfl (eff_indexAddr_lst rfl rfl rfl (len_map (fun _ => rfl)) (by first | omega | (simp only [List.length_map]; omega) | (simp only [List.length_map, List.length_drop]; omega)) (by first | omega | (simp only [List.length_map]; omega) | (simp only [List.length_map, List.length_drop]; omega))) ?_
      refine calm_e (w0 rfl) rfl (eff_loadE rfl rfl (map_get (by first | assumption | omega | (simp only [List.length_drop]; omega))) (ld_agg (Nat.le_of_ble_eq_true rfl))) ?_
      refine calm_n (w0 rfl) rfl (fun id => eff_alloc id rfl rfl rfl) (fun id15 => ?_)
      refine .done ?_
      refine aops_store 0 (w0 rfl) rfl rfl rfl rfl rfl rfl rfl rfl rfl ?_
      refine aops_nil ?_
      refine awp_seq ?_
      refine awp_region ?_
      refine aops_n (w0 rfl) rfl (fun id => eff_nil id 9 1 (.inl rfl) rfl) (fun id16 => ?_)
      refine aops_nil ?_
      refine awp_seq ?_
      refine awp_seq ?_
      refine awp_region ?_
      refine aops_e (w0 rfl) rfl (eff_fieldAddr rfl rfl rfl) ?_
      refine aops_load_ptr 1 (w0 rfl) rfl rfl rfl rfl rfl ld_one ?_
      refine aops_e (w0 rfl) rfl (eff_scmp rfl rfl rfl rfl) ?_
      refine aops_nil ?_
      refine awp_cond rfl ?_ ?_
      · intro hc
        have hs : beqS p.classes[j].super zS = false := notT hc
        refine awp_region ?_
        refine aops_e (w0 rfl) rfl (eff_move rfl rfl) ?_
        refine aops_e (w0 rfl) rfl (eff_fieldAddr rfl rfl rfl) ?_
        refine aops_load_ptr 1 (w0 rfl) rfl rfl rfl rfl rfl ld_one ?_
        refine aops_n (w0 rfl) rfl (fun id => eff_buildSlice id (ps := [(0, .tmp 39)]) rfl rfl rfl rfl rfl rfl rfl rfl) (fun id17 => ?_)
        refine aops_append 1 (w0 rfl) rfl rfl rfl rfl rfl rfl ⟨rfl, _, _, List.mem_of_getElem? (i := 0) rfl, by simp, rfl⟩ (by first | omega | (simp; omega) | (simp [maxLen]; omega) | (simp; done) | (simp [maxLen]; done)) (by first | omega | (simp; omega) | (simp [maxLen]; omega) | (simp; done) | (simp [maxLen]; done)) (fun id18 => ?_)
        refine aops_e (w0 rfl) rfl (eff_assign rfl rfl) ?_
        refine aops_nil ?_
        refine awp_seq ?_
        refine awp_region ?_
        refine aops_e (w0 rfl) rfl (eff_move rfl rfl) ?_
        refine aops_e (w0 rfl) rfl (eff_fieldAddr rfl rfl rfl) ?_
        refine aops_load_ptr 2 (w0 rfl) rfl rfl rfl rfl rfl ld_one ?_
        refine aops_append 1 (w0 rfl) rfl rfl rfl rfl (by simp) rfl ⟨rfl, len_map (fun _ => rfl)⟩ (by first | omega | (simp; omega) | (simp [maxLen]; omega) | (simp; done) | (simp [maxLen]; done)) (by first | omega | (simp; omega) | (simp [maxLen]; omega) | (simp; done) | (simp [maxLen]; done)) (fun id19 => ?_)
        refine aops_e (w0 rfl) rfl (eff_assign rfl rfl) ?_
        refine aops_nil ?_
        refine awp_seq ?_
        refine awp_region ?_
        refine aops_e (w0 rfl) rfl (eff_assign rfl rfl) ?_
        refine aops_nil ?_
        refine awp_block ?_
        refine awp_loopJ (α := Nat × Nat × Nat) (fun y => ⟨[(9, iA y.2.2), (8, .own y.2.1 1 0 (upC p.classes[j]).length), (5, .own y.1 1 0 (addU p ((upC p.classes[j]).take y.2.2) x.2.1).length), (6, iA x.2.2), (2, .ptr id1 5 0 0)], [(y.2.1, .rows 9 1 ((upC p.classes[j]).map fun x => [sA x])), (y.1, .rows 9 1 ((addU p ((upC p.classes[j]).take y.2.2) x.2.1).map fun x => [sA x])), (id1, .rows 39 5 [p.cells])], [], 77⟩) (fun y => y.2.2 ≤ (upC p.classes[j]).length) (fun y => (upC p.classes[j]).length - y.2.2) (x.1, id19, 0) (Nat.zero_le _) ?_ ?_
        · exact weak_pick [1, 3, 4] ⟨rfl, (by show some (AV.own _ _ _ _) = some (AV.own _ _ _ _); simp [upC, hs, Nat.add_comm]), rfl, rfl, rfl, trivial⟩ (by show some [(_, AObj.rows _ _ _), (_, AObj.rows _ _ _), _] = some [(_, AObj.rows _ _ _), (_, AObj.rows _ _ _), _]; simp [upC, hs, cellsA, addU]) (by decide) rfl rfl
        rintro y hJ1
        have hal := (hJ.inner ((upC p.classes[j]).take y.2.2))
        have hos : small (addU p ((upC p.classes[j]).take y.2.2) x.2.1).length := by unfold small; omega
        refine awp_seq ?_
        refine awp_seq ?_
        refine awp_region ?_
        refine aops_e (w0 rfl) rfl (eff_move rfl rfl) ?_
        refine aops_e (w0 rfl) rfl (eff_move rfl rfl) ?_
        refine aops_e (w0 rfl) rfl (eff_len rfl rfl rfl rfl) ?_
        refine aops_e (w0 rfl) rfl (eff_icmp rfl rfl rfl rfl) ?_
        refine aops_nil ?_
        refine awp_cond rfl ?_ ?_
        · intro hc
          have hy : y.2.2 < (upC p.classes[j]).length := by simpa using hc
          refine awp_skip ?_
          refine awp_seq ?_
          refine awp_block ?_
          refine awp_seq ?_
          refine awp_drawM [0, 0, 0, 6, 14, 31, 63, 127, 255, 255, 255, 1791, 3839, 8191, 16383, 32767] 13 rfl (by kernel_rfl) ?_
          refine calm_load_ptr 2 (w0 rfl) rfl rfl rfl rfl rfl (ld_agg (Nat.le_of_ble_eq_true rfl)) ?_
          refine calm_e (w0 rfl) rfl (eff_move rfl rfl) ?_
          refine calm_e (w0 rfl) rfl (eff_move rfl rfl) ?_
          refine calm_e (w0 rfl) rfl (eff_indexAddr_ownN y.2.2 rfl rfl rfl (by first | omega | (simp only [List.length_map]; omega) | (simp only [List.length_map, List.length_drop]; omega)) (by first | omega | (simp only [List.length_map]; omega) | (simp only [List.length_map, List.length_drop]; omega)) (by omega)) ?_
          refine calm_load_ptr 0 (w0 rfl) rfl rfl rfl rfl (own_get (by omega)) ld_one ?_
          refine calm_e (w0 rfl) rfl (eff_call [] rfl rfl rfl (c_class p hbs _) List.nodup_nil) ?_
          refine calm_e (w0 rfl) rfl (eff_icmp rfl rfl rfl rfl) ?_
          refine calm_e (w0 rfl) rfl (eff_move rfl rfl) ?_
          refine calm_g (wT rfl rfl rfl rfl) rfl (fun hg => (eff_move rfl rfl)) ?_
          refine calm_g (wT rfl rfl rfl rfl) rfl (fun hg => (eff_move rfl rfl)) ?_
          refine calm_g (wT rfl rfl rfl rfl) rfl (fun hg => (eff_move rfl rfl)) ?_
          refine calm_g (wT rfl rfl rfl rfl) rfl (fun hg => (eff_indexAddr_ownN y.2.2 rfl (ev_g hg rfl) (ev_g hg rfl) (by (try simp at hg) <;> first | omega | (simp only [List.length_map]; omega) | (simp only [List.length_map, List.length_drop]; omega)) (by (try simp at hg) <;> first | omega | (simp only [List.length_map]; omega) | (simp only [List.length_map, List.length_drop]; omega)) (by omega))) ?_
          refine calm_gload 0 (wT rfl rfl rfl rfl) rfl rfl (fun hg => (ev_g hg rfl)) rfl (own_get (by omega)) ld_one ?_
          refine .done ?_
          refine aops_glend (x := bA (inL (addU p ((upC p.classes[j]).take y.2.2) x.2.1) ((upC p.classes[j]).getD y.2.2 default))) 1 (wT rfl rfl rfl rfl) rfl rfl rfl (fun hg => (evs_cons (ev_g hg rfl) (evs_cons (ev_g hg rfl) evs_nil))) rfl (.lend (by simp) (.keep .nil)) (fun hg => (c_in (addU p ((upC p.classes[j]).take y.2.2) x.2.1) hos ((upC p.classes[j]).getD y.2.2 default))) rfl ?_
          refine aops_g (wT rfl rfl rfl rfl) rfl (fun hg => (eff_not rfl (ev_g hg rfl))) ?_
          refine aops_e (w0 rfl) rfl (eff_and rfl rfl rfl (fun h => h)) ?_
          refine aops_nil ?_
          refine awp_cond rfl ?_ ?_
          · intro hc
            have e : addU p ((upC p.classes[j]).take (y.2.2 + 1)) x.2.1 = (addU p ((upC p.classes[j]).take y.2.2) x.2.1) ++ [(upC p.classes[j]).getD y.2.2 default] := by rw [addU_take hy, addS, ← getD_eq hy, ← classAt_nn]; exact if_pos hc
            refine awp_region ?_
            refine aops_e (w0 rfl) rfl (eff_move rfl rfl) ?_
            refine aops_e (w0 rfl) rfl (eff_move rfl rfl) ?_
            refine aops_e (w0 rfl) rfl (eff_move rfl rfl) ?_
            refine aops_e (w0 rfl) rfl (eff_indexAddr_ownN y.2.2 rfl rfl rfl (by first | omega | (simp only [List.length_map]; omega) | (simp only [List.length_map, List.length_drop]; omega)) (by first | omega | (simp only [List.length_map]; omega) | (simp only [List.length_map, List.length_drop]; omega)) (by omega)) ?_
            refine aops_load_ptr 0 (w0 rfl) rfl rfl rfl rfl (own_get (by omega)) ld_one ?_
            refine aops_n (w0 rfl) rfl (fun id => eff_buildSlice id (ps := [(0, .tmp 72)]) rfl rfl rfl rfl rfl rfl rfl rfl) (fun id20 => ?_)
            refine aops_append 2 (w0 rfl) rfl rfl rfl rfl (by simp) rfl ⟨rfl, _, _, List.mem_of_getElem? (i := 0) rfl, by simp, rfl⟩ (by first | omega | (simp; omega) | (simp [maxLen]; omega) | (simp; done) | (simp [maxLen]; done)) (by first | omega | (simp; omega) | (simp [maxLen]; omega) | (simp; done) | (simp [maxLen]; done)) (fun id21 => ?_)
            refine aops_e (w0 rfl) rfl (eff_assign rfl rfl) ?_
            refine aops_nil ?_
            refine awp_region ?_
            refine aops_e (w0 rfl) rfl (eff_move rfl rfl) ?_
            refine aops_e (w0 rfl) rfl (eff_arith rfl rfl rfl (arith_add (by first | omega | (simp only [List.length_map]; omega)))) ?_
            refine aops_e (w0 rfl) rfl (eff_assign rfl rfl) ?_
            refine aops_nil ?_
            refine ⟨(id21, y.2.1, y.2.2 + 1), (by show y.2.2 + 1 ≤ (upC p.classes[j]).length; omega), (by show (upC p.classes[j]).length - (y.2.2 + 1) < (upC p.classes[j]).length - y.2.2; omega), ?_⟩
            exact weak_pick [1, 2, 3] ⟨rfl, rfl, (by show some (AV.own _ _ _ _) = some (AV.own _ _ _ _); first | (rw [e]; done) | (rw [e]; simp [cellsA])), rfl, rfl, trivial⟩ (by show some [_, (_, AObj.rows _ _ _), _] = some [_, (_, AObj.rows _ _ _), _]; first | (rw [e]; done) | (rw [e]; simp [cellsA])) (by decide) rfl rfl
          · intro hc
            have e : addU p ((upC p.classes[j]).take (y.2.2 + 1)) x.2.1 = (addU p ((upC p.classes[j]).take y.2.2) x.2.1) := by rw [addU_take hy, addS, ← getD_eq hy, ← classAt_nn]; exact if_neg (by rw [hc]; exact Bool.false_ne_true)
            refine awp_skip ?_
            refine awp_region ?_
            refine aops_e (w0 rfl) rfl (eff_move rfl rfl) ?_
            refine aops_e (w0 rfl) rfl (eff_arith rfl rfl rfl (arith_add (by first | omega | (simp only [List.length_map]; omega)))) ?_
            refine aops_e (w0 rfl) rfl (eff_assign rfl rfl) ?_
            refine aops_nil ?_
            refine ⟨(y.1, y.2.1, y.2.2 + 1), (by show y.2.2 + 1 ≤ (upC p.classes[j]).length; omega), (by show (upC p.classes[j]).length - (y.2.2 + 1) < (upC p.classes[j]).length - y.2.2; omega), ?_⟩
            exact weak_pick [0, 1, 2] ⟨rfl, rfl, (by show some (AV.own _ _ _ _) = some (AV.own _ _ _ _); first | (rw [e]; done) | (rw [e]; simp [cellsA])), rfl, rfl, trivial⟩ (by show some [_, (_, AObj.rows _ _ _), _] = some [_, (_, AObj.rows _ _ _), _]; first | (rw [e]; done) | (rw [e]; simp [cellsA])) (by decide) rfl rfl
        · intro hc
          have hy : ¬ y.2.2 < (upC p.classes[j]).length := by simpa using hc
          have e2 : (addU p ((upC p.classes[j]).take y.2.2) x.2.1) = addU p (upC p.classes[j]) x.2.1 := by rw [List.take_of_length_le (by omega)]
          refine awp_exit ?_
          refine awp_region ?_
          refine aops_e (w0 rfl) rfl (eff_move rfl rfl) ?_
          refine aops_e (w0 rfl) rfl (eff_arith rfl rfl rfl (arith_add (by first | omega | (simp only [List.length_map]; omega)))) ?_
          refine aops_e (w0 rfl) rfl (eff_assign rfl rfl) ?_
          refine aops_nil ?_
          refine ⟨(y.1, addU p (upC p.classes[j]) x.2.1, x.2.2 + 1), (hJ.stepD hx h2), (by show p.classes.length - (x.2.2 + 1) < p.classes.length - x.2.2; omega), ?_⟩
          exact weak_pick [1, 2] ⟨rfl, (by show some (AV.own _ _ _ _) = some (AV.own _ _ _ _); rw [e2]), rfl, trivial⟩ (by show some [(_, AObj.rows _ _ _), _] = some [(_, AObj.rows _ _ _), _]; rw [e2]) (by decide) rfl rfl
      · intro hc
        have hs : beqS p.classes[j].super zS = true := notF hc
        refine awp_skip ?_
        refine awp_seq ?_
        refine awp_region ?_
        refine aops_e (w0 rfl) rfl (eff_move rfl rfl) ?_
        refine aops_e (w0 rfl) rfl (eff_fieldAddr rfl rfl rfl) ?_
        refine aops_load_ptr 1 (w0 rfl) rfl rfl rfl rfl rfl ld_one ?_
        refine aops_append 0 (w0 rfl) rfl rfl rfl rfl (by simp) rfl ⟨rfl, len_map (fun _ => rfl)⟩ (by first | omega | (simp; omega) | (simp [maxLen]; omega) | (simp; done) | (simp [maxLen]; done)) (by first | omega | (simp; omega) | (simp [maxLen]; omega) | (simp; done) | (simp [maxLen]; done)) (fun id22 => ?_)
        refine aops_e (w0 rfl) rfl (eff_assign rfl rfl) ?_
        refine aops_nil ?_
        refine awp_seq ?_
        refine awp_region ?_
        refine aops_e (w0 rfl) rfl (eff_assign rfl rfl) ?_
        refine aops_nil ?_
        refine awp_block ?_
        refine awp_loopJ (α := Nat × Nat × Nat) (fun y => ⟨[(9, iA y.2.2), (8, .own y.2.1 1 0 (upC p.classes[j]).length), (5, .own y.1 1 0 (addU p ((upC p.classes[j]).take y.2.2) x.2.1).length), (6, iA x.2.2), (2, .ptr id1 5 0 0)], [(y.2.1, .rows 9 1 ((upC p.classes[j]).map fun x => [sA x])), (y.1, .rows 9 1 ((addU p ((upC p.classes[j]).take y.2.2) x.2.1).map fun x => [sA x])), (id1, .rows 39 5 [p.cells])], [], 77⟩) (fun y => y.2.2 ≤ (upC p.classes[j]).length) (fun y => (upC p.classes[j]).length - y.2.2) (x.1, id22, 0) (Nat.zero_le _) ?_ ?_
        · exact weak_pick [0, 2, 3] ⟨rfl, (by show some (AV.own _ _ _ _) = some (AV.own _ _ _ _); simp [upC, hs, Nat.add_comm]), rfl, rfl, rfl, trivial⟩ (by show some [(_, AObj.rows _ _ _), (_, AObj.rows _ _ _), _] = some [(_, AObj.rows _ _ _), (_, AObj.rows _ _ _), _]; simp [upC, hs, cellsA, addU]) (by decide) rfl rfl
        rintro y hJ1
        have hal := (hJ.inner ((upC p.classes[j]).take y.2.2))
        have hos : small (addU p ((upC p.classes[j]).take y.2.2) x.2.1).length := by unfold small; omega
        refine awp_seq ?_
        refine awp_seq ?_
        refine awp_region ?_
        refine aops_e (w0 rfl) rfl (eff_move rfl rfl) ?_
        refine aops_e (w0 rfl) rfl (eff_move rfl rfl) ?_
        refine aops_e (w0 rfl) rfl (eff_len rfl rfl rfl rfl) ?_
        refine aops_e (w0 rfl) rfl (eff_icmp rfl rfl rfl rfl) ?_
        refine aops_nil ?_
        refine awp_cond rfl ?_ ?_
        · intro hc
          have hy : y.2.2 < (upC p.classes[j]).length := by simpa using hc
          refine awp_skip ?_
          refine awp_seq ?_
          refine awp_block ?_
          refine awp_seq ?_
          refine awp_drawM [0, 0, 0, 6, 14, 31, 63, 127, 255, 255, 255, 1791, 3839, 8191, 16383, 32767] 13 rfl (by kernel_rfl) ?_
          refine calm_load_ptr 2 (w0 rfl) rfl rfl rfl rfl rfl (ld_agg (Nat.le_of_ble_eq_true rfl)) ?_
          refine calm_e (w0 rfl) rfl (eff_move rfl rfl) ?_
          refine calm_e (w0 rfl) rfl (eff_move rfl rfl) ?_
          refine calm_e (w0 rfl) rfl (eff_indexAddr_ownN y.2.2 rfl rfl rfl (by first | omega | (simp only [List.length_map]; omega) | (simp only [List.length_map, List.length_drop]; omega)) (by first | omega | (simp only [List.length_map]; omega) | (simp only [List.length_map, List.length_drop]; omega)) (by omega)) ?_
          refine calm_load_ptr 0 (w0 rfl) rfl rfl rfl rfl (own_get (by omega)) ld_one ?_
          refine calm_e (w0 rfl) rfl (eff_call [] rfl rfl rfl (c_class p hbs _) List.nodup_nil) ?_
          refine calm_e (w0 rfl) rfl (eff_icmp rfl rfl rfl rfl) ?_
          refine calm_e (w0 rfl) rfl (eff_move rfl rfl) ?_
          refine calm_g (wT rfl rfl rfl rfl) rfl (fun hg => (eff_move rfl rfl)) ?_
          refine calm_g (wT rfl rfl rfl rfl) rfl (fun hg => (eff_move rfl rfl)) ?_
          refine calm_g (wT rfl rfl rfl rfl) rfl (fun hg => (eff_move rfl rfl)) ?_
          refine calm_g (wT rfl rfl rfl rfl) rfl (fun hg => (eff_indexAddr_ownN y.2.2 rfl (ev_g hg rfl) (ev_g hg rfl) (by (try simp at hg) <;> first | omega | (simp only [List.length_map]; omega) | (simp only [List.length_map, List.length_drop]; omega)) (by (try simp at hg) <;> first | omega | (simp only [List.length_map]; omega) | (simp only [List.length_map, List.length_drop]; omega)) (by omega))) ?_
          refine calm_gload 0 (wT rfl rfl rfl rfl) rfl rfl (fun hg => (ev_g hg rfl)) rfl (own_get (by omega)) ld_one ?_
          refine .done ?_
          refine aops_glend (x := bA (inL (addU p ((upC p.classes[j]).take y.2.2) x.2.1) ((upC p.classes[j]).getD y.2.2 default))) 1 (wT rfl rfl rfl rfl) rfl rfl rfl (fun hg => (evs_cons (ev_g hg rfl) (evs_cons (ev_g hg rfl) evs_nil))) rfl (.lend (by simp) (.keep .nil)) (fun hg => (c_in (addU p ((upC p.classes[j]).take y.2.2) x.2.1) hos ((upC p.classes[j]).getD y.2.2 default))) rfl ?_
          refine aops_g (wT rfl rfl rfl rfl) rfl (fun hg => (eff_not rfl (ev_g hg rfl))) ?_
          refine aops_e (w0 rfl) rfl (eff_and rfl rfl rfl (fun h => h)) ?_
          refine aops_nil ?_
          refine awp_cond rfl ?_ ?_
          · intro hc
            have e : addU p ((upC p.classes[j]).take (y.2.2 + 1)) x.2.1 = (addU p ((upC p.classes[j]).take y.2.2) x.2.1) ++ [(upC p.classes[j]).getD y.2.2 default] := by rw [addU_take hy, addS, ← getD_eq hy, ← classAt_nn]; exact if_pos hc
            refine awp_region ?_
            refine aops_e (w0 rfl) rfl (eff_move rfl rfl) ?_
            refine aops_e (w0 rfl) rfl (eff_move rfl rfl) ?_
            refine aops_e (w0 rfl) rfl (eff_move rfl rfl) ?_
            refine aops_e (w0 rfl) rfl (eff_indexAddr_ownN y.2.2 rfl rfl rfl (by first | omega | (simp only [List.length_map]; omega) | (simp only [List.length_map, List.length_drop]; omega)) (by first | omega | (simp only [List.length_map]; omega) | (simp only [List.length_map, List.length_drop]; omega)) (by omega)) ?_
            refine aops_load_ptr 0 (w0 rfl) rfl rfl rfl rfl (own_get (by omega)) ld_one ?_
            refine aops_n (w0 rfl) rfl (fun id => eff_buildSlice id (ps := [(0, .tmp 72)]) rfl rfl rfl rfl rfl rfl rfl rfl) (fun id23 => ?_)
            refine aops_append 2 (w0 rfl) rfl rfl rfl rfl (by simp) rfl ⟨rfl, _, _, List.mem_of_getElem? (i := 0) rfl, by simp, rfl⟩ (by first | omega | (simp; omega) | (simp [maxLen]; omega) | (simp; done) | (simp [maxLen]; done)) (by first | omega | (simp; omega) | (simp [maxLen]; omega) | (simp; done) | (simp [maxLen]; done)) (fun id24 => ?_)
            refine aops_e (w0 rfl) rfl (eff_assign rfl rfl) ?_
            refine aops_nil ?_
            refine awp_region ?_
            refine aops_e (w0 rfl) rfl (eff_move rfl rfl) ?_
            refine aops_e (w0 rfl) rfl (eff_arith rfl rfl rfl (arith_add (by first | omega | (simp only [List.length_map]; omega)))) ?_
            refine aops_e (w0 rfl) rfl (eff_assign rfl rfl) ?_
            refine aops_nil ?_
            refine ⟨(id24, y.2.1, y.2.2 + 1), (by show y.2.2 + 1 ≤ (upC p.classes[j]).length; omega), (by show (upC p.classes[j]).length - (y.2.2 + 1) < (upC p.classes[j]).length - y.2.2; omega), ?_⟩
            exact weak_pick [1, 2, 3] ⟨rfl, rfl, (by show some (AV.own _ _ _ _) = some (AV.own _ _ _ _); first | (rw [e]; done) | (rw [e]; simp [cellsA])), rfl, rfl, trivial⟩ (by show some [_, (_, AObj.rows _ _ _), _] = some [_, (_, AObj.rows _ _ _), _]; first | (rw [e]; done) | (rw [e]; simp [cellsA])) (by decide) rfl rfl
          · intro hc
            have e : addU p ((upC p.classes[j]).take (y.2.2 + 1)) x.2.1 = (addU p ((upC p.classes[j]).take y.2.2) x.2.1) := by rw [addU_take hy, addS, ← getD_eq hy, ← classAt_nn]; exact if_neg (by rw [hc]; exact Bool.false_ne_true)
            refine awp_skip ?_
            refine awp_region ?_
            refine aops_e (w0 rfl) rfl (eff_move rfl rfl) ?_
            refine aops_e (w0 rfl) rfl (eff_arith rfl rfl rfl (arith_add (by first | omega | (simp only [List.length_map]; omega)))) ?_
            refine aops_e (w0 rfl) rfl (eff_assign rfl rfl) ?_
            refine aops_nil ?_
            refine ⟨(y.1, y.2.1, y.2.2 + 1), (by show y.2.2 + 1 ≤ (upC p.classes[j]).length; omega), (by show (upC p.classes[j]).length - (y.2.2 + 1) < (upC p.classes[j]).length - y.2.2; omega), ?_⟩
            exact weak_pick [0, 1, 2] ⟨rfl, rfl, (by show some (AV.own _ _ _ _) = some (AV.own _ _ _ _); first | (rw [e]; done) | (rw [e]; simp [cellsA])), rfl, rfl, trivial⟩ (by show some [_, (_, AObj.rows _ _ _), _] = some [_, (_, AObj.rows _ _ _), _]; first | (rw [e]; done) | (rw [e]; simp [cellsA])) (by decide) rfl rfl
        · intro hc
          have hy : ¬ y.2.2 < (upC p.classes[j]).length := by simpa using hc
          have e2 : (addU p ((upC p.classes[j]).take y.2.2) x.2.1) = addU p (upC p.classes[j]) x.2.1 := by rw [List.take_of_length_le (by omega)]
          refine awp_exit ?_
          refine awp_region ?_
          refine aops_e (w0 rfl) rfl (eff_move rfl rfl) ?_
          refine aops_e (w0 rfl) rfl (eff_arith rfl rfl rfl (arith_add (by first | omega | (simp only [List.length_map]; omega)))) ?_
          refine aops_e (w0 rfl) rfl (eff_assign rfl rfl) ?_
          refine aops_nil ?_
          refine ⟨(y.1, addU p (upC p.classes[j]) x.2.1, x.2.2 + 1), (hJ.stepD hx h2), (by show p.classes.length - (x.2.2 + 1) < p.classes.length - x.2.2; omega), ?_⟩
          exact weak_pick [1, 2] ⟨rfl, (by show some (AV.own _ _ _ _) = some (AV.own _ _ _ _); rw [e2]), rfl, trivial⟩ (by show some [(_, AObj.rows _ _ _), _] = some [(_, AObj.rows _ _ _), _]; rw [e2]) (by decide) rfl rfl
    · intro hc
      have hx : ¬ x.2.2 < x.2.1.length := by simpa using hc
      refine awp_exit ?_
      refine awp_seq ?_
      refine awp_weak (weak_frz 0 5 (T' := []) rfl rfl (by simp) trivial) ?_
      refine awp_region ?_
      refine aops_e (w0 rfl) rfl (eff_move rfl rfl) ?_
      refine aops_e (w0 rfl) rfl (eff_call [] rfl rfl rfl (c_rising x.2.1 (by omega)) List.nodup_nil) ?_
      refine aops_e (w0 rfl) rfl (eff_assign rfl rfl) ?_
      refine aops_nil ?_
      refine awp_ret ?_
      exact retq rfl (res_tmp rfl res_nil) (gsome (risF x.2.1) ⟨x.2.1, rfl, hJ.fin hx, by omega⟩ rfl)

theorem c_refSub (p : Prog) (hb : p.classes.length ≤ 1000) (hif : ∀ c, c ∈ p.classes → c.ifaces.length ≤ 1000) (a b : Str) : ACalls Try.prog 41 [p.av, sA a, sA b] [] (Gives (bA (subP p a b))) := by
  refine acalls_of (n := 12) Try.func41 rfl (by decide +kernel) rfl rfl ?_
  refine awp_seq ?_
  refine awp_region ?_
  refine aops_n (w0 rfl) rfl (fun id => eff_box id rfl rfl rfl rfl rfl) (fun id1 => ?_)
  refine aops_e (w0 rfl) rfl (eff_assign rfl rfl) ?_
  refine aops_nil ?_
  refine awp_seq ?_
  refine awp_region ?_
  refine aops_load_ptr 0 (w0 rfl) rfl rfl rfl rfl rfl (ld_agg (Nat.le_of_ble_eq_true rfl)) ?_
  refine aops_e (w0 rfl) rfl (eff_move rfl rfl) ?_
  refine aops_callS (w0 rfl) rfl rfl rfl rfl (c_refAnc p hb hif a) (fun v2 hv2 => ?_)
  obtain ⟨out, rfl, hm, ho⟩ := hv2
  refine aops_e (w0 rfl) rfl (eff_move rfl rfl) ?_
  refine aops_e (w0 rfl) rfl (eff_call [] rfl rfl rfl (c_in (risF out) (by have := risF_len out; unfold small; omega) b) List.nodup_nil) ?_
  refine aops_e (w0 rfl) rfl (eff_assign rfl rfl) ?_
  refine aops_nil ?_
  refine awp_ret ?_
  exact retq rfl (res_tmp rfl res_nil) (gb (inL_subP (fun s => (risF_mem out s).trans (hm s))))

end Go.Sx
