/- Contracts of functions, walked. -/
import Derived.Test.YtkdnaiaacohfhaaSxTry0
import Derived.Test.YtkdnaiaacohfhaaSxSpec
import Derived.Test.YtkdnaiaacohfhaaSxLive
set_option linter.unusedVariables false
set_option linter.unusedSimpArgs false
namespace Go.Sx
open Go Go.Proofs

theorem c_class (p : Prog) (hb : small p.classes.length) (nm : Str) : ACalls Try.prog 32 [p.av, sA nm] [] (Gives (iA (classAt p nm))) := by
  simp only [small] at hb
  refine acalls_of (n := 22) Try.func32 rfl (by decide +kernel) rfl rfl ?_
  refine awp_seq ?_
  refine awp_region ?_
  refine aops_n (w0 rfl) rfl (fun id => eff_box id rfl rfl rfl rfl rfl) (fun id1 => ?_)
  refine aops_e (w0 rfl) rfl (eff_assign rfl rfl) ?_
  refine aops_nil ?_
  refine awp_seq ?_
  refine awp_seq ?_
  refine awp_region ?_
  refine aops_e (w0 rfl) rfl (eff_assign rfl rfl) ?_
  refine aops_nil ?_
  refine awp_block ?_
  refine awp_loopJ (α := Nat) (fun i => ⟨[(5, iA i), (2, .ptr id1 5 0 0), (1, sA nm)], [(id1, .rows 27 5 [p.cells])], [], 22⟩) (fun i => idxFrom (fun c : Cls => beqS c.name nm) (p.classes.drop i) i = classAt p nm) (fun i => p.classes.length - i) 0 rfl ?_ ?_
  · exact weak_pick [0] ⟨rfl, rfl, rfl, trivial⟩ rfl (by decide) rfl rfl
  rintro i hJ
  refine awp_seq ?_
  refine awp_seq ?_
  refine awp_region ?_
  refine aops_e (w0 rfl) rfl (eff_move rfl rfl) ?_
  refine aops_e (w0 rfl) rfl (eff_fieldAddr rfl rfl rfl) ?_
  refine aops_load_ptr 0 (w0 rfl) rfl rfl rfl rfl rfl ld_one ?_
  refine aops_e (w0 rfl) rfl (eff_len rfl rfl rfl rfl) ?_
  refine aops_e (w0 rfl) rfl (eff_icmp rfl rfl rfl rfl) ?_
  refine aops_nil ?_
  refine awp_cond rfl ?_ ?_
  · intro hc
    have hi : i < p.classes.length := by simpa using hc
    refine awp_skip ?_
    refine awp_seq ?_
    refine awp_block ?_
    refine awp_seq ?_
    refine awp_region ?_
    refine aops_e (w0 rfl) rfl (eff_fieldAddr rfl rfl rfl) ?_
    refine aops_load_ptr 0 (w0 rfl) rfl rfl rfl rfl rfl ld_one ?_
    refine aops_e (w0 rfl) rfl (eff_move rfl rfl) ?_
    refine aops_e (w0 rfl) rfl (eff_indexAddr_lst rfl rfl rfl (len_map (fun _ => rfl)) (by first | omega | (simp only [List.length_map]; omega)) (by first | omega | (simp only [List.length_map]; omega))) ?_
    refine aops_e (w0 rfl) rfl (eff_fieldAddr rfl rfl rfl) ?_
    refine aops_e (w0 rfl) rfl (eff_loadE rfl rfl (map_get (by first | assumption | omega)) ld_one) ?_
    refine aops_e (w0 rfl) rfl (eff_move rfl rfl) ?_
    refine aops_e (w0 rfl) rfl (eff_scmp rfl rfl rfl rfl) ?_
    refine aops_nil ?_
    refine awp_cond rfl ?_ ?_
    · intro hc
      have hc : beqS (p.classes[i]).name nm = true := hc
      refine awp_seq ?_
      refine awp_region ?_
      refine aops_e (w0 rfl) rfl (eff_move rfl rfl) ?_
      refine aops_e (w0 rfl) rfl (eff_assign rfl rfl) ?_
      refine aops_nil ?_
      refine awp_ret ?_
      exact retq rfl (res_tmp rfl res_nil) (gi (by rw [← hJ, drop_get hi]; simp [idxFrom, hc]))
    · intro hc
      have hc : beqS (p.classes[i]).name nm = false := hc
      refine awp_skip ?_
      refine awp_region ?_
      refine aops_e (w0 rfl) rfl (eff_move rfl rfl) ?_
      refine aops_e (w0 rfl) rfl (eff_arith rfl rfl rfl (arith_add (by first | omega | (simp only [List.length_map]; omega)))) ?_
      refine aops_e (w0 rfl) rfl (eff_assign rfl rfl) ?_
      refine aops_nil ?_
      refine ⟨i + 1, (by rw [← hJ, drop_get hi]; simp [idxFrom, hc]), (by omega), ?_⟩
      exact weak_pick [0] ⟨rfl, rfl, rfl, trivial⟩ rfl (by decide) rfl rfl
  · intro hc
    have hi : ¬ i < p.classes.length := by simpa using hc
    refine awp_exit ?_
    refine awp_seq ?_
    refine awp_region ?_
    refine aops_e (w0 rfl) rfl (eff_assign rfl rfl) ?_
    refine aops_nil ?_
    refine awp_ret ?_
    exact retq rfl (res_tmp rfl res_nil) (gi (by rw [← hJ, drop_end hi]; rfl))

theorem c_in (l : List Str) (hl : small l.length) (s : Str) : ACalls Try.prog 45 [row1 sA l, sA s] [] (Gives (bA (inL l s))) := by
  simp only [small] at hl
  refine acalls_of (n := 18) Try.func45 rfl (by decide +kernel) rfl rfl ?_
  refine awp_seq ?_
  refine awp_region ?_
  refine aops_e (w0 rfl) rfl (eff_assign rfl rfl) ?_
  refine aops_nil ?_
  refine awp_seq ?_
  refine awp_seq ?_
  refine awp_region ?_
  refine aops_e (w0 rfl) rfl (eff_assign rfl rfl) ?_
  refine aops_nil ?_
  refine awp_block ?_
  refine awp_loopJ (α := Nat) (fun i => ⟨[(5, iA i), (0, row1 sA l), (1, sA s)], [], [], 18⟩) (fun i => inL (l.drop i) s = inL l s) (fun i => l.length - i) 0 rfl ?_ ?_
  · exact weak_pick [] ⟨rfl, rfl, rfl, trivial⟩ rfl (by decide) rfl rfl
  rintro i hJ
  refine awp_seq ?_
  refine awp_seq ?_
  refine awp_region ?_
  refine aops_e (w0 rfl) rfl (eff_move rfl rfl) ?_
  refine aops_e (w0 rfl) rfl (eff_move rfl rfl) ?_
  refine aops_e (w0 rfl) rfl (eff_len rfl rfl rfl rfl) ?_
  refine aops_e (w0 rfl) rfl (eff_icmp rfl rfl rfl rfl) ?_
  refine aops_nil ?_
  refine awp_cond rfl ?_ ?_
  · intro hc
    have hi : i < l.length := by simpa using hc
    refine awp_skip ?_
    refine awp_seq ?_
    refine awp_block ?_
    refine awp_seq ?_
    refine awp_region ?_
    refine aops_e (w0 rfl) rfl (eff_move rfl rfl) ?_
    refine aops_e (w0 rfl) rfl (eff_move rfl rfl) ?_
    refine aops_e (w0 rfl) rfl (eff_indexAddr_lst rfl rfl rfl (len_map (fun _ => rfl)) (by first | omega | (simp only [List.length_map]; omega)) (by first | omega | (simp only [List.length_map]; omega))) ?_
    refine aops_e (w0 rfl) rfl (eff_loadE rfl rfl (map_get (by first | assumption | omega)) ld_one) ?_
    refine aops_e (w0 rfl) rfl (eff_move rfl rfl) ?_
    refine aops_e (w0 rfl) rfl (eff_scmp rfl rfl rfl rfl) ?_
    refine aops_nil ?_
    refine awp_cond rfl ?_ ?_
    · intro hc
      have hc : beqS (l[i]) s = true := hc
      refine awp_seq ?_
      refine awp_region ?_
      refine aops_e (w0 rfl) rfl (eff_assign rfl rfl) ?_
      refine aops_nil ?_
      refine awp_ret ?_
      exact retq rfl (res_tmp rfl res_nil) (gb (by rw [← hJ, drop_get hi, inL_cons, hc]; rfl))
    · intro hc
      have hc : beqS (l[i]) s = false := hc
      refine awp_skip ?_
      refine awp_region ?_
      refine aops_e (w0 rfl) rfl (eff_move rfl rfl) ?_
      refine aops_e (w0 rfl) rfl (eff_arith rfl rfl rfl (arith_add (by first | omega | (simp only [List.length_map]; omega)))) ?_
      refine aops_e (w0 rfl) rfl (eff_assign rfl rfl) ?_
      refine aops_nil ?_
      refine ⟨i + 1, (by rw [← hJ, drop_get hi, inL_cons, hc]; rfl), (by omega), ?_⟩
      exact weak_pick [] ⟨rfl, rfl, rfl, trivial⟩ rfl (by decide) rfl rfl
  · intro hc
    have hi : ¬ i < l.length := by simpa using hc
    refine awp_exit ?_
    refine awp_seq ?_
    refine awp_region ?_
    refine aops_e (w0 rfl) rfl (eff_assign rfl rfl) ?_
    refine aops_nil ?_
    refine awp_ret ?_
    exact retq rfl (res_tmp rfl res_nil) (gb (by rw [← hJ, drop_end hi]; rfl))

theorem c_index (l : List Str) (hl : small l.length) (s : Str) : ACalls Try.prog 55 [row1 sA l, sA s] [] (Gives (iA (idxFrom (fun x => beqS s x) l 0))) := by
  simp only [small] at hl
  refine acalls_of (n := 19) Try.func55 rfl (by decide +kernel) rfl rfl ?_
  refine awp_seq ?_
  refine awp_region ?_
  refine aops_e (w0 rfl) rfl (eff_assign rfl rfl) ?_
  refine aops_nil ?_
  refine awp_seq ?_
  refine awp_seq ?_
  refine awp_region ?_
  refine aops_e (w0 rfl) rfl (eff_move rfl rfl) ?_
  refine aops_e (w0 rfl) rfl (eff_len rfl rfl rfl rfl) ?_
  refine aops_e (w0 rfl) rfl (eff_move rfl rfl) ?_
  refine aops_nil ?_
  refine awp_block ?_
  refine awp_loopJ (α := Nat) (fun i => ⟨[(8, iA i), (0, row1 sA l), (1, sA s), (7, iA l.length)], [], [], 19⟩) (fun i => i ≤ l.length ∧ idxFrom (fun x => beqS s x) (l.drop i) i = idxFrom (fun x => beqS s x) l 0) (fun i => l.length - i) 0 ⟨by omega, rfl⟩ ?_ ?_
  · exact weak_pick [] ⟨rfl, rfl, rfl, (by show some (iA _) = some (iA _); simp), trivial⟩ rfl (by decide) rfl rfl
  rintro i hJ
  refine awp_seq ?_
  refine awp_region ?_
  refine aops_e (w0 rfl) rfl (eff_icmp rfl rfl rfl rfl) ?_
  refine aops_nil ?_
  refine awp_seq ?_
  refine awp_cond rfl ?_ ?_
  · intro hc
    have hi : i < l.length := by simpa using hc
    refine awp_skip ?_
    refine awp_seq ?_
    refine awp_block ?_
    refine awp_seq ?_
    refine awp_region ?_
    refine aops_e (w0 rfl) rfl (eff_move rfl rfl) ?_
    refine aops_e (w0 rfl) rfl (eff_assign rfl rfl) ?_
    refine aops_nil ?_
    refine awp_seq ?_
    refine awp_region ?_
    refine aops_e (w0 rfl) rfl (eff_move rfl rfl) ?_
    refine aops_e (w0 rfl) rfl (eff_move rfl rfl) ?_
    refine aops_e (w0 rfl) rfl (eff_move rfl rfl) ?_
    refine aops_e (w0 rfl) rfl (eff_indexAddr_lst rfl rfl rfl (len_map (fun _ => rfl)) (by first | omega | (simp only [List.length_map]; omega)) (by first | omega | (simp only [List.length_map]; omega))) ?_
    refine aops_e (w0 rfl) rfl (eff_loadE rfl rfl (map_get (by first | assumption | omega)) ld_one) ?_
    refine aops_e (w0 rfl) rfl (eff_scmp rfl rfl rfl rfl) ?_
    refine aops_nil ?_
    refine awp_cond rfl ?_ ?_
    · intro hc
      have hc : beqS s (l[i]) = true := hc
      refine awp_seq ?_
      refine awp_region ?_
      refine aops_e (w0 rfl) rfl (eff_move rfl rfl) ?_
      refine aops_e (w0 rfl) rfl (eff_assign rfl rfl) ?_
      refine aops_nil ?_
      refine awp_ret ?_
      exact retq rfl (res_tmp rfl res_nil) (gi (by rw [← hJ.2, drop_get hi]; simp [idxFrom, hc]))
    · intro hc
      have hc : beqS s (l[i]) = false := hc
      refine awp_skip ?_
      refine awp_region ?_
      refine aops_e (w0 rfl) rfl (eff_arith rfl rfl rfl (arith_add (by first | omega | (simp only [List.length_map]; omega)))) ?_
      refine aops_e (w0 rfl) rfl (eff_move rfl rfl) ?_
      refine aops_nil ?_
      refine ⟨i + 1, ⟨by omega, by rw [← hJ.2, drop_get hi]; simp [idxFrom, hc]⟩, (by omega), ?_⟩
      exact weak_pick [] ⟨rfl, rfl, rfl, rfl, trivial⟩ rfl (by decide) rfl rfl
  · intro hc
    have hi : ¬ i < l.length := by simpa using hc
    refine awp_exit ?_
    refine awp_seq ?_
    refine awp_region ?_
    refine aops_e (w0 rfl) rfl (eff_assign rfl rfl) ?_
    refine aops_nil ?_
    refine awp_ret ?_
    exact retq rfl (res_tmp rfl res_nil) (gi (by rw [← hJ.2, drop_end hi]; rfl))

theorem c_contains (l : List Str) (hl : small l.length) (s : Str) : ACalls Try.prog 42 [row1 sA l, sA s] [] (Gives (bA (inL l s))) := by
  refine acalls_of (n := 9) Try.func42 rfl (by decide +kernel) rfl rfl ?_
  refine awp_seq ?_
  refine awp_region ?_
  refine aops_e (w0 rfl) rfl (eff_assign rfl rfl) ?_
  refine aops_nil ?_
  refine awp_seq ?_
  refine awp_region ?_
  refine aops_e (w0 rfl) rfl (eff_move rfl rfl) ?_
  refine aops_e (w0 rfl) rfl (eff_move rfl rfl) ?_
  refine aops_e (w0 rfl) rfl (eff_call [] rfl rfl rfl (c_index l hl s) List.nodup_nil) ?_
  refine aops_e (w0 rfl) rfl (eff_icmp rfl rfl rfl rfl) ?_
  refine aops_e (w0 rfl) rfl (eff_assign rfl rfl) ?_
  refine aops_nil ?_
  refine awp_ret ?_
  exact retq rfl (res_tmp rfl res_nil) (gb (inL_idx l s))

theorem c_isRef (f : Fact) : ACalls Try.prog 19 [f.av] [] (Gives (bA (isRefK f.kind))) := by
  refine acalls_of (n := 11) Try.func19 rfl (by decide +kernel) rfl rfl ?_
  refine awp_seq ?_
  refine awp_region ?_
  refine aops_n (w0 rfl) rfl (fun id => eff_box id rfl rfl rfl rfl rfl) (fun id1 => ?_)
  refine aops_e (w0 rfl) rfl (eff_assign rfl rfl) ?_
  refine aops_nil ?_
  refine awp_seq ?_
  refine awp_seq ?_
  refine awp_region ?_
  refine aops_e (w0 rfl) rfl (eff_fieldAddr rfl rfl rfl) ?_
  refine aops_load_ptr 0 (w0 rfl) rfl rfl rfl rfl rfl ld_one ?_
  refine aops_nil ?_
  refine awp_block ?_
  refine awp_seq ?_
  refine awp_seq ?_
  refine awp_region ?_
  refine aops_e (w0 rfl) rfl (eff_icmp rfl rfl rfl rfl) ?_
  refine aops_e (w0 rfl) rfl (eff_assign rfl rfl) ?_
  refine aops_nil ?_
  refine awp_cond rfl ?_ ?_
  · intro hc
    simp at hc
    refine awp_skip ?_
    refine awp_cond rfl ?_ ?_
    · intro hc
      simp at hc
      refine awp_seq ?_
      refine awp_region ?_
      refine aops_e (w0 rfl) rfl (eff_assign rfl rfl) ?_
      refine aops_nil ?_
      refine awp_ret ?_
      exact retq rfl (res_tmp rfl res_nil) (gb (by simp [isRefK]; try omega))
    · intro hd; exfalso; simp_all
  · intro hc
    simp at hc
    refine awp_seq ?_
    refine awp_region ?_
    refine aops_e (w0 rfl) rfl (eff_icmp rfl rfl rfl rfl) ?_
    refine aops_e (w0 rfl) rfl (eff_assign rfl rfl) ?_
    refine aops_nil ?_
    refine awp_cond rfl ?_ ?_
    · intro hc
      simp at hc
      refine awp_skip ?_
      refine awp_cond rfl ?_ ?_
      · intro hc
        simp at hc
        refine awp_seq ?_
        refine awp_region ?_
        refine aops_e (w0 rfl) rfl (eff_assign rfl rfl) ?_
        refine aops_nil ?_
        refine awp_ret ?_
        exact retq rfl (res_tmp rfl res_nil) (gb (by simp [isRefK]; try omega))
      · intro hd; exfalso; simp_all
    · intro hc
      simp at hc
      refine awp_seq ?_
      refine awp_region ?_
      refine aops_e (w0 rfl) rfl (eff_icmp rfl rfl rfl rfl) ?_
      refine aops_e (w0 rfl) rfl (eff_assign rfl rfl) ?_
      refine aops_nil ?_
      refine awp_cond rfl ?_ ?_
      · intro hc
        simp at hc
        refine awp_skip ?_
        refine awp_cond rfl ?_ ?_
        · intro hc
          simp at hc
          refine awp_seq ?_
          refine awp_region ?_
          refine aops_e (w0 rfl) rfl (eff_assign rfl rfl) ?_
          refine aops_nil ?_
          refine awp_ret ?_
          exact retq rfl (res_tmp rfl res_nil) (gb (by simp [isRefK]; try omega))
        · intro hd; exfalso; simp_all
      · intro hc
        simp at hc
        refine awp_seq ?_
        refine awp_region ?_
        refine aops_e (w0 rfl) rfl (eff_icmp rfl rfl rfl rfl) ?_
        refine aops_e (w0 rfl) rfl (eff_assign rfl rfl) ?_
        refine aops_nil ?_
        refine awp_cond rfl ?_ ?_
        · intro hc
          simp at hc
          refine awp_skip ?_
          refine awp_cond rfl ?_ ?_
          · intro hc
            simp at hc
            refine awp_seq ?_
            refine awp_region ?_
            refine aops_e (w0 rfl) rfl (eff_assign rfl rfl) ?_
            refine aops_nil ?_
            refine awp_ret ?_
            exact retq rfl (res_tmp rfl res_nil) (gb (by simp [isRefK]; try omega))
          · intro hd; exfalso; simp_all
        · intro hc
          simp at hc
          refine awp_region ?_
          refine aops_e (w0 rfl) rfl (eff_icmp rfl rfl rfl rfl) ?_
          refine aops_e (w0 rfl) rfl (eff_assign rfl rfl) ?_
          refine aops_nil ?_
          refine awp_cond rfl ?_ ?_
          · intro hc
            simp at hc
            refine awp_seq ?_
            refine awp_region ?_
            refine aops_e (w0 rfl) rfl (eff_assign rfl rfl) ?_
            refine aops_nil ?_
            refine awp_ret ?_
            exact retq rfl (res_tmp rfl res_nil) (gb (by simp [isRefK]; try omega))
          · intro hc
            simp at hc
            refine awp_skip ?_
            refine awp_seq ?_
            refine awp_region ?_
            refine aops_e (w0 rfl) rfl (eff_assign rfl rfl) ?_
            refine aops_nil ?_
            refine awp_ret ?_
            exact retq rfl (res_tmp rfl res_nil) (gb (by simp [isRefK]; try omega))

theorem c_refIsRef (f : Fact) : ACalls Try.prog 30 [f.av] [] (Gives (bA (isRefK f.kind))) := by
  refine acalls_of (n := 11) Try.func30 rfl (by decide +kernel) rfl rfl ?_
  refine awp_seq ?_
  refine awp_region ?_
  refine aops_n (w0 rfl) rfl (fun id => eff_box id rfl rfl rfl rfl rfl) (fun id1 => ?_)
  refine aops_e (w0 rfl) rfl (eff_assign rfl rfl) ?_
  refine aops_nil ?_
  refine awp_seq ?_
  refine awp_region ?_
  refine aops_e (w0 rfl) rfl (eff_fieldAddr rfl rfl rfl) ?_
  refine aops_load_ptr 0 (w0 rfl) rfl rfl rfl rfl rfl ld_one ?_
  refine aops_e (w0 rfl) rfl (eff_icmp rfl rfl rfl rfl) ?_
  refine aops_e (w0 rfl) rfl (eff_move rfl rfl) ?_
  refine aops_g (wT rfl rfl rfl rfl) rfl (fun hg => (eff_fieldAddr rfl rfl rfl)) ?_
  refine aops_gload 0 (wT rfl rfl rfl rfl) rfl rfl (fun hg => (ev_g hg rfl)) rfl rfl ld_one ?_
  refine aops_g (wT rfl rfl rfl rfl) rfl (fun hg => (eff_icmp rfl (ev_g hg rfl) rfl rfl)) ?_
  refine aops_e (w0 rfl) rfl (eff_and rfl rfl rfl (fun h => h)) ?_
  refine aops_e (w0 rfl) rfl (eff_assign rfl rfl) ?_
  refine aops_nil ?_
  refine awp_ret ?_
  exact retq rfl (res_tmp rfl res_nil) (gv rfl)

theorem c_number  : ACalls Try.prog 28 [] [] (Gives (Fact.av ⟨1, zS⟩)) := by
  refine acalls_of (n := 2) Try.func28 rfl (by decide +kernel) rfl rfl ?_
  refine awp_seq ?_
  refine awp_region ?_
  refine aops_n (w0 rfl) rfl (fun id => eff_alloc id rfl rfl rfl) (fun id1 => ?_)
  refine aops_nil ?_
  refine awp_seq ?_
  refine awp_region ?_
  refine aops_e (w0 rfl) rfl (eff_build rfl rfl rfl) ?_
  refine aops_store 0 (w0 rfl) rfl rfl rfl rfl rfl rfl rfl rfl rfl ?_
  refine aops_nil ?_
  refine awp_ret ?_
  exact retq rfl (res_cell 0 rfl rfl rfl (ld_agg (Nat.le_of_ble_eq_true rfl)) res_nil) (gv rfl)

theorem c_some  : ACalls Try.prog 25 [] [] (Gives (Fact.av ⟨6, zS⟩)) := by
  refine acalls_of (n := 2) Try.func25 rfl (by decide +kernel) rfl rfl ?_
  refine awp_seq ?_
  refine awp_region ?_
  refine aops_n (w0 rfl) rfl (fun id => eff_alloc id rfl rfl rfl) (fun id1 => ?_)
  refine aops_nil ?_
  refine awp_seq ?_
  refine awp_region ?_
  refine aops_e (w0 rfl) rfl (eff_build rfl rfl rfl) ?_
  refine aops_store 0 (w0 rfl) rfl rfl rfl rfl rfl rfl rfl rfl rfl ?_
  refine aops_nil ?_
  refine awp_ret ?_
  exact retq rfl (res_cell 0 rfl rfl rfl (ld_agg (Nat.le_of_ble_eq_true rfl)) res_nil) (gv rfl)

theorem c_ref (s : Str) : ACalls Try.prog 18 [sA s] [] (Gives (Fact.av ⟨3, s⟩)) := by
  refine acalls_of (n := 5) Try.func18 rfl (by decide +kernel) rfl rfl ?_
  refine awp_seq ?_
  refine awp_region ?_
  refine aops_n (w0 rfl) rfl (fun id => eff_alloc id rfl rfl rfl) (fun id1 => ?_)
  refine aops_nil ?_
  refine awp_seq ?_
  refine awp_region ?_
  refine aops_e (w0 rfl) rfl (eff_move rfl rfl) ?_
  refine aops_e (w0 rfl) rfl (eff_build rfl rfl rfl) ?_
  refine aops_store 0 (w0 rfl) rfl rfl rfl rfl rfl rfl rfl rfl rfl ?_
  refine aops_nil ?_
  refine awp_ret ?_
  exact retq rfl (res_cell 0 rfl rfl rfl (ld_agg (Nat.le_of_ble_eq_true rfl)) res_nil) (gv rfl)

theorem c_of (t : Ty) : ACalls Try.prog 20 [t.av] [] (Gives (Fact.av (ofT t))) := by
  refine acalls_of (n := 22) Try.func20 rfl (by decide +kernel) rfl rfl ?_
  refine awp_seq ?_
  refine awp_region ?_
  refine aops_n (w0 rfl) rfl (fun id => eff_box id rfl rfl rfl rfl rfl) (fun id1 => ?_)
  refine aops_n (w0 rfl) rfl (fun id => eff_alloc id rfl rfl rfl) (fun id2 => ?_)
  refine aops_nil ?_
  refine awp_seq ?_
  refine awp_seq ?_
  refine awp_region ?_
  refine aops_e (w0 rfl) rfl (eff_fieldAddr rfl rfl rfl) ?_
  refine aops_load_ptr 1 (w0 rfl) rfl rfl rfl rfl rfl ld_one ?_
  refine aops_nil ?_
  refine awp_block ?_
  refine awp_seq ?_
  refine awp_region ?_
  refine aops_e (w0 rfl) rfl (eff_icmp rfl rfl rfl rfl) ?_
  refine aops_e (w0 rfl) rfl (eff_assign rfl rfl) ?_
  refine aops_nil ?_
  refine awp_cond rfl ?_ ?_
  · intro hc
    simp at hc
    refine awp_seq ?_
    refine awp_region ?_
    refine aops_e (w0 rfl) rfl (eff_call [] rfl rfl rfl c_number List.nodup_nil) ?_
    refine aops_store 0 (w0 rfl) rfl rfl rfl rfl rfl rfl rfl rfl rfl ?_
    refine aops_nil ?_
    refine awp_ret ?_
    exact retq rfl (res_cell 0 rfl rfl rfl (ld_agg (Nat.le_of_ble_eq_true rfl)) res_nil) (gv (by simp_all [ofT]; rfl))
  · intro hc
    simp at hc
    refine awp_seq ?_
    refine awp_region ?_
    refine aops_e (w0 rfl) rfl (eff_icmp rfl rfl rfl rfl) ?_
    refine aops_e (w0 rfl) rfl (eff_assign rfl rfl) ?_
    refine aops_nil ?_
    refine awp_cond rfl ?_ ?_
    · intro hc
      simp at hc
      refine awp_seq ?_
      refine awp_region ?_
      refine aops_e (w0 rfl) rfl (eff_fieldAddr rfl rfl rfl) ?_
      refine aops_load_ptr 1 (w0 rfl) rfl rfl rfl rfl rfl ld_one ?_
      refine aops_e (w0 rfl) rfl (eff_build rfl rfl rfl) ?_
      refine aops_store 0 (w0 rfl) rfl rfl rfl rfl rfl rfl rfl rfl rfl ?_
      refine aops_nil ?_
      refine awp_ret ?_
      exact retq rfl (res_cell 0 rfl rfl rfl (ld_agg (Nat.le_of_ble_eq_true rfl)) res_nil) (gv (by simp_all [ofT]; rfl))
    · intro hc
      simp at hc
      refine awp_seq ?_
      refine awp_region ?_
      refine aops_e (w0 rfl) rfl (eff_icmp rfl rfl rfl rfl) ?_
      refine aops_e (w0 rfl) rfl (eff_assign rfl rfl) ?_
      refine aops_nil ?_
      refine awp_cond rfl ?_ ?_
      · intro hc
        simp at hc
        refine awp_seq ?_
        refine awp_region ?_
        refine aops_e (w0 rfl) rfl (eff_build rfl rfl rfl) ?_
        refine aops_store 0 (w0 rfl) rfl rfl rfl rfl rfl rfl rfl rfl rfl ?_
        refine aops_nil ?_
        refine awp_ret ?_
        exact retq rfl (res_cell 0 rfl rfl rfl (ld_agg (Nat.le_of_ble_eq_true rfl)) res_nil) (gv (by simp_all [ofT]; rfl))
      · intro hc
        simp at hc
        refine awp_seq ?_
        refine awp_region ?_
        refine aops_e (w0 rfl) rfl (eff_icmp rfl rfl rfl rfl) ?_
        refine aops_e (w0 rfl) rfl (eff_assign rfl rfl) ?_
        refine aops_nil ?_
        refine awp_cond rfl ?_ ?_
        · intro hc
          simp at hc
          refine awp_seq ?_
          refine awp_region ?_
          refine aops_e (w0 rfl) rfl (eff_fieldAddr rfl rfl rfl) ?_
          refine aops_load_ptr 1 (w0 rfl) rfl rfl rfl rfl rfl ld_one ?_
          refine aops_e (w0 rfl) rfl (eff_build rfl rfl rfl) ?_
          refine aops_store 0 (w0 rfl) rfl rfl rfl rfl rfl rfl rfl rfl rfl ?_
          refine aops_nil ?_
          refine awp_ret ?_
          exact retq rfl (res_cell 0 rfl rfl rfl (ld_agg (Nat.le_of_ble_eq_true rfl)) res_nil) (gv (by simp_all [ofT]; rfl))
        · intro hc
          simp at hc
          refine awp_skip ?_
          refine awp_seq ?_
          refine awp_region ?_
          refine aops_e (w0 rfl) rfl (eff_build rfl rfl rfl) ?_
          refine aops_store 0 (w0 rfl) rfl rfl rfl rfl rfl rfl rfl rfl rfl ?_
          refine aops_nil ?_
          refine awp_ret ?_
          exact retq rfl (res_cell 0 rfl rfl rfl (ld_agg (Nat.le_of_ble_eq_true rfl)) res_nil) (gv (by simp_all [ofT]; rfl))

theorem c_refIface (p : Prog) (hb : small p.classes.length) (nm : Str) : ACalls Try.prog 33 [p.av, sA nm] [] (Gives (bA (ifaceP p nm))) := by
  refine acalls_of (n := 19) Try.func33 rfl (by decide +kernel) rfl rfl ?_
  refine awp_seq ?_
  refine awp_region ?_
  refine aops_n (w0 rfl) rfl (fun id => eff_box id rfl rfl rfl rfl rfl) (fun id1 => ?_)
  refine aops_e (w0 rfl) rfl (eff_assign rfl rfl) ?_
  refine aops_nil ?_
  refine awp_seq ?_
  rcases classAt_cases p nm with ⟨h1, h2⟩ | ⟨j, hj, h1, h2⟩
  · skip
    refine awp_region ?_
    refine aops_load_ptr 0 (w0 rfl) rfl rfl rfl rfl rfl (ld_agg (Nat.le_of_ble_eq_true rfl)) ?_
    refine aops_e (w0 rfl) rfl (eff_move rfl rfl) ?_
    refine aops_e (w0 rfl) rfl (eff_call [] rfl rfl rfl (c_class p hb nm) List.nodup_nil) ?_
    refine aops_e (w0 rfl) rfl (eff_assign rfl rfl) ?_
    refine aops_nil ?_
    refine awp_seq ?_
    refine awp_region ?_
    refine aops_e (w0 rfl) rfl (eff_move rfl rfl) ?_
    refine aops_e (w0 rfl) rfl (eff_icmp rfl rfl rfl rfl) ?_
    refine aops_e (w0 rfl) rfl (eff_move rfl rfl) ?_
    refine aops_g (wT rfl rfl rfl rfl) rfl (fun hg => (eff_fieldAddr rfl rfl rfl)) ?_
    refine aops_gload 0 (wT rfl rfl rfl rfl) rfl rfl (fun hg => (ev_g hg rfl)) rfl rfl ld_one ?_
    refine aops_g (wT rfl rfl rfl rfl) rfl (fun hg => (eff_move rfl rfl)) ?_
    refine aops_g (wT rfl rfl rfl rfl) rfl (fun hg => (eff_indexAddr_lst rfl (ev_g hg rfl) (ev_g hg rfl) (len_map (fun _ => rfl)) (by (try simp at hg) <;> first | omega | (simp only [List.length_map]; omega)) (by (try simp at hg) <;> first | omega | (simp only [List.length_map]; omega)))) ?_
    refine aops_g (wT rfl rfl rfl rfl) rfl (fun hg => (eff_fieldAddr rfl (ev_g hg rfl) rfl)) ?_
    refine aops_g (wT rfl rfl rfl rfl) rfl (fun hg => (eff_loadE rfl (ev_g hg rfl) (map_getD (by (try simp at hg) <;> first | assumption | omega)) ld_one)) ?_
    refine aops_e (w0 rfl) rfl (eff_and rfl rfl rfl (fun h => h)) ?_
    refine aops_e (w0 rfl) rfl (eff_assign rfl rfl) ?_
    refine aops_nil ?_
    refine awp_ret ?_
    exact retq rfl (res_tmp rfl res_nil) (gb (by simp_all [ifaceP]))
  · skip
    refine awp_region ?_
    refine aops_load_ptr 0 (w0 rfl) rfl rfl rfl rfl rfl (ld_agg (Nat.le_of_ble_eq_true rfl)) ?_
    refine aops_e (w0 rfl) rfl (eff_move rfl rfl) ?_
    refine aops_e (w0 rfl) rfl (eff_call [] rfl rfl rfl (c_class p hb nm) List.nodup_nil) ?_
    refine aops_e (w0 rfl) rfl (eff_assign rfl rfl) ?_
    refine aops_nil ?_
    refine awp_seq ?_
    refine awp_region ?_
    refine aops_e (w0 rfl) rfl (eff_move rfl rfl) ?_
    refine aops_e (w0 rfl) rfl (eff_icmp rfl rfl rfl rfl) ?_
    refine aops_e (w0 rfl) rfl (eff_move rfl rfl) ?_
    refine aops_g (wT rfl rfl rfl rfl) rfl (fun hg => (eff_fieldAddr rfl rfl rfl)) ?_
    refine aops_gload 0 (wT rfl rfl rfl rfl) rfl rfl (fun hg => (ev_g hg rfl)) rfl rfl ld_one ?_
    refine aops_g (wT rfl rfl rfl rfl) rfl (fun hg => (eff_move rfl rfl)) ?_
    refine aops_g (wT rfl rfl rfl rfl) rfl (fun hg => (eff_indexAddr_lst rfl (ev_g hg rfl) (ev_g hg rfl) (len_map (fun _ => rfl)) (by (try simp at hg) <;> first | omega | (simp only [List.length_map]; omega)) (by (try simp at hg) <;> first | omega | (simp only [List.length_map]; omega)))) ?_
    refine aops_g (wT rfl rfl rfl rfl) rfl (fun hg => (eff_fieldAddr rfl (ev_g hg rfl) rfl)) ?_
    refine aops_g (wT rfl rfl rfl rfl) rfl (fun hg => (eff_loadE rfl (ev_g hg rfl) (map_getD (by (try simp at hg) <;> first | assumption | omega)) ld_one)) ?_
    refine aops_e (w0 rfl) rfl (eff_and rfl rfl rfl (fun h => h)) ?_
    refine aops_e (w0 rfl) rfl (eff_assign rfl rfl) ?_
    refine aops_nil ?_
    refine awp_ret ?_
    exact retq rfl (res_tmp rfl res_nil) (gb (by simp_all [ifaceP]))

theorem c_classFn (c : Cls) (nm : Str) (idn : Nat) : ACalls Try.prog 74 [c.av, .ptr idn 1 0 0] [(idn, .rows 9 1 [[sA nm]])] (GivesH (bA (beqS c.name nm)) [(idn, .rows 9 1 [[sA nm]])]) := by
  refine acalls_of (n := 8) Try.func74 rfl (by decide +kernel) rfl rfl ?_
  refine awp_seq ?_
  refine awp_region ?_
  refine aops_n (w0 rfl) rfl (fun id => eff_box id rfl rfl rfl rfl rfl) (fun id1 => ?_)
  refine aops_e (w0 rfl) rfl (eff_assign rfl rfl) ?_
  refine aops_nil ?_
  refine awp_seq ?_
  refine awp_region ?_
  refine aops_e (w0 rfl) rfl (eff_fieldAddr rfl rfl rfl) ?_
  refine aops_load_ptr 0 (w0 rfl) rfl rfl rfl rfl rfl ld_one ?_
  refine aops_load_ptr 1 (w0 rfl) rfl rfl rfl rfl rfl ld_one ?_
  refine aops_e (w0 rfl) rfl (eff_scmp rfl rfl rfl rfl) ?_
  refine aops_e (w0 rfl) rfl (eff_assign rfl rfl) ?_
  refine aops_nil ?_
  refine awp_ret ?_
  exact retq_keep rfl (res_tmp rfl res_nil) (.cons _ (.refl _)) (gvH rfl)

theorem c_indexFunc (cs : List Cls) (hl : small cs.length) (g : Nat) (caps : List AV) (idn : Nat) (ob : AObj) (f : Cls → Bool) (hg : ∀ c, c ∈ cs → ACalls Try.prog g (c.av :: caps) [(idn, ob)] (GivesH (bA (f c)) [(idn, ob)])) : ACalls Try.prog 73 [.lst (cs.map Cls.cells), .fn (.func g) caps] [(idn, ob)] (GivesH (iA (idxFrom f cs 0)) [(idn, ob)]) := by
  simp only [small] at hl
  refine acalls_of (n := 19) Try.func73 rfl (by decide +kernel) rfl rfl ?_
  refine awp_seq ?_
  refine awp_region ?_
  refine aops_e (w0 rfl) rfl (eff_assign rfl rfl) ?_
  refine aops_nil ?_
  refine awp_seq ?_
  refine awp_seq ?_
  refine awp_region ?_
  refine aops_e (w0 rfl) rfl (eff_move rfl rfl) ?_
  refine aops_e (w0 rfl) rfl (eff_len rfl rfl rfl rfl) ?_
  refine aops_e (w0 rfl) rfl (eff_move rfl rfl) ?_
  refine aops_nil ?_
  refine awp_block ?_
  refine awp_loopJ (α := Nat) (fun i => ⟨[(8, iA i), (0, .lst (cs.map Cls.cells)), (1, .fn (.func g) caps), (7, iA cs.length)], [(idn, ob)], [], 19⟩) (fun i => i ≤ cs.length ∧ idxFrom f (cs.drop i) i = idxFrom f cs 0) (fun i => cs.length - i) 0 ⟨by omega, rfl⟩ ?_ ?_
  · exact weak_pick [0] ⟨rfl, rfl, rfl, (by show some (iA _) = some (iA _); simp), trivial⟩ rfl (by decide) rfl rfl
  rintro i hJ
  refine awp_seq ?_
  refine awp_region ?_
  refine aops_e (w0 rfl) rfl (eff_icmp rfl rfl rfl rfl) ?_
  refine aops_nil ?_
  refine awp_seq ?_
  refine awp_cond rfl ?_ ?_
  · intro hc
    have hi : i < cs.length := by simpa using hc
    refine awp_skip ?_
    refine awp_seq ?_
    refine awp_block ?_
    refine awp_seq ?_
    refine awp_region ?_
    refine aops_e (w0 rfl) rfl (eff_move rfl rfl) ?_
    refine aops_e (w0 rfl) rfl (eff_assign rfl rfl) ?_
    refine aops_nil ?_
    refine awp_seq ?_
    refine awp_region ?_
    refine aops_e (w0 rfl) rfl (eff_move rfl rfl) ?_
    refine aops_e (w0 rfl) rfl (eff_move rfl rfl) ?_
    refine aops_e (w0 rfl) rfl (eff_move rfl rfl) ?_
    refine aops_e (w0 rfl) rfl (eff_indexAddr_lst rfl rfl rfl (len_map (fun _ => rfl)) (by first | omega | (simp only [List.length_map]; omega)) (by first | omega | (simp only [List.length_map]; omega))) ?_
    refine aops_e (w0 rfl) rfl (eff_loadE rfl rfl (map_get (by first | assumption | omega)) (ld_agg (Nat.le_of_ble_eq_true rfl))) ?_
    refine aops_callH 0 (w0 rfl) rfl rfl rfl rfl rfl (hg _ (List.getElem_mem hi)) ?_
    refine aops_nil ?_
    refine awp_cond rfl ?_ ?_
    · intro hc
      have hc : f (cs[i]) = true := hc
      refine awp_seq ?_
      refine awp_region ?_
      refine aops_e (w0 rfl) rfl (eff_move rfl rfl) ?_
      refine aops_e (w0 rfl) rfl (eff_assign rfl rfl) ?_
      refine aops_nil ?_
      refine awp_ret ?_
      exact retq_keep rfl (res_tmp rfl res_nil) (.refl _) (gvH (congrArg iA (by rw [← hJ.2, drop_get hi]; simp [idxFrom, hc])))
    · intro hc
      have hc : f (cs[i]) = false := hc
      refine awp_skip ?_
      refine awp_region ?_
      refine aops_e (w0 rfl) rfl (eff_arith rfl rfl rfl (arith_add (by first | omega | (simp only [List.length_map]; omega)))) ?_
      refine aops_e (w0 rfl) rfl (eff_move rfl rfl) ?_
      refine aops_nil ?_
      refine ⟨i + 1, ⟨by omega, by rw [← hJ.2, drop_get hi]; simp [idxFrom, hc]⟩, (by omega), ?_⟩
      exact weak_pick [0] ⟨rfl, rfl, rfl, rfl, trivial⟩ rfl (by decide) rfl rfl
  · intro hc
    have hi : ¬ i < cs.length := by simpa using hc
    refine awp_exit ?_
    refine awp_seq ?_
    refine awp_region ?_
    refine aops_e (w0 rfl) rfl (eff_assign rfl rfl) ?_
    refine aops_nil ?_
    refine awp_ret ?_
    exact retq_keep rfl (res_tmp rfl res_nil) (.refl _) (gvH (congrArg iA (by rw [← hJ.2, drop_end hi]; rfl)))

theorem c_normClass (p : Prog) (hb : small p.classes.length) (nm : Str) : ACalls Try.prog 62 [p.av, sA nm] [] (Gives (iA (classAt p nm))) := by
  refine acalls_of (n := 9) Try.func62 rfl (by decide +kernel) rfl rfl ?_
  refine awp_seq ?_
  refine awp_region ?_
  refine aops_n (w0 rfl) rfl (fun id => eff_box id rfl rfl rfl rfl rfl) (fun id1 => ?_)
  refine aops_n (w0 rfl) rfl (fun id => eff_box id rfl rfl rfl rfl rfl) (fun id2 => ?_)
  refine aops_e (w0 rfl) rfl (eff_assign rfl rfl) ?_
  refine aops_nil ?_
  refine awp_seq ?_
  refine awp_region ?_
  refine aops_e (w0 rfl) rfl (eff_fieldAddr rfl rfl rfl) ?_
  refine aops_load_ptr 1 (w0 rfl) rfl rfl rfl rfl rfl ld_one ?_
  refine aops_e (w0 rfl) rfl (eff_makeFunc rfl rfl) ?_
  refine aops_callH 0 (w0 rfl) rfl rfl rfl rfl rfl (c_indexFunc p.classes hb 74 [.ptr id2 1 0 0] id2 _ (fun c => beqS c.name nm) (fun c _ => c_classFn c nm id2)) ?_
  refine aops_e (w0 rfl) rfl (eff_assign rfl rfl) ?_
  refine aops_nil ?_
  refine awp_ret ?_
  exact retq rfl (res_tmp rfl res_nil) (gi rfl)

theorem c_known (p : Prog) (hb : small p.classes.length) (nm : Str) {o : Option Cls} (ho : clsFind p nm = o) : ACalls Try.prog 52 [p.av, sA nm] [] (Gives (knownA o)) := by
  refine acalls_of (n := 18) Try.func52 rfl (by decide +kernel) rfl rfl ?_
  refine awp_seq ?_
  refine awp_region ?_
  refine aops_n (w0 rfl) rfl (fun id => eff_box id rfl rfl rfl rfl rfl) (fun id1 => ?_)
  refine aops_n (w0 rfl) rfl (fun id => eff_alloc id rfl rfl rfl) (fun id2 => ?_)
  refine aops_e (w0 rfl) rfl (eff_assign rfl rfl) ?_
  refine aops_nil ?_
  refine awp_seq ?_
  rcases classAt_cases p nm with ⟨h1, h2⟩ | ⟨j, hj, h1, h2⟩
  · skip
    rw [h2] at ho; subst ho
    refine awp_region ?_
    refine aops_load_ptr 1 (w0 rfl) rfl rfl rfl rfl rfl (ld_agg (Nat.le_of_ble_eq_true rfl)) ?_
    refine aops_e (w0 rfl) rfl (eff_move rfl rfl) ?_
    refine aops_e (w0 rfl) rfl (eff_call [] rfl rfl rfl (c_normClass p hb nm) List.nodup_nil) ?_
    refine aops_e (w0 rfl) rfl (eff_assign rfl rfl) ?_
    refine aops_nil ?_
    refine awp_seq ?_
    refine awp_seq ?_
    refine awp_region ?_
    refine aops_e (w0 rfl) rfl (eff_move rfl rfl) ?_
    refine aops_e (w0 rfl) rfl (eff_icmp rfl rfl rfl rfl) ?_
    refine aops_nil ?_
    refine awp_cond rfl ?_ ?_
    · intro hc
      have hx : classAt p nm < 0 := by simpa using hc
      refine awp_seq ?_
      refine awp_region ?_
      refine aops_e (w0 rfl) rfl (eff_build rfl rfl rfl) ?_
      refine aops_store 0 (w0 rfl) rfl rfl rfl rfl rfl rfl rfl rfl rfl ?_
      refine aops_e (w0 rfl) rfl (eff_assign rfl rfl) ?_
      refine aops_nil ?_
      refine awp_ret ?_
      exact retq rfl (res_cell 0 rfl rfl rfl (ld_agg (Nat.le_of_ble_eq_true rfl)) (res_tmp rfl res_nil)) (gvr (by first | rfl | (exfalso; omega)))
    · intro hc
      have hx : ¬ classAt p nm < 0 := by simpa using hc
      refine awp_skip ?_
      refine awp_seq ?_
      refine awp_region ?_
      refine aops_e (w0 rfl) rfl (eff_fieldAddr rfl rfl rfl) ?_
      refine aops_load_ptr 1 (w0 rfl) rfl rfl rfl rfl rfl ld_one ?_
      refine aops_e (w0 rfl) rfl (eff_move rfl rfl) ?_
      refine aops_e (w0 rfl) rfl (eff_indexAddr_lst rfl rfl rfl (len_map (fun _ => rfl)) (by first | omega | (simp only [List.length_map]; omega)) (by first | omega | (simp only [List.length_map]; omega))) ?_
      refine aops_e (w0 rfl) rfl (eff_loadE rfl rfl (map_get (by first | assumption | omega)) (ld_agg (Nat.le_of_ble_eq_true rfl))) ?_
      refine aops_store 0 (w0 rfl) rfl rfl rfl rfl rfl rfl rfl rfl rfl ?_
      refine aops_e (w0 rfl) rfl (eff_assign rfl rfl) ?_
      refine aops_nil ?_
      refine awp_ret ?_
      exact retq rfl (res_cell 0 rfl rfl rfl (ld_agg (Nat.le_of_ble_eq_true rfl)) (res_tmp rfl res_nil)) (gvr (by first | (exfalso; omega) | (simp only [h1]; rfl)))
  · skip
    rw [h2] at ho; subst ho
    refine awp_region ?_
    refine aops_load_ptr 1 (w0 rfl) rfl rfl rfl rfl rfl (ld_agg (Nat.le_of_ble_eq_true rfl)) ?_
    refine aops_e (w0 rfl) rfl (eff_move rfl rfl) ?_
    refine aops_e (w0 rfl) rfl (eff_call [] rfl rfl rfl (c_normClass p hb nm) List.nodup_nil) ?_
    refine aops_e (w0 rfl) rfl (eff_assign rfl rfl) ?_
    refine aops_nil ?_
    refine awp_seq ?_
    refine awp_seq ?_
    refine awp_region ?_
    refine aops_e (w0 rfl) rfl (eff_move rfl rfl) ?_
    refine aops_e (w0 rfl) rfl (eff_icmp rfl rfl rfl rfl) ?_
    refine aops_nil ?_
    refine awp_cond rfl ?_ ?_
    · intro hc
      have hx : classAt p nm < 0 := by simpa using hc
      refine awp_seq ?_
      refine awp_region ?_
      refine aops_e (w0 rfl) rfl (eff_build rfl rfl rfl) ?_
      refine aops_store 0 (w0 rfl) rfl rfl rfl rfl rfl rfl rfl rfl rfl ?_
      refine aops_e (w0 rfl) rfl (eff_assign rfl rfl) ?_
      refine aops_nil ?_
      refine awp_ret ?_
      exact retq rfl (res_cell 0 rfl rfl rfl (ld_agg (Nat.le_of_ble_eq_true rfl)) (res_tmp rfl res_nil)) (gvr (by first | rfl | (exfalso; omega)))
    · intro hc
      have hx : ¬ classAt p nm < 0 := by simpa using hc
      refine awp_skip ?_
      refine awp_seq ?_
      refine awp_region ?_
      refine aops_e (w0 rfl) rfl (eff_fieldAddr rfl rfl rfl) ?_
      refine aops_load_ptr 1 (w0 rfl) rfl rfl rfl rfl rfl ld_one ?_
      refine aops_e (w0 rfl) rfl (eff_move rfl rfl) ?_
      refine aops_e (w0 rfl) rfl (eff_indexAddr_lst rfl rfl rfl (len_map (fun _ => rfl)) (by first | omega | (simp only [List.length_map]; omega)) (by first | omega | (simp only [List.length_map]; omega))) ?_
      refine aops_e (w0 rfl) rfl (eff_loadE rfl rfl (map_get (by first | assumption | omega)) (ld_agg (Nat.le_of_ble_eq_true rfl))) ?_
      refine aops_store 0 (w0 rfl) rfl rfl rfl rfl rfl rfl rfl rfl rfl ?_
      refine aops_e (w0 rfl) rfl (eff_assign rfl rfl) ?_
      refine aops_nil ?_
      refine awp_ret ?_
      exact retq rfl (res_cell 0 rfl rfl rfl (ld_agg (Nat.le_of_ble_eq_true rfl)) (res_tmp rfl res_nil)) (gvr (by first | (exfalso; omega) | (simp only [h1]; rfl)))

theorem c_iface (p : Prog) (hb : small p.classes.length) (nm : Str) : ACalls Try.prog 39 [p.av, sA nm] [] (Gives (bA (ifaceP p nm))) := by
  refine acalls_of (n := 18) Try.func39 rfl (by decide +kernel) rfl rfl ?_
  refine awp_seq ?_
  refine awp_region ?_
  refine aops_n (w0 rfl) rfl (fun id => eff_box id rfl rfl rfl rfl rfl) (fun id1 => ?_)
  refine aops_e (w0 rfl) rfl (eff_assign rfl rfl) ?_
  refine aops_nil ?_
  refine awp_seq ?_
  rcases hk : clsFind p nm with _ | c
  · skip
    refine awp_region ?_
    refine aops_load_ptr 0 (w0 rfl) rfl rfl rfl rfl rfl (ld_agg (Nat.le_of_ble_eq_true rfl)) ?_
    refine aops_e (w0 rfl) rfl (eff_move rfl rfl) ?_
    refine aops_e (w0 rfl) rfl (eff_call [] rfl rfl rfl (c_known p hb nm hk) List.nodup_nil) ?_
    refine aops_e (w0 rfl) rfl (eff_move rfl rfl) ?_
    refine aops_e (w0 rfl) rfl (eff_extract rfl rfl rfl) ?_
    refine aops_e (w0 rfl) rfl (eff_extract rfl rfl rfl) ?_
    refine aops_n (w0 rfl) rfl (fun id => eff_alloc id rfl rfl rfl) (fun id2 => ?_)
    refine aops_store 0 (w0 rfl) rfl rfl rfl rfl rfl rfl rfl rfl rfl ?_
    refine aops_e (w0 rfl) rfl (eff_assign rfl rfl) ?_
    refine aops_nil ?_
    refine awp_seq ?_
    refine awp_region ?_
    refine aops_e (w0 rfl) rfl (eff_move rfl rfl) ?_
    refine aops_e (w0 rfl) rfl (eff_move rfl rfl) ?_
    refine aops_g (wT rfl rfl rfl rfl) rfl (fun hg => (eff_fieldAddr rfl rfl rfl)) ?_
    refine aops_gload 0 (wT rfl rfl rfl rfl) rfl rfl (fun hg => (ev_g hg rfl)) rfl rfl ld_one ?_
    refine aops_e (w0 rfl) rfl (eff_and rfl rfl rfl (fun h => h)) ?_
    refine aops_e (w0 rfl) rfl (eff_assign rfl rfl) ?_
    refine aops_nil ?_
    refine awp_ret ?_
    exact retq rfl (res_tmp rfl res_nil) (gb (by simp [ifaceP, hk]))
  · skip
    refine awp_region ?_
    refine aops_load_ptr 0 (w0 rfl) rfl rfl rfl rfl rfl (ld_agg (Nat.le_of_ble_eq_true rfl)) ?_
    refine aops_e (w0 rfl) rfl (eff_move rfl rfl) ?_
    refine aops_e (w0 rfl) rfl (eff_call [] rfl rfl rfl (c_known p hb nm hk) List.nodup_nil) ?_
    refine aops_e (w0 rfl) rfl (eff_move rfl rfl) ?_
    refine aops_e (w0 rfl) rfl (eff_extract rfl rfl rfl) ?_
    refine aops_e (w0 rfl) rfl (eff_extract rfl rfl rfl) ?_
    refine aops_n (w0 rfl) rfl (fun id => eff_alloc id rfl rfl rfl) (fun id3 => ?_)
    refine aops_store 0 (w0 rfl) rfl rfl rfl rfl rfl rfl rfl rfl rfl ?_
    refine aops_e (w0 rfl) rfl (eff_assign rfl rfl) ?_
    refine aops_nil ?_
    refine awp_seq ?_
    refine awp_region ?_
    refine aops_e (w0 rfl) rfl (eff_move rfl rfl) ?_
    refine aops_e (w0 rfl) rfl (eff_move rfl rfl) ?_
    refine aops_g (wT rfl rfl rfl rfl) rfl (fun hg => (eff_fieldAddr rfl rfl rfl)) ?_
    refine aops_gload 0 (wT rfl rfl rfl rfl) rfl rfl (fun hg => (ev_g hg rfl)) rfl rfl ld_one ?_
    refine aops_e (w0 rfl) rfl (eff_and rfl rfl rfl (fun h => h)) ?_
    refine aops_e (w0 rfl) rfl (eff_assign rfl rfl) ?_
    refine aops_nil ?_
    refine awp_ret ?_
    exact retq rfl (res_tmp rfl res_nil) (gb (by simp [ifaceP, hk]))

theorem c_up (c : Cls) (hl : c.ifaces.length ≤ 1000) : ACalls Try.prog 56 [c.av] [] (Gives (row1 sA (upC c))) := by
  refine acalls_of (n := 14) Try.func56 rfl (by decide +kernel) rfl rfl ?_
  refine awp_seq ?_
  refine awp_region ?_
  refine aops_n (w0 rfl) rfl (fun id => eff_box id rfl rfl rfl rfl rfl) (fun id1 => ?_)
  refine aops_e (w0 rfl) rfl (eff_assign rfl rfl) ?_
  refine aops_nil ?_
  refine awp_seq ?_
  refine awp_seq ?_
  refine awp_region ?_
  refine aops_e (w0 rfl) rfl (eff_fieldAddr rfl rfl rfl) ?_
  refine aops_load_ptr 0 (w0 rfl) rfl rfl rfl rfl rfl ld_one ?_
  refine aops_e (w0 rfl) rfl (eff_scmp rfl rfl rfl rfl) ?_
  refine aops_nil ?_
  refine awp_cond rfl ?_ ?_
  · intro hc
    have hc : beqS c.super zS = true := hc
    refine awp_seq ?_
    refine awp_region ?_
    refine aops_e (w0 rfl) rfl (eff_fieldAddr rfl rfl rfl) ?_
    refine aops_load_ptr 0 (w0 rfl) rfl rfl rfl rfl rfl ld_one ?_
    refine aops_e (w0 rfl) rfl (eff_assign rfl rfl) ?_
    refine aops_nil ?_
    refine awp_ret ?_
    exact retq rfl (res_tmp rfl res_nil) (gvr (by simp [upC, hc]; rfl))
  · intro hc
    have hc : beqS c.super zS = false := hc
    refine awp_skip ?_
    refine awp_seq ?_
    refine awp_region ?_
    refine aops_e (w0 rfl) rfl (eff_fieldAddr rfl rfl rfl) ?_
    refine aops_load_ptr 0 (w0 rfl) rfl rfl rfl rfl rfl ld_one ?_
    refine aops_n (w0 rfl) rfl (fun id => eff_buildSlice id (ps := [(0, .tmp 9)]) rfl rfl rfl rfl rfl rfl rfl rfl) (fun id2 => ?_)
    refine aops_e (w0 rfl) rfl (eff_fieldAddr rfl rfl rfl) ?_
    refine aops_load_ptr 1 (w0 rfl) rfl rfl rfl rfl rfl ld_one ?_
    refine aops_append 0 (w0 rfl) rfl rfl rfl rfl rfl rfl ⟨rfl, len_map (fun _ => rfl)⟩ (by first | omega | (simp; omega) | (simp [maxLen]; omega) | (simp; done) | (simp [maxLen]; done)) (by first | omega | (simp; omega) | (simp [maxLen]; omega) | (simp; done) | (simp [maxLen]; done)) (fun id3 => ?_)
    refine aops_e (w0 rfl) rfl (eff_assign rfl rfl) ?_
    refine aops_nil ?_
    refine awp_ret ?_
    exact retq_frz 0 rfl rfl rfl rfl (by simp; omega) (by simp [upC, hc, row1, cellsA])

theorem c_refJoin (p : Prog) (a b : Fact) (com : Str) (hcom : ACalls Try.prog 31 [p.av, sA a.cls, sA b.cls] [] (Gives (sA com))) : ACalls Try.prog 22 [p.av, a.av, b.av] [] (Gives (Fact.av (joinBy (fun _ _ => com) a b))) := by
  refine acalls_of (n := 48) Try.func22 rfl (by decide +kernel) rfl rfl ?_
  refine awp_seq ?_
  refine awp_region ?_
  refine aops_n (w0 rfl) rfl (fun id => eff_box id rfl rfl rfl rfl rfl) (fun id1 => ?_)
  refine aops_n (w0 rfl) rfl (fun id => eff_box id rfl rfl rfl rfl rfl) (fun id2 => ?_)
  refine aops_n (w0 rfl) rfl (fun id => eff_box id rfl rfl rfl rfl rfl) (fun id3 => ?_)
  refine aops_n (w0 rfl) rfl (fun id => eff_alloc id rfl rfl rfl) (fun id4 => ?_)
  refine aops_nil ?_
  refine awp_seq ?_
  refine awp_seq ?_
  refine awp_region ?_
  refine aops_load_ptr 2 (w0 rfl) rfl rfl rfl rfl rfl (ld_agg (Nat.le_of_ble_eq_true rfl)) ?_
  refine aops_load_ptr 1 (w0 rfl) rfl rfl rfl rfl rfl (ld_agg (Nat.le_of_ble_eq_true rfl)) ?_
  refine aops_e (w0 rfl) rfl (eff_eql rfl rfl rfl rfl rfl) ?_
  refine aops_nil ?_
  refine awp_cond rfl ?_ ?_
  · intro hc
    have hc := (ceqs_fact a b).symm.trans hc
    refine awp_seq ?_
    refine awp_region ?_
    refine aops_load_ptr 2 (w0 rfl) rfl rfl rfl rfl rfl (ld_agg (Nat.le_of_ble_eq_true rfl)) ?_
    refine aops_store 0 (w0 rfl) rfl rfl rfl rfl rfl rfl rfl rfl rfl ?_
    refine aops_nil ?_
    refine awp_ret ?_
    exact retq rfl (res_cell 0 rfl rfl rfl (ld_agg (Nat.le_of_ble_eq_true rfl)) res_nil) (gvr (congrArg Fact.av (show a = joinBy (fun _ _ => com) a b by simp_all [joinBy] <;> (intro h1 h2; simp_all))))
  · intro hc
    have hc := (ceqs_fact a b).symm.trans hc
    refine awp_skip ?_
    refine awp_seq ?_
    refine awp_seq ?_
    refine awp_region ?_
    refine aops_load_ptr 2 (w0 rfl) rfl rfl rfl rfl rfl (ld_agg (Nat.le_of_ble_eq_true rfl)) ?_
    refine aops_e (w0 rfl) rfl (eff_call [] rfl rfl rfl (c_refIsRef a) List.nodup_nil) ?_
    refine aops_e (w0 rfl) rfl (eff_not rfl rfl) ?_
    refine aops_e (w0 rfl) rfl (eff_move rfl rfl) ?_
    refine aops_gload 1 (wF rfl rfl rfl rfl) rfl rfl (fun hg => rfl) rfl rfl (ld_agg (Nat.le_of_ble_eq_true rfl)) ?_
    refine aops_g (wF rfl rfl rfl rfl) rfl (fun hg => (eff_call [] rfl rfl (evs_cons (ev_g hg rfl) evs_nil) (c_refIsRef b) List.nodup_nil)) ?_
    refine aops_g (wF rfl rfl rfl rfl) rfl (fun hg => (eff_not rfl (ev_g hg rfl))) ?_
    refine aops_e (w0 rfl) rfl (eff_or rfl rfl rfl (fun h => by rw [h]; rfl)) ?_
    refine aops_nil ?_
    refine awp_cond rfl ?_ ?_
    · intro hc
      refine awp_seq ?_
      refine awp_region ?_
      refine aops_e (w0 rfl) rfl (eff_build rfl rfl rfl) ?_
      refine aops_store 0 (w0 rfl) rfl rfl rfl rfl rfl rfl rfl rfl rfl ?_
      refine aops_nil ?_
      refine awp_ret ?_
      exact retq rfl (res_cell 0 rfl rfl rfl (ld_agg (Nat.le_of_ble_eq_true rfl)) res_nil) (gvr (congrArg Fact.av (show ⟨0, zS⟩ = joinBy (fun _ _ => com) a b by simp_all [joinBy] <;> (intro h1 h2; simp_all))))
    · intro hc
      refine awp_skip ?_
      refine awp_seq ?_
      refine awp_seq ?_
      refine awp_region ?_
      refine aops_e (w0 rfl) rfl (eff_fieldAddr rfl rfl rfl) ?_
      refine aops_load_ptr 2 (w0 rfl) rfl rfl rfl rfl rfl ld_one ?_
      refine aops_e (w0 rfl) rfl (eff_icmp rfl rfl rfl rfl) ?_
      refine aops_nil ?_
      refine awp_cond rfl ?_ ?_
      · intro hc
        refine awp_seq ?_
        refine awp_region ?_
        refine aops_load_ptr 1 (w0 rfl) rfl rfl rfl rfl rfl (ld_agg (Nat.le_of_ble_eq_true rfl)) ?_
        refine aops_store 0 (w0 rfl) rfl rfl rfl rfl rfl rfl rfl rfl rfl ?_
        refine aops_nil ?_
        refine awp_ret ?_
        exact retq rfl (res_cell 0 rfl rfl rfl (ld_agg (Nat.le_of_ble_eq_true rfl)) res_nil) (gvr (congrArg Fact.av (show b = joinBy (fun _ _ => com) a b by simp_all [joinBy] <;> (intro h1 h2; simp_all))))
      · intro hc
        refine awp_skip ?_
        refine awp_seq ?_
        refine awp_seq ?_
        refine awp_region ?_
        refine aops_e (w0 rfl) rfl (eff_fieldAddr rfl rfl rfl) ?_
        refine aops_load_ptr 1 (w0 rfl) rfl rfl rfl rfl rfl ld_one ?_
        refine aops_e (w0 rfl) rfl (eff_icmp rfl rfl rfl rfl) ?_
        refine aops_nil ?_
        refine awp_cond rfl ?_ ?_
        · intro hc
          refine awp_seq ?_
          refine awp_region ?_
          refine aops_load_ptr 2 (w0 rfl) rfl rfl rfl rfl rfl (ld_agg (Nat.le_of_ble_eq_true rfl)) ?_
          refine aops_store 0 (w0 rfl) rfl rfl rfl rfl rfl rfl rfl rfl rfl ?_
          refine aops_nil ?_
          refine awp_ret ?_
          exact retq rfl (res_cell 0 rfl rfl rfl (ld_agg (Nat.le_of_ble_eq_true rfl)) res_nil) (gvr (congrArg Fact.av (show a = joinBy (fun _ _ => com) a b by simp_all [joinBy] <;> (intro h1 h2; simp_all))))
        · intro hc
          refine awp_skip ?_
          refine awp_seq ?_
          refine awp_seq ?_
          refine awp_region ?_
          refine aops_e (w0 rfl) rfl (eff_fieldAddr rfl rfl rfl) ?_
          refine aops_load_ptr 2 (w0 rfl) rfl rfl rfl rfl rfl ld_one ?_
          refine aops_e (w0 rfl) rfl (eff_icmp rfl rfl rfl rfl) ?_
          refine aops_e (w0 rfl) rfl (eff_move rfl rfl) ?_
          refine aops_g (wT rfl rfl rfl rfl) rfl (fun hg => (eff_fieldAddr rfl rfl rfl)) ?_
          refine aops_gload 1 (wT rfl rfl rfl rfl) rfl rfl (fun hg => (ev_g hg rfl)) rfl rfl ld_one ?_
          refine aops_g (wT rfl rfl rfl rfl) rfl (fun hg => (eff_icmp rfl (ev_g hg rfl) rfl rfl)) ?_
          refine aops_e (w0 rfl) rfl (eff_and rfl rfl rfl (fun h => h)) ?_
          refine aops_nil ?_
          refine awp_cond rfl ?_ ?_
          · intro hc
            refine awp_seq ?_
            refine awp_region ?_
            refine aops_load_ptr 3 (w0 rfl) rfl rfl rfl rfl rfl (ld_agg (Nat.le_of_ble_eq_true rfl)) ?_
            refine aops_e (w0 rfl) rfl (eff_fieldAddr rfl rfl rfl) ?_
            refine aops_load_ptr 2 (w0 rfl) rfl rfl rfl rfl rfl ld_one ?_
            refine aops_e (w0 rfl) rfl (eff_fieldAddr rfl rfl rfl) ?_
            refine aops_load_ptr 1 (w0 rfl) rfl rfl rfl rfl rfl ld_one ?_
            refine aops_e (w0 rfl) rfl (eff_call [] rfl rfl rfl hcom List.nodup_nil) ?_
            refine aops_e (w0 rfl) rfl (eff_assign rfl rfl) ?_
            refine aops_nil ?_
            refine awp_seq ?_
            refine awp_region ?_
            refine aops_e (w0 rfl) rfl (eff_move rfl rfl) ?_
            refine aops_e (w0 rfl) rfl (eff_scmp rfl rfl rfl rfl) ?_
            refine aops_nil ?_
            refine awp_cond rfl ?_ ?_
            · intro hc
              have hc : beqS com zS = false := notT hc
              refine awp_seq ?_
              refine awp_region ?_
              refine aops_e (w0 rfl) rfl (eff_move rfl rfl) ?_
              refine aops_e (w0 rfl) rfl (eff_build rfl rfl rfl) ?_
              refine aops_store 0 (w0 rfl) rfl rfl rfl rfl rfl rfl rfl rfl rfl ?_
              refine aops_nil ?_
              refine awp_ret ?_
              exact retq rfl (res_cell 0 rfl rfl rfl (ld_agg (Nat.le_of_ble_eq_true rfl)) res_nil) (gvr (congrArg Fact.av (show ⟨3, com⟩ = joinBy (fun _ _ => com) a b by simp_all [joinBy] <;> (intro h1 h2; simp_all))))
            · intro hc
              have hc : beqS com zS = true := notF hc
              refine awp_skip ?_
              refine awp_seq ?_
              refine awp_region ?_
              refine aops_e (w0 rfl) rfl (eff_build rfl rfl rfl) ?_
              refine aops_store 0 (w0 rfl) rfl rfl rfl rfl rfl rfl rfl rfl rfl ?_
              refine aops_nil ?_
              refine awp_ret ?_
              exact retq rfl (res_cell 0 rfl rfl rfl (ld_agg (Nat.le_of_ble_eq_true rfl)) res_nil) (gvr (congrArg Fact.av (show ⟨6, zS⟩ = joinBy (fun _ _ => com) a b by simp_all [joinBy] <;> (intro h1 h2; simp_all))))
          · intro hc
            refine awp_skip ?_
            refine awp_seq ?_
            refine awp_region ?_
            refine aops_e (w0 rfl) rfl (eff_build rfl rfl rfl) ?_
            refine aops_store 0 (w0 rfl) rfl rfl rfl rfl rfl rfl rfl rfl rfl ?_
            refine aops_nil ?_
            refine awp_ret ?_
            exact retq rfl (res_cell 0 rfl rfl rfl (ld_agg (Nat.le_of_ble_eq_true rfl)) res_nil) (gvr (congrArg Fact.av (show ⟨6, zS⟩ = joinBy (fun _ _ => com) a b by simp_all [joinBy] <;> (intro h1 h2; simp_all))))

theorem c_join (p : Prog) (a b : Fact) (com : Str) (hcom : ACalls Try.prog 26 [p.av, sA a.cls, sA b.cls] [] (Gives (sA com))) : ACalls Try.prog 15 [p.av, a.av, b.av] [] (Gives (Fact.av (joinBy (fun _ _ => com) a b))) := by
  refine acalls_of (n := 54) Try.func15 rfl (by decide +kernel) rfl rfl ?_
  refine awp_seq ?_
  refine awp_region ?_
  refine aops_n (w0 rfl) rfl (fun id => eff_box id rfl rfl rfl rfl rfl) (fun id1 => ?_)
  refine aops_n (w0 rfl) rfl (fun id => eff_box id rfl rfl rfl rfl rfl) (fun id2 => ?_)
  refine aops_n (w0 rfl) rfl (fun id => eff_box id rfl rfl rfl rfl rfl) (fun id3 => ?_)
  refine aops_n (w0 rfl) rfl (fun id => eff_alloc id rfl rfl rfl) (fun id4 => ?_)
  refine aops_nil ?_
  refine awp_seq ?_
  refine awp_block ?_
  refine awp_seq ?_
  refine awp_region ?_
  refine aops_load_ptr 2 (w0 rfl) rfl rfl rfl rfl rfl (ld_agg (Nat.le_of_ble_eq_true rfl)) ?_
  refine aops_load_ptr 1 (w0 rfl) rfl rfl rfl rfl rfl (ld_agg (Nat.le_of_ble_eq_true rfl)) ?_
  refine aops_e (w0 rfl) rfl (eff_eql rfl rfl rfl rfl rfl) ?_
  refine aops_e (w0 rfl) rfl (eff_assign rfl rfl) ?_
  refine aops_nil ?_
  refine awp_cond rfl ?_ ?_
  · intro hc
    have hc := (ceqs_fact a b).symm.trans hc
    refine awp_seq ?_
    refine awp_region ?_
    refine aops_load_ptr 2 (w0 rfl) rfl rfl rfl rfl rfl (ld_agg (Nat.le_of_ble_eq_true rfl)) ?_
    refine aops_store 0 (w0 rfl) rfl rfl rfl rfl rfl rfl rfl rfl rfl ?_
    refine aops_nil ?_
    refine awp_ret ?_
    exact retq rfl (res_cell 0 rfl rfl rfl (ld_agg (Nat.le_of_ble_eq_true rfl)) res_nil) (gvr (congrArg Fact.av (show a = joinBy (fun _ _ => com) a b by simp_all [joinBy] <;> (intro h1 h2; simp_all))))
  · intro hc
    have hc := (ceqs_fact a b).symm.trans hc
    refine awp_seq ?_
    refine awp_region ?_
    refine aops_load_ptr 2 (w0 rfl) rfl rfl rfl rfl rfl (ld_agg (Nat.le_of_ble_eq_true rfl)) ?_
    refine aops_e (w0 rfl) rfl (eff_call [] rfl rfl rfl (c_isRef a) List.nodup_nil) ?_
    refine aops_e (w0 rfl) rfl (eff_not rfl rfl) ?_
    refine aops_e (w0 rfl) rfl (eff_move rfl rfl) ?_
    refine aops_gload 1 (wF rfl rfl rfl rfl) rfl rfl (fun hg => rfl) rfl rfl (ld_agg (Nat.le_of_ble_eq_true rfl)) ?_
    refine aops_g (wF rfl rfl rfl rfl) rfl (fun hg => (eff_call [] rfl rfl (evs_cons (ev_g hg rfl) evs_nil) (c_isRef b) List.nodup_nil)) ?_
    refine aops_g (wF rfl rfl rfl rfl) rfl (fun hg => (eff_not rfl (ev_g hg rfl))) ?_
    refine aops_e (w0 rfl) rfl (eff_or rfl rfl rfl (fun h => by rw [h]; rfl)) ?_
    refine aops_e (w0 rfl) rfl (eff_assign rfl rfl) ?_
    refine aops_nil ?_
    refine awp_cond rfl ?_ ?_
    · intro hc
      refine awp_seq ?_
      refine awp_region ?_
      refine aops_e (w0 rfl) rfl (eff_build rfl rfl rfl) ?_
      refine aops_store 0 (w0 rfl) rfl rfl rfl rfl rfl rfl rfl rfl rfl ?_
      refine aops_nil ?_
      refine awp_ret ?_
      exact retq rfl (res_cell 0 rfl rfl rfl (ld_agg (Nat.le_of_ble_eq_true rfl)) res_nil) (gvr (congrArg Fact.av (show ⟨0, zS⟩ = joinBy (fun _ _ => com) a b by simp_all [joinBy] <;> (intro h1 h2; simp_all))))
    · intro hc
      refine awp_seq ?_
      refine awp_region ?_
      refine aops_e (w0 rfl) rfl (eff_fieldAddr rfl rfl rfl) ?_
      refine aops_load_ptr 2 (w0 rfl) rfl rfl rfl rfl rfl ld_one ?_
      refine aops_e (w0 rfl) rfl (eff_icmp rfl rfl rfl rfl) ?_
      refine aops_e (w0 rfl) rfl (eff_assign rfl rfl) ?_
      refine aops_nil ?_
      refine awp_cond rfl ?_ ?_
      · intro hc
        refine awp_seq ?_
        refine awp_region ?_
        refine aops_load_ptr 1 (w0 rfl) rfl rfl rfl rfl rfl (ld_agg (Nat.le_of_ble_eq_true rfl)) ?_
        refine aops_store 0 (w0 rfl) rfl rfl rfl rfl rfl rfl rfl rfl rfl ?_
        refine aops_nil ?_
        refine awp_ret ?_
        exact retq rfl (res_cell 0 rfl rfl rfl (ld_agg (Nat.le_of_ble_eq_true rfl)) res_nil) (gvr (congrArg Fact.av (show b = joinBy (fun _ _ => com) a b by simp_all [joinBy] <;> (intro h1 h2; simp_all))))
      · intro hc
        refine awp_seq ?_
        refine awp_region ?_
        refine aops_e (w0 rfl) rfl (eff_fieldAddr rfl rfl rfl) ?_
        refine aops_load_ptr 1 (w0 rfl) rfl rfl rfl rfl rfl ld_one ?_
        refine aops_e (w0 rfl) rfl (eff_icmp rfl rfl rfl rfl) ?_
        refine aops_e (w0 rfl) rfl (eff_assign rfl rfl) ?_
        refine aops_nil ?_
        refine awp_cond rfl ?_ ?_
        · intro hc
          refine awp_seq ?_
          refine awp_region ?_
          refine aops_load_ptr 2 (w0 rfl) rfl rfl rfl rfl rfl (ld_agg (Nat.le_of_ble_eq_true rfl)) ?_
          refine aops_store 0 (w0 rfl) rfl rfl rfl rfl rfl rfl rfl rfl rfl ?_
          refine aops_nil ?_
          refine awp_ret ?_
          exact retq rfl (res_cell 0 rfl rfl rfl (ld_agg (Nat.le_of_ble_eq_true rfl)) res_nil) (gvr (congrArg Fact.av (show a = joinBy (fun _ _ => com) a b by simp_all [joinBy] <;> (intro h1 h2; simp_all))))
        · intro hc
          refine awp_seq ?_
          refine awp_region ?_
          refine aops_e (w0 rfl) rfl (eff_fieldAddr rfl rfl rfl) ?_
          refine aops_load_ptr 2 (w0 rfl) rfl rfl rfl rfl rfl ld_one ?_
          refine aops_e (w0 rfl) rfl (eff_icmp rfl rfl rfl rfl) ?_
          refine aops_e (w0 rfl) rfl (eff_move rfl rfl) ?_
          refine aops_g (wF rfl rfl rfl rfl) rfl (fun hg => (eff_fieldAddr rfl rfl rfl)) ?_
          refine aops_gload 1 (wF rfl rfl rfl rfl) rfl rfl (fun hg => (ev_g hg rfl)) rfl rfl ld_one ?_
          refine aops_g (wF rfl rfl rfl rfl) rfl (fun hg => (eff_icmp rfl (ev_g hg rfl) rfl rfl)) ?_
          refine aops_e (w0 rfl) rfl (eff_or rfl rfl rfl (fun h => by rw [h]; rfl)) ?_
          refine aops_e (w0 rfl) rfl (eff_assign rfl rfl) ?_
          refine aops_nil ?_
          refine awp_cond rfl ?_ ?_
          · intro hc
            refine awp_seq ?_
            refine awp_region ?_
            refine aops_e (w0 rfl) rfl (eff_call [] rfl rfl rfl c_some List.nodup_nil) ?_
            refine aops_store 0 (w0 rfl) rfl rfl rfl rfl rfl rfl rfl rfl rfl ?_
            refine aops_nil ?_
            refine awp_ret ?_
            exact retq rfl (res_cell 0 rfl rfl rfl (ld_agg (Nat.le_of_ble_eq_true rfl)) res_nil) (gvr (congrArg Fact.av (show ⟨6, zS⟩ = joinBy (fun _ _ => com) a b by simp_all [joinBy] <;> (intro h1 h2; simp_all))))
          · intro hc
            refine awp_skip ?_
            refine awp_seq ?_
            refine awp_seq ?_
            refine awp_region ?_
            refine aops_load_ptr 3 (w0 rfl) rfl rfl rfl rfl rfl (ld_agg (Nat.le_of_ble_eq_true rfl)) ?_
            refine aops_e (w0 rfl) rfl (eff_fieldAddr rfl rfl rfl) ?_
            refine aops_load_ptr 2 (w0 rfl) rfl rfl rfl rfl rfl ld_one ?_
            refine aops_e (w0 rfl) rfl (eff_fieldAddr rfl rfl rfl) ?_
            refine aops_load_ptr 1 (w0 rfl) rfl rfl rfl rfl rfl ld_one ?_
            refine aops_e (w0 rfl) rfl (eff_call [] rfl rfl rfl hcom List.nodup_nil) ?_
            refine aops_e (w0 rfl) rfl (eff_assign rfl rfl) ?_
            refine aops_nil ?_
            refine awp_seq ?_
            refine awp_region ?_
            refine aops_e (w0 rfl) rfl (eff_move rfl rfl) ?_
            refine aops_e (w0 rfl) rfl (eff_scmp rfl rfl rfl rfl) ?_
            refine aops_nil ?_
            refine awp_cond rfl ?_ ?_
            · intro hc
              have hc : beqS com zS = false := notT hc
              refine awp_seq ?_
              refine awp_region ?_
              refine aops_e (w0 rfl) rfl (eff_move rfl rfl) ?_
              refine aops_e (w0 rfl) rfl (eff_build rfl rfl rfl) ?_
              refine aops_store 0 (w0 rfl) rfl rfl rfl rfl rfl rfl rfl rfl rfl ?_
              refine aops_nil ?_
              refine awp_ret ?_
              exact retq rfl (res_cell 0 rfl rfl rfl (ld_agg (Nat.le_of_ble_eq_true rfl)) res_nil) (gvr (congrArg Fact.av (show ⟨3, com⟩ = joinBy (fun _ _ => com) a b by simp_all [joinBy] <;> (intro h1 h2; simp_all))))
            · intro hc
              have hc : beqS com zS = true := notF hc
              refine awp_skip ?_
              refine awp_seq ?_
              refine awp_region ?_
              refine aops_e (w0 rfl) rfl (eff_call [] rfl rfl rfl c_some List.nodup_nil) ?_
              refine aops_store 0 (w0 rfl) rfl rfl rfl rfl rfl rfl rfl rfl rfl ?_
              refine aops_nil ?_
              refine awp_ret ?_
              exact retq rfl (res_cell 0 rfl rfl rfl (ld_agg (Nat.le_of_ble_eq_true rfl)) res_nil) (gvr (congrArg Fact.av (show ⟨6, zS⟩ = joinBy (fun _ _ => com) a b by simp_all [joinBy] <;> (intro h1 h2; simp_all))))

theorem c_below (p : Prog) (a b : Fact) (j : Fact) (hj : ACalls Try.prog 15 [p.av, a.av, b.av] [] (Gives j.av)) : ACalls Try.prog 16 [p.av, a.av, b.av] [] (Gives (bA (eqF j b))) := by
  refine acalls_of (n := 13) Try.func16 rfl (by decide +kernel) rfl rfl ?_
  refine awp_seq ?_
  refine awp_region ?_
  refine aops_n (w0 rfl) rfl (fun id => eff_box id rfl rfl rfl rfl rfl) (fun id1 => ?_)
  refine aops_n (w0 rfl) rfl (fun id => eff_box id rfl rfl rfl rfl rfl) (fun id2 => ?_)
  refine aops_n (w0 rfl) rfl (fun id => eff_box id rfl rfl rfl rfl rfl) (fun id3 => ?_)
  refine aops_e (w0 rfl) rfl (eff_assign rfl rfl) ?_
  refine aops_nil ?_
  refine awp_seq ?_
  refine awp_drawN 7 rfl (by kernel_rfl) ?_
  refine calm_load_ptr 2 (w0 rfl) rfl rfl rfl rfl rfl (ld_agg (Nat.le_of_ble_eq_true rfl)) ?_
  refine calm_load_ptr 1 (w0 rfl) rfl rfl rfl rfl rfl (ld_agg (Nat.le_of_ble_eq_true rfl)) ?_
  refine calm_load_ptr 0 (w0 rfl) rfl rfl rfl rfl rfl (ld_agg (Nat.le_of_ble_eq_true rfl)) ?_
  refine calm_e (w0 rfl) rfl (eff_call [] rfl rfl rfl hj List.nodup_nil) ?_
  refine calm_load_ptr 0 (w0 rfl) rfl rfl rfl rfl rfl (ld_agg (Nat.le_of_ble_eq_true rfl)) ?_
  refine calm_e (w0 rfl) rfl (eff_eql rfl rfl rfl rfl rfl) ?_
  refine calm_e (w0 rfl) rfl (eff_assign rfl rfl) ?_
  refine .done ?_
  refine aops_nil ?_
  refine awp_ret ?_
  exact retq rfl (res_tmp rfl res_nil) (gb (ceqs_fact j b))

theorem c_same (a b : List Fact) (ha : small a.length) : ACalls Try.prog 10 [.lst (a.map Fact.cells), .lst (b.map Fact.cells)] [] (Gives (bA (sameF a b))) := by
  simp only [small] at ha
  refine acalls_of (n := 26) Try.func10 rfl (by decide +kernel) rfl rfl ?_
  refine awp_seq ?_
  refine awp_region ?_
  refine aops_e (w0 rfl) rfl (eff_assign rfl rfl) ?_
  refine aops_nil ?_
  refine awp_seq ?_
  refine awp_seq ?_
  refine awp_region ?_
  refine aops_e (w0 rfl) rfl (eff_move rfl rfl) ?_
  refine aops_e (w0 rfl) rfl (eff_len rfl rfl rfl rfl) ?_
  refine aops_e (w0 rfl) rfl (eff_move rfl rfl) ?_
  refine aops_e (w0 rfl) rfl (eff_len rfl rfl rfl rfl) ?_
  refine aops_e (w0 rfl) rfl (eff_icmp rfl rfl rfl rfl) ?_
  refine aops_nil ?_
  refine awp_cond rfl ?_ ?_
  · intro hc
    have hc : ¬ a.length = b.length := by simp at hc; omega
    refine awp_seq ?_
    refine awp_region ?_
    refine aops_e (w0 rfl) rfl (eff_assign rfl rfl) ?_
    refine aops_nil ?_
    refine awp_ret ?_
    exact retq rfl (res_tmp rfl res_nil) (gb (sameF_len hc).symm)
  · intro hc
    have he : a.length = b.length := by simp at hc; omega
    refine awp_skip ?_
    refine awp_seq ?_
    refine awp_seq ?_
    refine awp_region ?_
    refine aops_e (w0 rfl) rfl (eff_assign rfl rfl) ?_
    refine aops_nil ?_
    refine awp_block ?_
    refine awp_loopJ (α := Nat) (fun i => ⟨[(5, iA i), (0, .lst (a.map Fact.cells)), (1, .lst (b.map Fact.cells))], [], [], 26⟩) (fun i => i ≤ a.length ∧ sameF (a.drop i) (b.drop i) = sameF a b) (fun i => a.length - i) 0 ⟨by omega, rfl⟩ ?_ ?_
    · exact weak_pick [] ⟨rfl, rfl, rfl, trivial⟩ rfl (by decide) rfl rfl
    rintro i hJ
    refine awp_seq ?_
    refine awp_seq ?_
    refine awp_region ?_
    refine aops_e (w0 rfl) rfl (eff_move rfl rfl) ?_
    refine aops_e (w0 rfl) rfl (eff_move rfl rfl) ?_
    refine aops_e (w0 rfl) rfl (eff_len rfl rfl rfl rfl) ?_
    refine aops_e (w0 rfl) rfl (eff_icmp rfl rfl rfl rfl) ?_
    refine aops_nil ?_
    refine awp_cond rfl ?_ ?_
    · intro hc
      have hi : i < a.length := by simpa using hc
      have hi' : i < b.length := by omega
      refine awp_skip ?_
      refine awp_seq ?_
      refine awp_block ?_
      refine awp_seq ?_
      refine awp_drawN 9 rfl (by kernel_rfl) ?_
      refine calm_e (w0 rfl) rfl (eff_move rfl rfl) ?_
      refine calm_e (w0 rfl) rfl (eff_move rfl rfl) ?_
      refine calm_e (w0 rfl) rfl (eff_indexAddr_lst rfl rfl rfl (len_map (fun _ => rfl)) (by first | omega | (simp only [List.length_map]; omega)) (by first | omega | (simp only [List.length_map]; omega))) ?_
      refine calm_e (w0 rfl) rfl (eff_loadE rfl rfl (map_get (by first | assumption | omega)) (ld_agg (Nat.le_of_ble_eq_true rfl))) ?_
      refine calm_e (w0 rfl) rfl (eff_move rfl rfl) ?_
      refine calm_e (w0 rfl) rfl (eff_move rfl rfl) ?_
      refine calm_e (w0 rfl) rfl (eff_indexAddr_lst rfl rfl rfl (len_map (fun _ => rfl)) (by first | omega | (simp only [List.length_map]; omega)) (by first | omega | (simp only [List.length_map]; omega))) ?_
      refine calm_e (w0 rfl) rfl (eff_loadE rfl rfl (map_get (by first | assumption | omega)) (ld_agg (Nat.le_of_ble_eq_true rfl))) ?_
      refine calm_e (w0 rfl) rfl (eff_neq rfl rfl rfl rfl rfl) ?_
      refine .done ?_
      refine aops_nil ?_
      refine awp_cond rfl ?_ ?_
      · intro hc
        have hc : eqF (a[i]) (b[i]) = false := (ceqs_fact _ _).symm.trans (notT hc)
        refine awp_seq ?_
        refine awp_region ?_
        refine aops_e (w0 rfl) rfl (eff_assign rfl rfl) ?_
        refine aops_nil ?_
        refine awp_ret ?_
        exact retq rfl (res_tmp rfl res_nil) (gb (by rw [← hJ.2, drop_get hi, drop_get hi']; simp [sameF, hc]))
      · intro hc
        have hc : eqF (a[i]) (b[i]) = true := (ceqs_fact _ _).symm.trans (notF hc)
        refine awp_skip ?_
        refine awp_region ?_
        refine aops_e (w0 rfl) rfl (eff_move rfl rfl) ?_
        refine aops_e (w0 rfl) rfl (eff_arith rfl rfl rfl (arith_add (by first | omega | (simp only [List.length_map]; omega)))) ?_
        refine aops_e (w0 rfl) rfl (eff_assign rfl rfl) ?_
        refine aops_nil ?_
        refine ⟨i + 1, ⟨by omega, by rw [← hJ.2, drop_get hi, drop_get hi']; simp [sameF, hc]⟩, (by omega), ?_⟩
        exact weak_pick [] ⟨rfl, rfl, rfl, trivial⟩ rfl (by decide) rfl rfl
    · intro hc
      have hi : ¬ i < a.length := by simpa using hc
      have hi' : ¬ i < b.length := by omega
      refine awp_exit ?_
      refine awp_seq ?_
      refine awp_region ?_
      refine aops_e (w0 rfl) rfl (eff_assign rfl rfl) ?_
      refine aops_nil ?_
      refine awp_ret ?_
      exact retq rfl (res_tmp rfl res_nil) (gb (by rw [← hJ.2, drop_end hi, drop_end hi']; rfl))

theorem c_refSupers (p : Prog) (hb : p.classes.length ≤ 1000) (nm : Str) : ACalls Try.prog 44 [p.av, sA nm] [] (Gives (row1 sA (supers p nm))) := by
  have hbs : small p.classes.length := by unfold small; omega
  refine acalls_of (n := 48) Try.func44 rfl (by decide +kernel) rfl rfl ?_
  refine awp_seq ?_
  refine awp_region ?_
  refine aops_n (w0 rfl) rfl (fun id => eff_box id rfl rfl rfl rfl rfl) (fun id1 => ?_)
  refine aops_e (w0 rfl) rfl (eff_assign rfl rfl) ?_
  refine aops_nil ?_
  refine awp_seq ?_
  refine awp_region ?_
  refine aops_n (w0 rfl) rfl (fun id => eff_nil id 9 1 (.inl rfl) rfl) (fun id2 => ?_)
  refine aops_nil ?_
  refine awp_seq ?_
  refine awp_seq ?_
  refine awp_region ?_
  refine aops_load_ptr 1 (w0 rfl) rfl rfl rfl rfl rfl (ld_agg (Nat.le_of_ble_eq_true rfl)) ?_
  refine aops_e (w0 rfl) rfl (eff_move rfl rfl) ?_
  refine aops_e (w0 rfl) rfl (eff_call [] rfl rfl rfl (c_class p hbs nm) List.nodup_nil) ?_
  refine aops_e (w0 rfl) rfl (eff_assign rfl rfl) ?_
  refine aops_nil ?_
  refine awp_block ?_
  refine awp_loopJ (α := Nat × Str × List Str) (fun x => ⟨[(5, .own x.1 1 0 x.2.2.length), (6, iA (classAt p x.2.1)), (2, .ptr id1 5 0 0)], [(x.1, .rows 9 1 (x.2.2.map fun x => [sA x])), (id1, .rows 27 5 [p.cells])], [], 48⟩) (fun x => SupJ p nm x.2.1 x.2.2) (fun x => p.classes.length - x.2.2.length) (id2, nm, []) (SupJ.start p nm) ?_ ?_
  · exact weak_pick [0, 1] ⟨rfl, rfl, rfl, trivial⟩ rfl (by decide) rfl rfl
  rintro x hJ
  have hlen := hJ.len
  have hos : small x.2.2.length := by unfold small; omega
  refine awp_seq ?_
  refine awp_seq ?_
  rcases classAt_cases p x.2.1 with ⟨h1, h2⟩ | ⟨j, hj, h1, h2⟩
  · skip
    refine awp_region ?_
    refine aops_e (w0 rfl) rfl (eff_move rfl rfl) ?_
    refine aops_e (w0 rfl) rfl (eff_icmp rfl rfl rfl rfl) ?_
    refine aops_e (w0 rfl) rfl (eff_move rfl rfl) ?_
    refine aops_g (wT rfl rfl rfl rfl) rfl (fun hg => (eff_move rfl rfl)) ?_
    refine aops_g (wT rfl rfl rfl rfl) rfl (fun hg => (eff_fieldAddr rfl rfl rfl)) ?_
    refine aops_gload 1 (wT rfl rfl rfl rfl) rfl rfl (fun hg => (ev_g hg rfl)) rfl rfl ld_one ?_
    refine aops_g (wT rfl rfl rfl rfl) rfl (fun hg => (eff_move rfl rfl)) ?_
    refine aops_g (wT rfl rfl rfl rfl) rfl (fun hg => (eff_indexAddr_lst rfl (ev_g hg rfl) (ev_g hg rfl) (len_map (fun _ => rfl)) (by (try simp at hg) <;> first | omega | (simp only [List.length_map]; omega)) (by (try simp at hg) <;> first | omega | (simp only [List.length_map]; omega)))) ?_
    refine aops_g (wT rfl rfl rfl rfl) rfl (fun hg => (eff_fieldAddr rfl (ev_g hg rfl) rfl)) ?_
    refine aops_g (wT rfl rfl rfl rfl) rfl (fun hg => (eff_loadE rfl (ev_g hg rfl) (map_getD (by (try simp at hg) <;> first | assumption | omega)) ld_one)) ?_
    refine aops_glend 0 (wT rfl rfl rfl rfl) rfl rfl rfl (fun hg => (evs_cons (ev_g hg rfl) (evs_cons (ev_g hg rfl) evs_nil))) rfl (.lend (by simp) (.keep .nil)) (fun hg => (c_in x.2.2 hos _)) rfl ?_
    refine aops_g (wT rfl rfl rfl rfl) rfl (fun hg => (eff_not rfl (ev_g hg rfl))) ?_
    refine aops_e (w0 rfl) rfl (eff_and rfl rfl rfl (fun h => h)) ?_
    refine aops_nil ?_
    refine awp_cond rfl ?_ ?_
    · intro hc
      simp [h1] at hc
    · intro hc
      refine awp_exit ?_
      refine awp_seq ?_
      refine awp_region ?_
      refine aops_e (w0 rfl) rfl (eff_move rfl rfl) ?_
      refine aops_e (w0 rfl) rfl (eff_assign rfl rfl) ?_
      refine aops_nil ?_
      refine awp_ret ?_
      exact retq_frz 0 rfl rfl rfl rfl (by simp) (by first | (rw [← hJ.none h2]; rfl) | (rw [← hJ.had h2 hin]; rfl) | (rw [← hJ.top h2 hin hs]; simp [row1, cellsA, h1]))
  · skip
    refine awp_region ?_
    refine aops_e (w0 rfl) rfl (eff_move rfl rfl) ?_
    refine aops_e (w0 rfl) rfl (eff_icmp rfl rfl rfl rfl) ?_
    refine aops_e (w0 rfl) rfl (eff_move rfl rfl) ?_
    refine aops_g (wT rfl rfl rfl rfl) rfl (fun hg => (eff_move rfl rfl)) ?_
    refine aops_g (wT rfl rfl rfl rfl) rfl (fun hg => (eff_fieldAddr rfl rfl rfl)) ?_
    refine aops_gload 1 (wT rfl rfl rfl rfl) rfl rfl (fun hg => (ev_g hg rfl)) rfl rfl ld_one ?_
    refine aops_g (wT rfl rfl rfl rfl) rfl (fun hg => (eff_move rfl rfl)) ?_
    refine aops_g (wT rfl rfl rfl rfl) rfl (fun hg => (eff_indexAddr_lst rfl (ev_g hg rfl) (ev_g hg rfl) (len_map (fun _ => rfl)) (by (try simp at hg) <;> first | omega | (simp only [List.length_map]; omega)) (by (try simp at hg) <;> first | omega | (simp only [List.length_map]; omega)))) ?_
    refine aops_g (wT rfl rfl rfl rfl) rfl (fun hg => (eff_fieldAddr rfl (ev_g hg rfl) rfl)) ?_
    refine aops_g (wT rfl rfl rfl rfl) rfl (fun hg => (eff_loadE rfl (ev_g hg rfl) (map_getD (by (try simp at hg) <;> first | assumption | omega)) ld_one)) ?_
    refine aops_glend 0 (wT rfl rfl rfl rfl) rfl rfl rfl (fun hg => (evs_cons (ev_g hg rfl) (evs_cons (ev_g hg rfl) evs_nil))) rfl (.lend (by simp) (.keep .nil)) (fun hg => (c_in x.2.2 hos _)) rfl ?_
    refine aops_g (wT rfl rfl rfl rfl) rfl (fun hg => (eff_not rfl (ev_g hg rfl))) ?_
    refine aops_e (w0 rfl) rfl (eff_and rfl rfl rfl (fun h => h)) ?_
    refine aops_nil ?_
    refine awp_cond rfl ?_ ?_
    · intro hc
      have hin : inL x.2.2 p.classes[j].name = false := by simpa [h1, hj, List.getD] using hc
      have hlt := hJ.lt h2 hin
      refine awp_skip ?_
      refine awp_seq ?_
      refine awp_block ?_
      refine awp_seq ?_
      refine awp_region ?_
      refine aops_e (w0 rfl) rfl (eff_move rfl rfl) ?_
      refine aops_e (w0 rfl) rfl (eff_fieldAddr rfl rfl rfl) ?_
      refine aops_load_ptr 1 (w0 rfl) rfl rfl rfl rfl rfl ld_one ?_
      refine aops_e (w0 rfl) rfl (eff_move rfl rfl) ?_
      refine aops_e (w0 rfl) rfl (eff_indexAddr_lst rfl rfl rfl (len_map (fun _ => rfl)) (by first | omega | (simp only [List.length_map]; omega)) (by first | omega | (simp only [List.length_map]; omega))) ?_
      refine aops_e (w0 rfl) rfl (eff_fieldAddr rfl rfl rfl) ?_
      refine aops_e (w0 rfl) rfl (eff_loadE rfl rfl (map_get (by first | assumption | omega)) ld_one) ?_
      refine aops_n (w0 rfl) rfl (fun id => eff_buildSlice id (ps := [(0, .tmp 37)]) rfl rfl rfl rfl rfl rfl rfl rfl) (fun id3 => ?_)
      refine aops_append 1 (w0 rfl) rfl rfl rfl rfl (by simp) rfl ⟨rfl, _, _, List.mem_of_getElem? (i := 0) rfl, by simp, rfl⟩ (by first | omega | (simp; omega) | (simp [maxLen]; omega) | (simp; done) | (simp [maxLen]; done)) (by first | omega | (simp; omega) | (simp [maxLen]; omega) | (simp; done) | (simp [maxLen]; done)) (fun id4 => ?_)
      refine aops_e (w0 rfl) rfl (eff_assign rfl rfl) ?_
      refine aops_nil ?_
      refine awp_seq ?_
      refine awp_region ?_
      refine aops_e (w0 rfl) rfl (eff_fieldAddr rfl rfl rfl) ?_
      refine aops_load_ptr 2 (w0 rfl) rfl rfl rfl rfl rfl ld_one ?_
      refine aops_e (w0 rfl) rfl (eff_move rfl rfl) ?_
      refine aops_e (w0 rfl) rfl (eff_indexAddr_lst rfl rfl rfl (len_map (fun _ => rfl)) (by first | omega | (simp only [List.length_map]; omega)) (by first | omega | (simp only [List.length_map]; omega))) ?_
      refine aops_e (w0 rfl) rfl (eff_fieldAddr rfl rfl rfl) ?_
      refine aops_e (w0 rfl) rfl (eff_loadE rfl rfl (map_get (by first | assumption | omega)) ld_one) ?_
      refine aops_e (w0 rfl) rfl (eff_scmp rfl rfl rfl rfl) ?_
      refine aops_nil ?_
      refine awp_cond rfl ?_ ?_
      · intro hc
        have hs : beqS p.classes[j].super zS = true := by simp only [h1] at hc; exact hc
        refine awp_exit ?_
        refine awp_seq ?_
        refine awp_region ?_
        refine aops_e (w0 rfl) rfl (eff_move rfl rfl) ?_
        refine aops_e (w0 rfl) rfl (eff_assign rfl rfl) ?_
        refine aops_nil ?_
        refine awp_ret ?_
        exact retq_frz 1 rfl rfl rfl rfl (by simp) (by first | (rw [← hJ.none h2]; rfl) | (rw [← hJ.had h2 hin]; rfl) | (rw [← hJ.top h2 hin hs]; simp [row1, cellsA, h1]))
      · intro hc
        have hs : beqS p.classes[j].super zS = false := by simp only [h1] at hc; exact hc
        refine awp_skip ?_
        refine awp_drawN 8 rfl (by kernel_rfl) ?_
        refine calm_load_ptr 2 (w0 rfl) rfl rfl rfl rfl rfl (ld_agg (Nat.le_of_ble_eq_true rfl)) ?_
        refine calm_e (w0 rfl) rfl (eff_fieldAddr rfl rfl rfl) ?_
        refine calm_load_ptr 2 (w0 rfl) rfl rfl rfl rfl rfl ld_one ?_
        refine calm_e (w0 rfl) rfl (eff_move rfl rfl) ?_
        refine calm_e (w0 rfl) rfl (eff_indexAddr_lst rfl rfl rfl (len_map (fun _ => rfl)) (by first | omega | (simp only [List.length_map]; omega)) (by first | omega | (simp only [List.length_map]; omega))) ?_
        refine calm_e (w0 rfl) rfl (eff_fieldAddr rfl rfl rfl) ?_
        refine calm_e (w0 rfl) rfl (eff_loadE rfl rfl (map_get (by first | assumption | omega)) ld_one) ?_
        refine calm_e (w0 rfl) rfl (eff_call [] rfl rfl rfl (c_class p hbs _) List.nodup_nil) ?_
        refine .done ?_
        refine aops_e (w0 rfl) rfl (eff_assign rfl rfl) ?_
        refine aops_nil ?_
        refine ⟨(id4, p.classes[j].super, x.2.2 ++ [p.classes[j].name]), (hJ.next h2 hin hs), (by have := hJ.lt h2 hin; simp; omega), ?_⟩
        exact weak_pick [1, 2] ⟨(by show some (AV.own _ _ _ _) = some (AV.own _ _ _ _); simp), (by show some (iA _) = some (iA _); simp only [h1]; rfl), rfl, trivial⟩ (by show some [(_, AObj.rows _ _ _), (_, AObj.rows _ _ _)] = some [(_, AObj.rows _ _ _), (_, AObj.rows _ _ _)]; simp [cellsA, h1]) (by decide) rfl rfl
    · intro hc
      have hin : inL x.2.2 p.classes[j].name = true := by simpa [h1, hj, List.getD] using hc
      refine awp_exit ?_
      refine awp_seq ?_
      refine awp_region ?_
      refine aops_e (w0 rfl) rfl (eff_move rfl rfl) ?_
      refine aops_e (w0 rfl) rfl (eff_assign rfl rfl) ?_
      refine aops_nil ?_
      refine awp_ret ?_
      exact retq_frz 0 rfl rfl rfl rfl (by simp) (by first | (rw [← hJ.none h2]; rfl) | (rw [← hJ.had h2 hin]; rfl) | (rw [← hJ.top h2 hin hs]; simp [row1, cellsA, h1]))

theorem c_refCommon (p : Prog) (hb : p.classes.length ≤ 1000) (a b : Str) : ACalls Try.prog 31 [p.av, sA a, sA b] [] (Gives (sA (com p a b))) := by
  have hbs : small p.classes.length := by unfold small; omega
  have hsa := supers_len p a
  have hsb := supers_len p b
  refine acalls_of (n := 45) Try.func31 rfl (by decide +kernel) rfl rfl ?_
  refine awp_seq ?_
  refine awp_region ?_
  refine aops_n (w0 rfl) rfl (fun id => eff_box id rfl rfl rfl rfl rfl) (fun id1 => ?_)
  refine aops_e (w0 rfl) rfl (eff_assign rfl rfl) ?_
  refine aops_nil ?_
  refine awp_seq ?_
  refine awp_seq ?_
  refine awp_region ?_
  refine aops_e (w0 rfl) rfl (eff_move rfl rfl) ?_
  refine aops_e (w0 rfl) rfl (eff_move rfl rfl) ?_
  refine aops_e (w0 rfl) rfl (eff_scmp rfl rfl rfl rfl) ?_
  refine aops_e (w0 rfl) rfl (eff_move rfl rfl) ?_
  refine aops_gload 0 (wT rfl rfl rfl rfl) rfl rfl (fun hg => rfl) rfl rfl (ld_agg (Nat.le_of_ble_eq_true rfl)) ?_
  refine aops_g (wT rfl rfl rfl rfl) rfl (fun hg => (eff_move rfl rfl)) ?_
  refine aops_g (wT rfl rfl rfl rfl) rfl (fun hg => (eff_call [] rfl rfl (evs_cons (ev_g hg rfl) (evs_cons (ev_g hg rfl) evs_nil)) (c_refIface p hbs a) List.nodup_nil)) ?_
  refine aops_g (wT rfl rfl rfl rfl) rfl (fun hg => (eff_move rfl (ev_g hg rfl))) ?_
  refine aops_gload 0 (wFg rfl rfl rfl rfl) rfl rfl (fun hg => rfl) rfl rfl (ld_agg (Nat.le_of_ble_eq_true rfl)) ?_
  refine aops_g (wFg rfl rfl rfl rfl) rfl (fun hg => (eff_move rfl rfl)) ?_
  refine aops_g (wFg rfl rfl rfl rfl) rfl (fun hg => (eff_call [] rfl rfl (evs_cons (ev_g hg rfl) (evs_cons (ev_g hg rfl) evs_nil)) (c_refIface p hbs b) List.nodup_nil)) ?_
  refine aops_g (wT rfl rfl rfl rfl) rfl (fun hg => (eff_or rfl (ev_g hg rfl) rfl (fun h => by first | (simp [h, hg]; done) | (simp_all; done)))) ?_
  refine aops_e (w0 rfl) rfl (eff_and rfl rfl rfl (fun h => h)) ?_
  refine aops_nil ?_
  refine awp_cond rfl ?_ ?_
  · intro hc
    have hq : (!beqS a b && (ifaceP p a || ifaceP p b)) = true := hc
    refine awp_seq ?_
    refine awp_region ?_
    refine aops_e (w0 rfl) rfl (eff_assign rfl rfl) ?_
    refine aops_nil ?_
    refine awp_ret ?_
    exact retq rfl (res_tmp rfl res_nil) (gs (by unfold com; rw [hq]; rfl))
  · intro hc
    have hq : (!beqS a b && (ifaceP p a || ifaceP p b)) = false := hc
    refine awp_skip ?_
    refine awp_seq ?_
    refine awp_drawN 8 rfl (by kernel_rfl) ?_
    refine calm_load_ptr 0 (w0 rfl) rfl rfl rfl rfl rfl (ld_agg (Nat.le_of_ble_eq_true rfl)) ?_
    refine calm_e (w0 rfl) rfl (eff_move rfl rfl) ?_
    refine calm_e (w0 rfl) rfl (eff_call [] rfl rfl rfl (c_refSupers p hb a) List.nodup_nil) ?_
    refine calm_load_ptr 0 (w0 rfl) rfl rfl rfl rfl rfl (ld_agg (Nat.le_of_ble_eq_true rfl)) ?_
    refine calm_e (w0 rfl) rfl (eff_move rfl rfl) ?_
    refine calm_e (w0 rfl) rfl (eff_call [] rfl rfl rfl (c_refSupers p hb b) List.nodup_nil) ?_
    refine calm_e (w0 rfl) rfl (eff_assign rfl rfl) ?_
    refine calm_e (w0 rfl) rfl (eff_assign rfl rfl) ?_
    refine .done ?_
    refine aops_nil ?_
    refine awp_seq ?_
    refine awp_seq ?_
    refine awp_region ?_
    refine aops_e (w0 rfl) rfl (eff_assign rfl rfl) ?_
    refine aops_nil ?_
    refine awp_block ?_
    refine awp_loopJ (α := Nat) (fun i => ⟨[(9, iA i), (7, row1 sA (supers p a)), (8, row1 sA (supers p b))], [], [], 45⟩) (fun i => i ≤ (supers p a).length ∧ comF ((supers p a).drop i) (supers p b) = com p a b) (fun i => (supers p a).length - i) 0 ⟨by omega, by rw [List.drop_zero]; unfold com; rw [hq]; rfl⟩ ?_ ?_
    · exact weak_pick [] ⟨rfl, rfl, rfl, trivial⟩ rfl (by decide) rfl rfl
    rintro i hJ
    refine awp_seq ?_
    refine awp_seq ?_
    refine awp_region ?_
    refine aops_e (w0 rfl) rfl (eff_move rfl rfl) ?_
    refine aops_e (w0 rfl) rfl (eff_move rfl rfl) ?_
    refine aops_e (w0 rfl) rfl (eff_len rfl rfl rfl rfl) ?_
    refine aops_e (w0 rfl) rfl (eff_icmp rfl rfl rfl rfl) ?_
    refine aops_nil ?_
    refine awp_cond rfl ?_ ?_
    · intro hc
      have hi : i < (supers p a).length := by simpa using hc
      refine awp_skip ?_
      refine awp_seq ?_
      refine awp_block ?_
      refine awp_seq ?_
      refine awp_region ?_
      refine aops_e (w0 rfl) rfl (eff_move rfl rfl) ?_
      refine aops_e (w0 rfl) rfl (eff_move rfl rfl) ?_
      refine aops_e (w0 rfl) rfl (eff_move rfl rfl) ?_
      refine aops_e (w0 rfl) rfl (eff_indexAddr_lst rfl rfl rfl (len_map (fun _ => rfl)) (by first | omega | (simp only [List.length_map]; omega)) (by first | omega | (simp only [List.length_map]; omega))) ?_
      refine aops_e (w0 rfl) rfl (eff_loadE rfl rfl (map_get (by first | assumption | omega)) ld_one) ?_
      refine aops_e (w0 rfl) rfl (eff_call [] rfl rfl rfl (c_in (supers p b) (by unfold small; omega) _) List.nodup_nil) ?_
      refine aops_nil ?_
      refine awp_cond rfl ?_ ?_
      · intro hc
        have hc : inL (supers p b) ((supers p a)[i]) = true := hc
        refine awp_seq ?_
        refine awp_region ?_
        refine aops_e (w0 rfl) rfl (eff_move rfl rfl) ?_
        refine aops_e (w0 rfl) rfl (eff_move rfl rfl) ?_
        refine aops_e (w0 rfl) rfl (eff_indexAddr_lst rfl rfl rfl (len_map (fun _ => rfl)) (by first | omega | (simp only [List.length_map]; omega)) (by first | omega | (simp only [List.length_map]; omega))) ?_
        refine aops_e (w0 rfl) rfl (eff_loadE rfl rfl (map_get (by first | assumption | omega)) ld_one) ?_
        refine aops_e (w0 rfl) rfl (eff_assign rfl rfl) ?_
        refine aops_nil ?_
        refine awp_ret ?_
        exact retq rfl (res_tmp rfl res_nil) (gs (by rw [← hJ.2, drop_get hi, comF_yes hc]; rfl))
      · intro hc
        have hc : inL (supers p b) ((supers p a)[i]) = false := hc
        refine awp_skip ?_
        refine awp_region ?_
        refine aops_e (w0 rfl) rfl (eff_move rfl rfl) ?_
        refine aops_e (w0 rfl) rfl (eff_arith rfl rfl rfl (arith_add (by first | omega | (simp only [List.length_map]; omega)))) ?_
        refine aops_e (w0 rfl) rfl (eff_assign rfl rfl) ?_
        refine aops_nil ?_
        refine ⟨i + 1, ⟨by omega, by rw [← hJ.2, drop_get hi, comF_no hc]⟩, (by omega), ?_⟩
        exact weak_pick [] ⟨rfl, rfl, rfl, trivial⟩ rfl (by decide) rfl rfl
    · intro hc
      have hi : ¬ i < (supers p a).length := by simpa using hc
      refine awp_exit ?_
      refine awp_seq ?_
      refine awp_region ?_
      refine aops_e (w0 rfl) rfl (eff_assign rfl rfl) ?_
      refine aops_nil ?_
      refine awp_ret ?_
      exact retq rfl (res_tmp rfl res_nil) (gs (by rw [← hJ.2, drop_end hi]; rfl))

theorem c_refMerge (p : Prog) (hb : p.classes.length ≤ 1000) (a b : List Fact) (ha : a.length ≤ 1000) (hbb : b.length ≤ 1000) : ACalls Try.prog 12 [p.av, .lst (a.map Fact.cells), .lst (b.map Fact.cells)] [] (Gives (.lst ((mergeF (joinBy (com p)) a b).map Fact.cells))) := by
  refine acalls_of (n := 35) Try.func12 rfl (by decide +kernel) rfl rfl ?_
  refine awp_seq ?_
  refine awp_region ?_
  refine aops_n (w0 rfl) rfl (fun id => eff_box id rfl rfl rfl rfl rfl) (fun id1 => ?_)
  refine aops_e (w0 rfl) rfl (eff_assign rfl rfl) ?_
  refine aops_nil ?_
  refine awp_seq ?_
  refine awp_region ?_
  refine aops_n (w0 rfl) rfl (fun id => eff_nil id 36 2 (.inl rfl) rfl) (fun id2 => ?_)
  refine aops_nil ?_
  refine awp_seq ?_
  refine awp_seq ?_
  refine awp_region ?_
  refine aops_e (w0 rfl) rfl (eff_assign rfl rfl) ?_
  refine aops_nil ?_
  refine awp_block ?_
  refine awp_loopJ (α := Nat × Nat) (fun x => ⟨[(8, iA x.2), (7, .own x.1 2 0 (mergeF (joinBy (com p)) (a.take x.2) (b.take x.2)).length), (3, .ptr id1 5 0 0), (1, .lst (a.map Fact.cells)), (2, .lst (b.map Fact.cells))], [(x.1, .rows 36 2 ((mergeF (joinBy (com p)) (a.take x.2) (b.take x.2)).map Fact.cells)), (id1, .rows 27 5 [p.cells])], [], 35⟩) (fun x => x.2 ≤ a.length ∧ x.2 ≤ b.length) (fun x => a.length - x.2) (id2, 0) ⟨Nat.zero_le _, Nat.zero_le _⟩ ?_ ?_
  · exact weak_pick [0, 1] ⟨rfl, rfl, rfl, rfl, rfl, trivial⟩ rfl (by decide) rfl rfl
  rintro x hJ
  have hml := mergeF_len (joinBy (com p)) (a.take x.2) (b.take x.2)
  simp only [List.length_take] at hml
  refine awp_seq ?_
  refine awp_seq ?_
  refine awp_region ?_
  refine aops_e (w0 rfl) rfl (eff_move rfl rfl) ?_
  refine aops_e (w0 rfl) rfl (eff_move rfl rfl) ?_
  refine aops_e (w0 rfl) rfl (eff_len rfl rfl rfl rfl) ?_
  refine aops_e (w0 rfl) rfl (eff_icmp rfl rfl rfl rfl) ?_
  refine aops_e (w0 rfl) rfl (eff_move rfl rfl) ?_
  refine aops_g (wT rfl rfl rfl rfl) rfl (fun hg => (eff_move rfl rfl)) ?_
  refine aops_g (wT rfl rfl rfl rfl) rfl (fun hg => (eff_move rfl rfl)) ?_
  refine aops_g (wT rfl rfl rfl rfl) rfl (fun hg => (eff_len rfl (ev_g hg rfl) rfl rfl)) ?_
  refine aops_g (wT rfl rfl rfl rfl) rfl (fun hg => (eff_icmp rfl (ev_g hg rfl) (ev_g hg rfl) rfl)) ?_
  refine aops_e (w0 rfl) rfl (eff_and rfl rfl rfl (fun h => h)) ?_
  refine aops_nil ?_
  refine awp_cond rfl ?_ ?_
  · intro hc
    have hi : x.2 < a.length := by have := andL hc; simpa using this
    have hi2 : x.2 < b.length := by have := andR hc; simpa using this
    refine awp_skip ?_
    refine awp_seq ?_
    refine awp_block ?_
    refine awp_drawM [0, 0, 0, 0, 12, 28, 0, 0, 192, 448, 1022, 2046, 4095, 8191] 12 rfl (by kernel_rfl) ?_
    refine calm_e (w0 rfl) rfl (eff_move rfl rfl) ?_
    refine calm_load_ptr 1 (w0 rfl) rfl rfl rfl rfl rfl (ld_agg (Nat.le_of_ble_eq_true rfl)) ?_
    refine calm_e (w0 rfl) rfl (eff_move rfl rfl) ?_
    refine calm_e (w0 rfl) rfl (eff_move rfl rfl) ?_
    refine calm_e (w0 rfl) rfl (eff_indexAddr_lst rfl rfl rfl (len_map (fun _ => rfl)) (by first | omega | (simp only [List.length_map]; omega)) (by first | omega | (simp only [List.length_map]; omega))) ?_
    refine calm_e (w0 rfl) rfl (eff_loadE rfl rfl (map_get (by first | assumption | omega)) (ld_agg (Nat.le_of_ble_eq_true rfl))) ?_
    refine calm_e (w0 rfl) rfl (eff_move rfl rfl) ?_
    refine calm_e (w0 rfl) rfl (eff_move rfl rfl) ?_
    refine calm_e (w0 rfl) rfl (eff_indexAddr_lst rfl rfl rfl (len_map (fun _ => rfl)) (by first | omega | (simp only [List.length_map]; omega)) (by first | omega | (simp only [List.length_map]; omega))) ?_
    refine calm_e (w0 rfl) rfl (eff_loadE rfl rfl (map_get (by first | assumption | omega)) (ld_agg (Nat.le_of_ble_eq_true rfl))) ?_
    refine calm_e (w0 rfl) rfl (eff_call [] rfl rfl rfl (show ACalls Try.prog 22 [p.av, (a[x.2]).av, (b[x.2]).av] [] (Gives (Fact.av (joinBy (com p) a[x.2] b[x.2]))) from c_refJoin p _ _ _ (c_refCommon p hb _ _)) List.nodup_nil) ?_
    refine calm_n (w0 rfl) rfl (fun id => eff_buildSlice id (ps := [(0, .tmp 31)]) rfl rfl rfl rfl rfl rfl rfl rfl) (fun id3 => ?_)
    refine .done ?_
    refine aops_append 1 (w0 rfl) rfl rfl rfl rfl (by simp) rfl ⟨rfl, _, _, List.mem_of_getElem? (i := 0) rfl, by simp, rfl⟩ (by first | omega | (simp; omega) | (simp [maxLen]; omega) | (simp; done) | (simp [maxLen]; done)) (by first | omega | (simp; omega) | (simp [maxLen]; omega) | (simp; done) | (simp [maxLen]; done)) (fun id4 => ?_)
    refine aops_e (w0 rfl) rfl (eff_assign rfl rfl) ?_
    refine aops_nil ?_
    refine awp_region ?_
    refine aops_e (w0 rfl) rfl (eff_move rfl rfl) ?_
    refine aops_e (w0 rfl) rfl (eff_arith rfl rfl rfl (arith_add (by first | omega | (simp only [List.length_map]; omega)))) ?_
    refine aops_e (w0 rfl) rfl (eff_assign rfl rfl) ?_
    refine aops_nil ?_
    refine ⟨(id4, x.2 + 1), ⟨hi, hi2⟩, (by simp; omega), ?_⟩
    exact weak_pick [1, 2] ⟨rfl, (by show some (AV.own _ _ _ _) = some (AV.own _ _ _ _); rw [mergeF_take _ a b x.2 hi hi2]; simp), rfl, rfl, rfl, trivial⟩ (by show some [(_, AObj.rows _ _ _), (_, AObj.rows _ _ _)] = some [(_, AObj.rows _ _ _), (_, AObj.rows _ _ _)]; rw [mergeF_take _ a b x.2 hi hi2]; simp [cellsA, Fact.av]) (by decide) rfl rfl
  · intro hc
    have hi : a.length ≤ x.2 ∨ b.length ≤ x.2 := by simp at hc; omega
    refine awp_exit ?_
    refine awp_seq ?_
    refine awp_region ?_
    refine aops_e (w0 rfl) rfl (eff_move rfl rfl) ?_
    refine aops_e (w0 rfl) rfl (eff_assign rfl rfl) ?_
    refine aops_nil ?_
    refine awp_ret ?_
    exact retq_frz 0 rfl rfl rfl rfl (by simp) (by rw [mergeF_min _ a b x.2 hi])

theorem c_great (p : Prog) (hp : p.ok) : ACalls Try.prog 8 [p.av] [] (Gives (bA (greatP p))) := by
  have hb := hp.classes.1
  simp only [small] at hb
  refine acalls_of (n := 131) Try.func8 rfl (by decide +kernel) rfl rfl ?_
  refine awp_seq ?_
  refine awp_region ?_
  refine aops_n (w0 rfl) rfl (fun id => eff_box id rfl rfl rfl rfl rfl) (fun id1 => ?_)
  refine aops_e (w0 rfl) rfl (eff_assign rfl rfl) ?_
  refine aops_nil ?_
  refine awp_seq ?_
  refine awp_seq ?_
  refine awp_region ?_
  refine aops_e (w0 rfl) rfl (eff_fieldAddr rfl rfl rfl) ?_
  refine aops_load_ptr 0 (w0 rfl) rfl rfl rfl rfl rfl ld_one ?_
  refine aops_e (w0 rfl) rfl (eff_len rfl rfl rfl rfl) ?_
  refine aops_e (w0 rfl) rfl (eff_icmp rfl rfl rfl rfl) ?_
  refine aops_e (w0 rfl) rfl (eff_move rfl rfl) ?_
  refine aops_g (wF rfl rfl rfl rfl) rfl (fun hg => (eff_fieldAddr rfl rfl rfl)) ?_
  refine aops_gload 0 (wF rfl rfl rfl rfl) rfl rfl (fun hg => (ev_g hg rfl)) rfl rfl ld_one ?_
  refine aops_g (wF rfl rfl rfl rfl) rfl (fun hg => (eff_len rfl (ev_g hg rfl) rfl rfl)) ?_
  refine aops_g (wF rfl rfl rfl rfl) rfl (fun hg => (eff_icmp rfl (ev_g hg rfl) rfl rfl)) ?_
  refine aops_e (w0 rfl) rfl (eff_or rfl rfl rfl (fun h => by rw [h]; rfl)) ?_
  refine aops_nil ?_
  refine awp_cond rfl ?_ ?_
  · intro hc
    have hq : greatP0 p = true := by simp [greatP0] at hc ⊢; omega
    refine awp_seq ?_
    refine awp_region ?_
    refine aops_e (w0 rfl) rfl (eff_assign rfl rfl) ?_
    refine aops_nil ?_
    refine awp_ret ?_
    exact retq rfl (res_tmp rfl res_nil) (gb (by unfold greatP; rw [hq]; rfl))
  · intro hc
    have hq : greatP0 p = false := by simp [greatP0] at hc ⊢; omega
    refine awp_skip ?_
    refine awp_seq ?_
    refine awp_seq ?_
    refine awp_region ?_
    refine aops_e (w0 rfl) rfl (eff_assign rfl rfl) ?_
    refine aops_nil ?_
    refine awp_block ?_
    refine awp_loopJ (α := Nat) (fun i => ⟨[(3, iA i), (1, .ptr id1 5 0 0)], [(id1, .rows 27 5 [p.cells])], [], 131⟩) (fun i => i ≤ p.classes.length ∧ (p.classes.drop i).any greatC = p.classes.any greatC) (fun i => p.classes.length - i) 0 ⟨Nat.zero_le _, rfl⟩ ?_ ?_
    · exact weak_pick [0] ⟨rfl, rfl, trivial⟩ rfl (by decide) rfl rfl
    rintro i hJ
    refine awp_seq ?_
    refine awp_seq ?_
    refine awp_region ?_
    refine aops_e (w0 rfl) rfl (eff_move rfl rfl) ?_
    refine aops_e (w0 rfl) rfl (eff_fieldAddr rfl rfl rfl) ?_
    refine aops_load_ptr 0 (w0 rfl) rfl rfl rfl rfl rfl ld_one ?_
    refine aops_e (w0 rfl) rfl (eff_len rfl rfl rfl rfl) ?_
    refine aops_e (w0 rfl) rfl (eff_icmp rfl rfl rfl rfl) ?_
    refine aops_nil ?_
    refine awp_cond rfl ?_ ?_
    · intro hc
      have hi : i < p.classes.length := by simpa using hc
      have hok := hp.classes.2 _ (List.getElem_mem hi)
      have hm1 := hok.methods.1
      simp only [small] at hm1
      refine awp_skip ?_
      refine awp_seq ?_
      refine awp_block ?_
      refine awp_seq ?_
      refine awp_region ?_
      refine aops_e (w0 rfl) rfl (eff_fieldAddr rfl rfl rfl) ?_
      refine aops_load_ptr 0 (w0 rfl) rfl rfl rfl rfl rfl ld_one ?_
      refine aops_e (w0 rfl) rfl (eff_move rfl rfl) ?_
      refine aops_e (w0 rfl) rfl (eff_indexAddr_lst rfl rfl rfl (len_map (fun _ => rfl)) (by first | omega | (simp only [List.length_map]; omega)) (by first | omega | (simp only [List.length_map]; omega))) ?_
      refine aops_e (w0 rfl) rfl (eff_loadE rfl rfl (map_get (by first | assumption | omega)) (ld_agg (Nat.le_of_ble_eq_true rfl))) ?_
      refine aops_n (w0 rfl) rfl (fun id => eff_alloc id rfl rfl rfl) (fun id2 => ?_)
      refine aops_store 0 (w0 rfl) rfl rfl rfl rfl rfl rfl rfl rfl rfl ?_
      refine aops_nil ?_
      refine awp_seq ?_
      refine awp_seq ?_
      refine awp_region ?_
      refine aops_e (w0 rfl) rfl (eff_fieldAddr rfl rfl rfl) ?_
      refine aops_load_ptr 0 (w0 rfl) rfl rfl rfl rfl rfl ld_one ?_
      refine aops_e (w0 rfl) rfl (eff_len rfl rfl rfl rfl) ?_
      refine aops_e (w0 rfl) rfl (eff_icmp rfl rfl rfl rfl) ?_
      refine aops_e (w0 rfl) rfl (eff_move rfl rfl) ?_
      refine aops_g (wF rfl rfl rfl rfl) rfl (fun hg => (eff_fieldAddr rfl rfl rfl)) ?_
      refine aops_gload 0 (wF rfl rfl rfl rfl) rfl rfl (fun hg => (ev_g hg rfl)) rfl rfl ld_one ?_
      refine aops_g (wF rfl rfl rfl rfl) rfl (fun hg => (eff_len rfl (ev_g hg rfl) rfl rfl)) ?_
      refine aops_g (wF rfl rfl rfl rfl) rfl (fun hg => (eff_icmp rfl (ev_g hg rfl) rfl rfl)) ?_
      refine aops_e (w0 rfl) rfl (eff_or rfl rfl rfl (fun h => by rw [h]; rfl)) ?_
      refine aops_e (w0 rfl) rfl (eff_move rfl rfl) ?_
      refine aops_g (wF rfl rfl rfl rfl) rfl (fun hg => (eff_fieldAddr rfl rfl rfl)) ?_
      refine aops_gload 0 (wF rfl rfl rfl rfl) rfl rfl (fun hg => (ev_g hg rfl)) rfl rfl ld_one ?_
      refine aops_g (wF rfl rfl rfl rfl) rfl (fun hg => (eff_len rfl (ev_g hg rfl) rfl rfl)) ?_
      refine aops_g (wF rfl rfl rfl rfl) rfl (fun hg => (eff_icmp rfl (ev_g hg rfl) rfl rfl)) ?_
      refine aops_e (w0 rfl) rfl (eff_or rfl rfl rfl (fun h => by rw [h]; rfl)) ?_
      refine aops_e (w0 rfl) rfl (eff_move rfl rfl) ?_
      refine aops_g (wF rfl rfl rfl rfl) rfl (fun hg => (eff_fieldAddr rfl rfl rfl)) ?_
      refine aops_gload 0 (wF rfl rfl rfl rfl) rfl rfl (fun hg => (ev_g hg rfl)) rfl rfl ld_one ?_
      refine aops_g (wF rfl rfl rfl rfl) rfl (fun hg => (eff_len rfl (ev_g hg rfl) rfl rfl)) ?_
      refine aops_g (wF rfl rfl rfl rfl) rfl (fun hg => (eff_icmp rfl (ev_g hg rfl) rfl rfl)) ?_
      refine aops_e (w0 rfl) rfl (eff_or rfl rfl rfl (fun h => by rw [h]; rfl)) ?_
      refine aops_e (w0 rfl) rfl (eff_move rfl rfl) ?_
      refine aops_g (wF rfl rfl rfl rfl) rfl (fun hg => (eff_fieldAddr rfl rfl rfl)) ?_
      refine aops_gload 0 (wF rfl rfl rfl rfl) rfl rfl (fun hg => (ev_g hg rfl)) rfl rfl ld_one ?_
      refine aops_g (wF rfl rfl rfl rfl) rfl (fun hg => (eff_len rfl (ev_g hg rfl) rfl rfl)) ?_
      refine aops_g (wF rfl rfl rfl rfl) rfl (fun hg => (eff_icmp rfl (ev_g hg rfl) rfl rfl)) ?_
      refine aops_e (w0 rfl) rfl (eff_or rfl rfl rfl (fun h => by rw [h]; rfl)) ?_
      refine aops_nil ?_
      refine awp_cond rfl ?_ ?_
      · intro hc
        have hq2 : greatC0 p.classes[i] = true := by simp [greatC0] at hc ⊢; omega
        refine awp_seq ?_
        refine awp_region ?_
        refine aops_e (w0 rfl) rfl (eff_assign rfl rfl) ?_
        refine aops_nil ?_
        refine awp_ret ?_
        exact retq rfl (res_tmp rfl res_nil) (gb (by unfold greatP; rw [any_hit hJ.2 hi (by unfold greatC; rw [hq2]; rfl), Bool.or_true]))
      · intro hc
        have hq2 : greatC0 p.classes[i] = false := by simp [greatC0] at hc ⊢; omega
        refine awp_skip ?_
        refine awp_seq ?_
        refine awp_region ?_
        refine aops_e (w0 rfl) rfl (eff_assign rfl rfl) ?_
        refine aops_nil ?_
        refine awp_block ?_
        refine awp_loopJ (α := Nat) (fun k => ⟨[(5, iA k), (3, iA i), (1, .ptr id1 5 0 0), (4, .ptr id2 7 0 0)], [(id2, .rows 54 7 [p.classes[i].cells]), (id1, .rows 27 5 [p.cells])], [], 131⟩) (fun k => k ≤ p.classes[i].methods.length ∧ (p.classes[i].methods.drop k).any greatM = p.classes[i].methods.any greatM) (fun k => p.classes[i].methods.length - k) 0 ⟨Nat.zero_le _, rfl⟩ ?_ ?_
        · exact weak_pick [0, 1] ⟨rfl, rfl, rfl, rfl, trivial⟩ rfl (by decide) rfl rfl
        rintro k hJ1
        refine awp_seq ?_
        refine awp_seq ?_
        refine awp_region ?_
        refine aops_e (w0 rfl) rfl (eff_move rfl rfl) ?_
        refine aops_e (w0 rfl) rfl (eff_fieldAddr rfl rfl rfl) ?_
        refine aops_load_ptr 0 (w0 rfl) rfl rfl rfl rfl rfl ld_one ?_
        refine aops_e (w0 rfl) rfl (eff_len rfl rfl rfl rfl) ?_
        refine aops_e (w0 rfl) rfl (eff_icmp rfl rfl rfl rfl) ?_
        refine aops_nil ?_
        refine awp_cond rfl ?_ ?_
        · intro hc
          have hk : k < p.classes[i].methods.length := by simpa using hc
          have hm2 := (hok.methods.2 _ (List.getElem_mem hk)).code.1
          simp only [small] at hm2
          refine awp_skip ?_
          refine awp_seq ?_
          refine awp_block ?_
          refine awp_seq ?_
          refine awp_region ?_
          refine aops_e (w0 rfl) rfl (eff_fieldAddr rfl rfl rfl) ?_
          refine aops_load_ptr 0 (w0 rfl) rfl rfl rfl rfl rfl ld_one ?_
          refine aops_e (w0 rfl) rfl (eff_move rfl rfl) ?_
          refine aops_e (w0 rfl) rfl (eff_indexAddr_lst rfl rfl rfl (len_map (fun _ => rfl)) (by first | omega | (simp only [List.length_map]; omega)) (by first | omega | (simp only [List.length_map]; omega))) ?_
          refine aops_e (w0 rfl) rfl (eff_loadE rfl rfl (map_get (by first | assumption | omega)) (ld_agg (Nat.le_of_ble_eq_true rfl))) ?_
          refine aops_n (w0 rfl) rfl (fun id => eff_alloc id rfl rfl rfl) (fun id3 => ?_)
          refine aops_store 0 (w0 rfl) rfl rfl rfl rfl rfl rfl rfl rfl rfl ?_
          refine aops_nil ?_
          refine awp_seq ?_
          refine awp_seq ?_
          refine awp_region ?_
          refine aops_e (w0 rfl) rfl (eff_fieldAddr rfl rfl rfl) ?_
          refine aops_load_ptr 0 (w0 rfl) rfl rfl rfl rfl rfl ld_one ?_
          refine aops_e (w0 rfl) rfl (eff_len rfl rfl rfl rfl) ?_
          refine aops_e (w0 rfl) rfl (eff_icmp rfl rfl rfl rfl) ?_
          refine aops_e (w0 rfl) rfl (eff_move rfl rfl) ?_
          refine aops_g (wF rfl rfl rfl rfl) rfl (fun hg => (eff_fieldAddr rfl rfl rfl)) ?_
          refine aops_gload 0 (wF rfl rfl rfl rfl) rfl rfl (fun hg => (ev_g hg rfl)) rfl rfl ld_one ?_
          refine aops_g (wF rfl rfl rfl rfl) rfl (fun hg => (eff_len rfl (ev_g hg rfl) rfl rfl)) ?_
          refine aops_g (wF rfl rfl rfl rfl) rfl (fun hg => (eff_icmp rfl (ev_g hg rfl) rfl rfl)) ?_
          refine aops_e (w0 rfl) rfl (eff_or rfl rfl rfl (fun h => by rw [h]; rfl)) ?_
          refine aops_e (w0 rfl) rfl (eff_move rfl rfl) ?_
          refine aops_g (wF rfl rfl rfl rfl) rfl (fun hg => (eff_fieldAddr rfl rfl rfl)) ?_
          refine aops_gload 0 (wF rfl rfl rfl rfl) rfl rfl (fun hg => (ev_g hg rfl)) rfl rfl ld_one ?_
          refine aops_g (wF rfl rfl rfl rfl) rfl (fun hg => (eff_len rfl (ev_g hg rfl) rfl rfl)) ?_
          refine aops_g (wF rfl rfl rfl rfl) rfl (fun hg => (eff_icmp rfl (ev_g hg rfl) rfl rfl)) ?_
          refine aops_e (w0 rfl) rfl (eff_or rfl rfl rfl (fun h => by rw [h]; rfl)) ?_
          refine aops_nil ?_
          refine awp_cond rfl ?_ ?_
          · intro hc
            have hq3 : greatM0 p.classes[i].methods[k] = true := by simp [greatM0] at hc ⊢; omega
            refine awp_seq ?_
            refine awp_region ?_
            refine aops_e (w0 rfl) rfl (eff_assign rfl rfl) ?_
            refine aops_nil ?_
            refine awp_ret ?_
            exact retq rfl (res_tmp rfl res_nil) (gb (by unfold greatP; rw [any_hit hJ.2 hi (by unfold greatC; rw [any_hit hJ1.2 hk (by unfold greatM; rw [hq3]; rfl), Bool.or_true]), Bool.or_true]))
          · intro hc
            have hq3 : greatM0 p.classes[i].methods[k] = false := by simp [greatM0] at hc ⊢; omega
            refine awp_skip ?_
            refine awp_seq ?_
            refine awp_region ?_
            refine aops_e (w0 rfl) rfl (eff_assign rfl rfl) ?_
            refine aops_nil ?_
            refine awp_block ?_
            refine awp_loopJ (α := Nat) (fun z => ⟨[(7, iA z), (5, iA k), (3, iA i), (1, .ptr id1 5 0 0), (4, .ptr id2 7 0 0), (6, .ptr id3 6 0 0)], [(id3, .rows 59 6 [p.classes[i].methods[k].cells]), (id2, .rows 54 7 [p.classes[i].cells]), (id1, .rows 27 5 [p.cells])], [], 131⟩) (fun z => z ≤ p.classes[i].methods[k].code.length ∧ (p.classes[i].methods[k].code.drop z).any greatI = p.classes[i].methods[k].code.any greatI) (fun z => p.classes[i].methods[k].code.length - z) 0 ⟨Nat.zero_le _, rfl⟩ ?_ ?_
            · exact weak_pick [0, 1, 2] ⟨rfl, rfl, rfl, rfl, rfl, rfl, trivial⟩ rfl (by decide) rfl rfl
            rintro z hJ2
            refine awp_seq ?_
            refine awp_seq ?_
            refine awp_region ?_
            refine aops_e (w0 rfl) rfl (eff_move rfl rfl) ?_
            refine aops_e (w0 rfl) rfl (eff_fieldAddr rfl rfl rfl) ?_
            refine aops_load_ptr 0 (w0 rfl) rfl rfl rfl rfl rfl ld_one ?_
            refine aops_e (w0 rfl) rfl (eff_len rfl rfl rfl rfl) ?_
            refine aops_e (w0 rfl) rfl (eff_icmp rfl rfl rfl rfl) ?_
            refine aops_nil ?_
            refine awp_cond rfl ?_ ?_
            · intro hc
              have hz : z < p.classes[i].methods[k].code.length := by simpa using hc
              refine awp_skip ?_
              refine awp_seq ?_
              refine awp_block ?_
              refine awp_seq ?_
              refine awp_region ?_
              refine aops_e (w0 rfl) rfl (eff_fieldAddr rfl rfl rfl) ?_
              refine aops_load_ptr 0 (w0 rfl) rfl rfl rfl rfl rfl ld_one ?_
              refine aops_e (w0 rfl) rfl (eff_move rfl rfl) ?_
              refine aops_e (w0 rfl) rfl (eff_indexAddr_lst rfl rfl rfl (len_map (fun _ => rfl)) (by first | omega | (simp only [List.length_map]; omega)) (by first | omega | (simp only [List.length_map]; omega))) ?_
              refine aops_e (w0 rfl) rfl (eff_fieldAddr rfl rfl rfl) ?_
              refine aops_e (w0 rfl) rfl (eff_loadE rfl rfl (map_get (by first | assumption | omega)) ld_one) ?_
              refine aops_e (w0 rfl) rfl (eff_len rfl rfl rfl rfl) ?_
              refine aops_e (w0 rfl) rfl (eff_icmp rfl rfl rfl rfl) ?_
              refine aops_e (w0 rfl) rfl (eff_move rfl rfl) ?_
              refine aops_g (wF rfl rfl rfl rfl) rfl (fun hg => (eff_fieldAddr rfl rfl rfl)) ?_
              refine aops_gload 0 (wF rfl rfl rfl rfl) rfl rfl (fun hg => (ev_g hg rfl)) rfl rfl ld_one ?_
              refine aops_g (wF rfl rfl rfl rfl) rfl (fun hg => (eff_move rfl rfl)) ?_
              refine aops_g (wF rfl rfl rfl rfl) rfl (fun hg => (eff_indexAddr_lst rfl (ev_g hg rfl) (ev_g hg rfl) (len_map (fun _ => rfl)) (by (try simp at hg) <;> first | omega | (simp only [List.length_map]; omega)) (by (try simp at hg) <;> first | omega | (simp only [List.length_map]; omega)))) ?_
              refine aops_g (wF rfl rfl rfl rfl) rfl (fun hg => (eff_fieldAddr rfl (ev_g hg rfl) rfl)) ?_
              refine aops_g (wF rfl rfl rfl rfl) rfl (fun hg => (eff_loadE rfl (ev_g hg rfl) (map_getD (by (try simp at hg) <;> first | assumption | omega)) ld_one)) ?_
              refine aops_g (wF rfl rfl rfl rfl) rfl (fun hg => (eff_len rfl (ev_g hg rfl) rfl rfl)) ?_
              refine aops_g (wF rfl rfl rfl rfl) rfl (fun hg => (eff_icmp rfl (ev_g hg rfl) rfl rfl)) ?_
              refine aops_e (w0 rfl) rfl (eff_or rfl rfl rfl (fun h => by rw [h]; rfl)) ?_
              refine aops_e (w0 rfl) rfl (eff_move rfl rfl) ?_
              refine aops_g (wF rfl rfl rfl rfl) rfl (fun hg => (eff_fieldAddr rfl rfl rfl)) ?_
              refine aops_gload 0 (wF rfl rfl rfl rfl) rfl rfl (fun hg => (ev_g hg rfl)) rfl rfl ld_one ?_
              refine aops_g (wF rfl rfl rfl rfl) rfl (fun hg => (eff_move rfl rfl)) ?_
              refine aops_g (wF rfl rfl rfl rfl) rfl (fun hg => (eff_indexAddr_lst rfl (ev_g hg rfl) (ev_g hg rfl) (len_map (fun _ => rfl)) (by (try simp at hg) <;> first | omega | (simp only [List.length_map]; omega)) (by (try simp at hg) <;> first | omega | (simp only [List.length_map]; omega)))) ?_
              refine aops_g (wF rfl rfl rfl rfl) rfl (fun hg => (eff_fieldAddr rfl (ev_g hg rfl) rfl)) ?_
              refine aops_g (wF rfl rfl rfl rfl) rfl (fun hg => (eff_loadE rfl (ev_g hg rfl) (map_getD (by (try simp at hg) <;> first | assumption | omega)) ld_one)) ?_
              refine aops_g (wF rfl rfl rfl rfl) rfl (fun hg => (eff_len rfl (ev_g hg rfl) rfl rfl)) ?_
              refine aops_g (wF rfl rfl rfl rfl) rfl (fun hg => (eff_icmp rfl (ev_g hg rfl) rfl rfl)) ?_
              refine aops_e (w0 rfl) rfl (eff_or rfl rfl rfl (fun h => by rw [h]; rfl)) ?_
              refine aops_e (w0 rfl) rfl (eff_move rfl rfl) ?_
              refine aops_g (wF rfl rfl rfl rfl) rfl (fun hg => (eff_fieldAddr rfl rfl rfl)) ?_
              refine aops_gload 0 (wF rfl rfl rfl rfl) rfl rfl (fun hg => (ev_g hg rfl)) rfl rfl ld_one ?_
              refine aops_g (wF rfl rfl rfl rfl) rfl (fun hg => (eff_move rfl rfl)) ?_
              refine aops_g (wF rfl rfl rfl rfl) rfl (fun hg => (eff_indexAddr_lst rfl (ev_g hg rfl) (ev_g hg rfl) (len_map (fun _ => rfl)) (by (try simp at hg) <;> first | omega | (simp only [List.length_map]; omega)) (by (try simp at hg) <;> first | omega | (simp only [List.length_map]; omega)))) ?_
              refine aops_g (wF rfl rfl rfl rfl) rfl (fun hg => (eff_fieldAddr rfl (ev_g hg rfl) rfl)) ?_
              refine aops_g (wF rfl rfl rfl rfl) rfl (fun hg => (eff_loadE rfl (ev_g hg rfl) (map_getD (by (try simp at hg) <;> first | assumption | omega)) ld_one)) ?_
              refine aops_g (wF rfl rfl rfl rfl) rfl (fun hg => (eff_len rfl (ev_g hg rfl) rfl rfl)) ?_
              refine aops_g (wF rfl rfl rfl rfl) rfl (fun hg => (eff_icmp rfl (ev_g hg rfl) rfl rfl)) ?_
              refine aops_e (w0 rfl) rfl (eff_or rfl rfl rfl (fun h => by rw [h]; rfl)) ?_
              refine aops_nil ?_
              refine awp_cond rfl ?_ ?_
              · intro hc
                have hq4 : greatI p.classes[i].methods[k].code[z] = true := by simp [greatI, List.getD, hz] at hc ⊢; omega
                refine awp_seq ?_
                refine awp_region ?_
                refine aops_e (w0 rfl) rfl (eff_assign rfl rfl) ?_
                refine aops_nil ?_
                refine awp_ret ?_
                exact retq rfl (res_tmp rfl res_nil) (gb (by unfold greatP; rw [any_hit hJ.2 hi (by unfold greatC; rw [any_hit hJ1.2 hk (by unfold greatM; rw [any_hit hJ2.2 hz hq4, Bool.or_true]), Bool.or_true]), Bool.or_true]))
              · intro hc
                have hq4 : greatI p.classes[i].methods[k].code[z] = false := by simp [greatI, List.getD, hz] at hc ⊢; omega
                refine awp_skip ?_
                refine awp_region ?_
                refine aops_e (w0 rfl) rfl (eff_move rfl rfl) ?_
                refine aops_e (w0 rfl) rfl (eff_arith rfl rfl rfl (arith_add (by first | omega | (simp only [List.length_map]; omega)))) ?_
                refine aops_e (w0 rfl) rfl (eff_assign rfl rfl) ?_
                refine aops_nil ?_
                refine ⟨z + 1, ⟨hz, any_next hJ2.2 hz hq4⟩, (by omega), ?_⟩
                exact weak_pick [0, 1, 2] ⟨rfl, rfl, rfl, rfl, rfl, rfl, trivial⟩ rfl (by decide) rfl rfl
            · intro hc
              have hz : ¬ z < p.classes[i].methods[k].code.length := by simpa using hc
              refine awp_exit ?_
              refine awp_region ?_
              refine aops_e (w0 rfl) rfl (eff_move rfl rfl) ?_
              refine aops_e (w0 rfl) rfl (eff_arith rfl rfl rfl (arith_add (by first | omega | (simp only [List.length_map]; omega)))) ?_
              refine aops_e (w0 rfl) rfl (eff_assign rfl rfl) ?_
              refine aops_nil ?_
              refine ⟨k + 1, ⟨hk, any_next hJ1.2 hk (by unfold greatM; rw [hq3, any_end hJ2.2 hz]; rfl)⟩, (by omega), ?_⟩
              exact weak_pick [1, 2] ⟨rfl, rfl, rfl, rfl, trivial⟩ rfl (by decide) rfl rfl
        · intro hc
          have hk : ¬ k < p.classes[i].methods.length := by simpa using hc
          refine awp_exit ?_
          refine awp_region ?_
          refine aops_e (w0 rfl) rfl (eff_move rfl rfl) ?_
          refine aops_e (w0 rfl) rfl (eff_arith rfl rfl rfl (arith_add (by first | omega | (simp only [List.length_map]; omega)))) ?_
          refine aops_e (w0 rfl) rfl (eff_assign rfl rfl) ?_
          refine aops_nil ?_
          refine ⟨i + 1, ⟨hi, any_next hJ.2 hi (by unfold greatC; rw [hq2, any_end hJ1.2 hk]; rfl)⟩, (by omega), ?_⟩
          exact weak_pick [1] ⟨rfl, rfl, trivial⟩ rfl (by decide) rfl rfl
    · intro hc
      have hi : ¬ i < p.classes.length := by simpa using hc
      refine awp_exit ?_
      refine awp_seq ?_
      refine awp_region ?_
      refine aops_e (w0 rfl) rfl (eff_assign rfl rfl) ?_
      refine aops_nil ?_
      refine awp_ret ?_
      exact retq rfl (res_tmp rfl res_nil) (gb (by unfold greatP; rw [hq, any_end hJ.2 hi]; rfl))

theorem c_pairs (a b : List Fact) : ACalls Try.prog 21 [.lst (a.map Fact.cells), .lst (b.map Fact.cells)] [] (PairsR 29 28 (.lst (a.map Fact.cells)) (.lst (b.map Fact.cells))) := by
  refine acalls_of (n := 6) Try.func21 rfl (by decide +kernel) rfl rfl ?_
  refine awp_seq ?_
  refine awp_region ?_
  refine aops_n (w0 rfl) rfl (fun id => eff_box id rfl rfl rfl rfl rfl) (fun id1 => ?_)
  refine aops_n (w0 rfl) rfl (fun id => eff_box id rfl rfl rfl rfl rfl) (fun id2 => ?_)
  refine aops_e (w0 rfl) rfl (eff_assign rfl rfl) ?_
  refine aops_nil ?_
  refine awp_seq ?_
  refine awp_region ?_
  refine aops_e (w0 rfl) rfl (eff_makeFunc rfl rfl) ?_
  refine aops_e (w0 rfl) rfl (eff_assign rfl rfl) ?_
  refine aops_nil ?_
  refine awp_ret ?_
  exact retq_keep rfl (res_tmp rfl res_nil) (.refl _) ⟨id1, id2, rfl, rfl⟩

theorem c_pairsFn (a b : List Fact) (ha : a.length ≤ 1000) (hb : b.length ≤ 1000) (i1 i2 : Nat) : SeqA Try.prog 29 [.ptr i1 1 0 0, .ptr i2 1 0 0] [(i2, .rows 28 1 [[.lst (b.map Fact.cells)]]), (i1, .rows 28 1 [[.lst (a.map Fact.cells)]])] (fun q : Fact × Fact => [q.1.av, q.2.av]) (a.zip b) := by
  refine ⟨⟨_, Try.func29, rfl, by decide +kernel⟩, ?_⟩
  intro id J Jx hY Hj hJ0
  refine acalls_of (n := 25) Try.func29 rfl (by decide +kernel) rfl rfl ?_
  refine awp_seq ?_
  refine awp_region ?_
  refine aops_load_ptr 1 (w0 rfl) rfl rfl rfl rfl rfl ld_one ?_
  refine aops_e (w0 rfl) rfl (eff_len rfl rfl rfl rfl) ?_
  refine aops_load_ptr 0 (w0 rfl) rfl rfl rfl rfl rfl ld_one ?_
  refine aops_e (w0 rfl) rfl (eff_len rfl rfl rfl rfl) ?_
  refine aops_e (w0 rfl) rfl (eff_min rfl rfl rfl) ?_
  refine aops_e (w0 rfl) rfl (eff_move rfl rfl) ?_
  refine aops_nil ?_
  refine awp_block ?_
  refine awp_loopJ (α := Nat × AHeap) (fun x => ⟨[(10, iA x.1), (9, iA (min a.length b.length : Nat)), (0, .yld id), (1, .ptr i1 1 0 0), (2, .ptr i2 1 0 0)], [(i2, .rows 28 1 [[.lst (b.map Fact.cells)]]), (i1, .rows 28 1 [[.lst (a.map Fact.cells)]])] ++ x.2, [], 25⟩) (fun x => x.1 ≤ min a.length b.length ∧ J ((a.zip b).take x.1) x.2) (fun x => min a.length b.length - x.1) (0, Hj) ⟨Nat.zero_le _, hJ0⟩ ?_ ?_
  · exact weak_tail (F := [_, _]) (F' := [_, _]) (Hj := Hj) [0, 1] ⟨rfl, (by show some (iA _) = some (iA _); simp only [List.length_map]; congr 2; omega), rfl, rfl, rfl, trivial⟩ rfl rfl rfl (by decide) rfl rfl
  rintro x hJ
  refine awp_seq ?_
  refine awp_region ?_
  refine aops_e (w0 rfl) rfl (eff_icmp rfl rfl rfl rfl) ?_
  refine aops_nil ?_
  refine awp_seq ?_
  refine awp_cond rfl ?_ ?_
  · intro hc
    have hi : x.1 < min a.length b.length := by simp at hc; omega
    have hi1 : x.1 < a.length := by omega
    have hi2 : x.1 < b.length := by omega
    have hzz : x.1 < (a.zip b).length := by simp; omega
    have hze : (a.zip b)[x.1] = (a[x.1], b[x.1]) := by simp
    have hsp : a.zip b = (a.zip b).take x.1 ++ (a[x.1], b[x.1]) :: (a.zip b).drop (x.1 + 1) := by rw [← hze]; exact split_at hzz
    refine awp_skip ?_
    refine awp_seq ?_
    refine awp_block ?_
    refine awp_seq ?_
    refine awp_region ?_
    refine aops_e (w0 rfl) rfl (eff_move rfl rfl) ?_
    refine aops_e (w0 rfl) rfl (eff_assign rfl rfl) ?_
    refine aops_nil ?_
    refine awp_seq ?_
    refine awp_drawN 9 rfl (by kernel_rfl) ?_
    refine calm_e (w0 rfl) rfl (eff_move rfl rfl) ?_
    refine calm_load_ptr 1 (w0 rfl) rfl rfl rfl rfl rfl ld_one ?_
    refine calm_e (w0 rfl) rfl (eff_move rfl rfl) ?_
    refine calm_e (w0 rfl) rfl (eff_indexAddr_lst rfl rfl rfl (len_map (fun _ => rfl)) (by first | omega | (simp only [List.length_map]; omega)) (by first | omega | (simp only [List.length_map]; omega))) ?_
    refine calm_e (w0 rfl) rfl (eff_loadE rfl rfl (map_get (by first | assumption | omega)) (ld_agg (Nat.le_of_ble_eq_true rfl))) ?_
    refine calm_load_ptr 0 (w0 rfl) rfl rfl rfl rfl rfl ld_one ?_
    refine calm_e (w0 rfl) rfl (eff_move rfl rfl) ?_
    refine calm_e (w0 rfl) rfl (eff_indexAddr_lst rfl rfl rfl (len_map (fun _ => rfl)) (by first | omega | (simp only [List.length_map]; omega)) (by first | omega | (simp only [List.length_map]; omega))) ?_
    refine calm_e (w0 rfl) rfl (eff_loadE rfl rfl (map_get (by first | assumption | omega)) (ld_agg (Nat.le_of_ble_eq_true rfl))) ?_
    refine .done ?_
    refine aops_yieldB  [_, _] x.2 (w0 rfl) rfl rfl rfl rfl rfl (hY ((a.zip b).take x.1) (a[x.1], b[x.1]) ((a.zip b).drop (x.1 + 1)) x.2 hsp hJ.2) (fun bY Hn1 hyT hyF => ?_)
    refine aops_e (w0 rfl) rfl (eff_not rfl rfl) ?_
    refine aops_nil ?_
    refine awp_cond rfl ?_ ?_
    · intro hc
      have hb1 := notT hc
      refine awp_ret ?_
      exact retq_keep rfl res_nil (.cons _ (.cons _ (.refl _))) ⟨⟨_, rfl⟩, .inr ⟨_, _, .refl _, hyF hb1⟩⟩
    · intro hc
      have hb1 := notF hc
      refine awp_skip ?_
      refine awp_region ?_
      refine aops_e (w0 rfl) rfl (eff_arith rfl rfl rfl (arith_add (by first | omega | (simp only [List.length_map]; omega)))) ?_
      refine aops_e (w0 rfl) rfl (eff_move rfl rfl) ?_
      refine aops_nil ?_
      refine ⟨(x.1 + 1, Hn1), ⟨by omega, by rw [take_snoc hzz, hze]; exact hyT hb1⟩, (by simp; omega), ?_⟩
      exact weak_tail (F := [_, _]) (F' := [_, _]) (Hj := Hn1) [0, 1] ⟨rfl, rfl, rfl, rfl, rfl, trivial⟩ rfl rfl rfl (by decide) rfl rfl
  · intro hc
    have hi : ¬ x.1 < min a.length b.length := by simp at hc; omega
    refine awp_exit ?_
    exact retq_keep rfl res_nil (.cons _ (.cons _ (.refl _))) ⟨⟨_, rfl⟩, .inl ⟨_, .refl _, by have := hJ.2; rwa [List.take_of_length_le (by simp; omega)] at this⟩⟩

theorem c_merge (p : Prog) (hcom : ∀ x y, ACalls Try.prog 26 [p.av, sA x, sA y] [] (Gives (sA (com p x y)))) (a b : List Fact) (ha : a.length ≤ 1000) (hb : b.length ≤ 1000) : ACalls Try.prog 11 [p.av, .lst (a.map Fact.cells), .lst (b.map Fact.cells)] [] (Gives (.lst ((mergeF (joinBy (com p)) a b).map Fact.cells))) := by
  refine acalls_of (n := 23) Try.func11 rfl (by decide +kernel) rfl rfl ?_
  refine awp_seq ?_
  refine awp_region ?_
  refine aops_n (w0 rfl) rfl (fun id => eff_box id rfl rfl rfl rfl rfl) (fun id1 => ?_)
  refine aops_e (w0 rfl) rfl (eff_assign rfl rfl) ?_
  refine aops_nil ?_
  refine awp_seq ?_
  refine awp_region ?_
  refine aops_n (w0 rfl) rfl (fun id => eff_alloc id rfl rfl rfl) (fun id2 => ?_)
  refine aops_nil ?_
  refine awp_seq ?_
  refine awp_seq ?_
  refine awp_nilcell 0 (qe := 36) (qs := 2) rfl (fun idq => ?_)
  refine awp_region ?_
  refine aops_e (w0 rfl) rfl (eff_move rfl rfl) ?_
  refine aops_e (w0 rfl) rfl (eff_move rfl rfl) ?_
  refine aops_callR (w0 rfl) rfl rfl rfl rfl (c_pairs a b) (fun ch H' hR => by obtain ⟨_, _, h, _⟩ := hR; cases h) (fun y Hy hR => ?_)
  obtain ⟨ia, ib, hR, rfl⟩ := hR
  cases hR
  refine aops_nil ?_
  refine awp_block ?_
  refine awp_rangeFunc (fun q : Fact × Fact => [q.1.av, q.2.av]) (a.zip b) [_, _] [_, _, _] (fun pre Hb => ∃ q, Hb = [(q, .rows 36 2 ((pre.map fun z => joinBy (com p) z.1 z.2).map Fact.cells)), (id2, .rows 28 1 [[.own q 2 0 pre.length]]), (id1, .rows 27 5 [p.cells])]) (fun _ _ _ => False) rfl (.refl _) ⟨idq, rfl⟩ (c_pairsFn a b ha hb ia ib) (fun _ => rfl) (lts rfl) ?_ ?_ ?_
  · rintro l pre z suf Hb hxs ⟨q, rfl⟩
    have hlz : pre.length < 1001 := by have := congrArg List.length hxs; simp at this; omega
    refine awp_seq ?_
    refine awp_region ?_
    refine aops_n (w0 rfl) rfl (fun id => eff_alloc id rfl rfl rfl) (fun id3 => ?_)
    refine aops_store 0 (w0 rfl) rfl rfl rfl rfl rfl rfl rfl rfl rfl ?_
    refine aops_nil ?_
    refine awp_region ?_
    refine aops_n (w0 rfl) rfl (fun id => eff_alloc id rfl rfl rfl) (fun id4 => ?_)
    refine aops_store 0 (w0 rfl) rfl rfl rfl rfl rfl rfl rfl rfl rfl ?_
    refine aops_nil ?_
    refine ⟨rfl, ?_⟩
    refine awp_block ?_
    refine awp_drawN 6 rfl (by kernel_rfl) ?_
    refine calm_load_ptr 3 (w0 rfl) rfl rfl rfl rfl rfl ld_one ?_
    refine calm_load_ptr 4 (w0 rfl) rfl rfl rfl rfl rfl (ld_agg (Nat.le_of_ble_eq_true rfl)) ?_
    refine calm_load_ptr 1 (w0 rfl) rfl rfl rfl rfl rfl (ld_agg (Nat.le_of_ble_eq_true rfl)) ?_
    refine calm_load_ptr 0 (w0 rfl) rfl rfl rfl rfl rfl (ld_agg (Nat.le_of_ble_eq_true rfl)) ?_
    refine calm_e (w0 rfl) rfl (eff_call [] rfl rfl rfl (show ACalls Try.prog 15 [p.av, z.1.av, z.2.av] [] (Gives (Fact.av (joinBy (com p) z.1 z.2))) from c_join p _ _ _ (hcom _ _)) List.nodup_nil) ?_
    refine calm_n (w0 rfl) rfl (fun id => eff_buildSlice id (ps := [(0, .tmp 19)]) rfl rfl rfl rfl rfl rfl rfl rfl) (fun id5 => ?_)
    refine .done ?_
    refine aops_append 3 (w0 rfl) rfl rfl rfl rfl (by simp) rfl ⟨rfl, _, _, List.mem_of_getElem? (i := 0) rfl, by simp, rfl⟩ (by first | omega | (simp; omega) | (simp [maxLen]; omega) | (simp; done) | (simp [maxLen]; done)) (by first | omega | (simp; omega) | (simp [maxLen]; omega) | (simp; done) | (simp [maxLen]; done)) (fun id6 => ?_)
    refine aops_store 4 (w0 rfl) rfl rfl rfl rfl rfl rfl rfl rfl rfl ?_
    refine aops_nil ?_
    exact ⟨⟨[], [_, _, _], [], 23⟩, weak_pick [3, 4, 5] trivial rfl (by decide) rfl rfl, id6, by show [(_, AObj.rows _ _ _), (_, AObj.rows _ _ _), (_, AObj.rows _ _ _)] = [(_, AObj.rows _ _ _), (_, AObj.rows _ _ _), (_, AObj.rows _ _ _)]; simp [cellsA, Fact.av]⟩
  · rintro im Hb ⟨q, rfl⟩
    refine awp_seq ?_
    refine awp_region ?_
    refine aops_load_ptr 1 (w0 rfl) rfl rfl rfl rfl rfl ld_one ?_
    refine aops_e (w0 rfl) rfl (eff_assign rfl rfl) ?_
    refine aops_nil ?_
    refine awp_ret ?_
    exact retq_frz1 (F := [_, _, _]) 0 rfl rfl rfl rfl rfl (by simp) (by rw [mergeF_zip])
  · intro i c pre Hb h; exact h.elim

theorem c_above (p : Prog) (nm : Str) : ACalls Try.prog 41 [p.av, sA nm] [] (AboveR 54 27 5 9 p.cells nm) := by
  refine acalls_of (n := 6) Try.func41 rfl (by decide +kernel) rfl rfl ?_
  refine awp_seq ?_
  refine awp_region ?_
  refine aops_n (w0 rfl) rfl (fun id => eff_box id rfl rfl rfl rfl rfl) (fun id1 => ?_)
  refine aops_n (w0 rfl) rfl (fun id => eff_box id rfl rfl rfl rfl rfl) (fun id2 => ?_)
  refine aops_e (w0 rfl) rfl (eff_assign rfl rfl) ?_
  refine aops_nil ?_
  refine awp_seq ?_
  refine awp_region ?_
  refine aops_e (w0 rfl) rfl (eff_makeFunc rfl rfl) ?_
  refine aops_e (w0 rfl) rfl (eff_assign rfl rfl) ?_
  refine aops_nil ?_
  refine awp_ret ?_
  exact retq_keep rfl (res_tmp rfl res_nil) (.refl _) ⟨id1, id2, rfl, rfl⟩

theorem c_aboveFn (p : Prog) (hb : p.classes.length ≤ 1000) (nm : Str) (i1 i2 : Nat) : SeqA Try.prog 54 [.ptr i1 5 0 0, .ptr i2 1 0 0] [(i2, .rows 9 1 [[sA nm]]), (i1, .rows 27 5 [p.cells])] (fun s : Str => [sA s]) (supers p nm) := by
  refine ⟨⟨_, Try.func54, rfl, by decide +kernel⟩, ?_⟩
  intro id J Jx hY Hj hJ0
  have hbs : small p.classes.length := by unfold small; omega
  refine acalls_of (n := 33) Try.func54 rfl (by decide +kernel) rfl rfl ?_
  refine awp_seq ?_
  refine awp_region ?_
  refine aops_n (w0 rfl) rfl (fun id => eff_makeMap id rfl) (fun id1 => ?_)
  refine aops_e (w0 rfl) rfl (eff_assign rfl rfl) ?_
  refine aops_nil ?_
  refine awp_block ?_
  refine awp_loopJ (α := Str × List Str × AHeap) (fun x => ⟨[(4, .map id1), (0, .yld id), (1, .ptr i1 5 0 0), (2, .ptr i2 1 0 0)], [(id1, .mp (setM x.2.1)), (i2, .rows 9 1 [[sA x.1]]), (i1, .rows 27 5 [p.cells])] ++ x.2.2, [], 33⟩) (fun x => SupJ p nm x.1 x.2.1 ∧ J x.2.1 x.2.2) (fun x => p.classes.length - x.2.1.length) (nm, [], Hj) ⟨SupJ.start p nm, hJ0⟩ ?_ ?_
  · exact weak_tail (F := [_, _, _]) (F' := [_, _, _]) (Hj := Hj) [0, 1, 2] ⟨rfl, rfl, rfl, rfl, trivial⟩ rfl rfl rfl (by decide) rfl rfl
  rintro x hJ
  refine awp_block ?_
  refine awp_seq ?_
  rcases hk : clsFind p x.1 with _ | c
  · skip
    refine awp_region ?_
    refine aops_load_ptr 2 (w0 rfl) rfl rfl rfl rfl rfl (ld_agg (Nat.le_of_ble_eq_true rfl)) ?_
    refine aops_load_ptr 1 (w0 rfl) rfl rfl rfl rfl rfl ld_one ?_
    refine aops_e (w0 rfl) rfl (eff_call [] rfl rfl rfl (c_known p hbs x.1 hk) List.nodup_nil) ?_
    refine aops_e (w0 rfl) rfl (eff_move rfl rfl) ?_
    refine aops_e (w0 rfl) rfl (eff_extract rfl rfl rfl) ?_
    refine aops_e (w0 rfl) rfl (eff_extract rfl rfl rfl) ?_
    refine aops_n (w0 rfl) rfl (fun id => eff_alloc id rfl rfl rfl) (fun id2 => ?_)
    refine aops_store 0 (w0 rfl) rfl rfl rfl rfl rfl rfl rfl rfl rfl ?_
    refine aops_e (w0 rfl) rfl (eff_assign rfl rfl) ?_
    refine aops_nil ?_
    refine awp_seq ?_
    refine awp_seq ?_
    refine awp_region ?_
    refine aops_e (w0 rfl) rfl (eff_move rfl rfl) ?_
    refine aops_e (w0 rfl) rfl (eff_not rfl rfl) ?_
    refine aops_e (w0 rfl) rfl (eff_move rfl rfl) ?_
    refine aops_g (wF rfl rfl rfl rfl) rfl (fun hg => (eff_move rfl rfl)) ?_
    refine aops_gload 2 (wF rfl rfl rfl rfl) rfl rfl (fun hg => rfl) rfl rfl ld_one ?_
    refine aops_ghasS (out := x.2.1) 1 (wF rfl rfl rfl rfl) rfl rfl (fun hg => (ev_g hg rfl)) (fun hg => (ev_g hg rfl)) rfl ?_
    refine aops_e (w0 rfl) rfl (eff_or rfl rfl rfl (fun h => by rw [h]; rfl)) ?_
    refine aops_e (w0 rfl) rfl (eff_move rfl rfl) ?_
    refine aops_g (wF rfl rfl rfl rfl) rfl (fun hg => (eff_move rfl rfl)) ?_
    refine aops_gload 2 (wF rfl rfl rfl rfl) rfl rfl (fun hg => rfl) rfl rfl ld_one ?_
    refine aops_gyieldB (J := J) (Jx := Jx) (l := x.2.1 ++ [x.1]) [_, _, _, _] x.2.2 (wF rfl rfl rfl rfl) rfl rfl (fun hg => (ev_g hg rfl)) (fun hg => (evs_cons (ev_g hg rfl) evs_nil)) rfl (fun hg => (by first | (exfalso; simp at hg; done) | (have hin : inL x.2.1 x.1 = false := (by simpa using hg); obtain ⟨suf, hsuf⟩ := hJ.1.pre hk hin; exact hY _ _ suf _ hsuf hJ.2))) (fun bY Hn3 hyT hyF hyN => ?_)
    refine aops_g (wF rfl rfl rfl rfl) rfl (fun hg => (eff_not rfl (ev_g hg rfl))) ?_
    refine aops_e (w0 rfl) rfl (eff_or rfl rfl rfl (fun h => by rw [h]; rfl)) ?_
    refine aops_nil ?_
    refine awp_cond rfl ?_ ?_
    · intro hc
      refine awp_ret ?_
      exact retq_keep rfl res_nil (.cons _ (.cons _ (.cons _ (.cons _ (.refl _))))) ⟨⟨_, rfl⟩, .inl ⟨_, .refl _, by rw [hyN rfl, ← hJ.1.none hk]; exact hJ.2⟩⟩
    · intro hc
      simp at hc
  · skip
    refine awp_region ?_
    refine aops_load_ptr 2 (w0 rfl) rfl rfl rfl rfl rfl (ld_agg (Nat.le_of_ble_eq_true rfl)) ?_
    refine aops_load_ptr 1 (w0 rfl) rfl rfl rfl rfl rfl ld_one ?_
    refine aops_e (w0 rfl) rfl (eff_call [] rfl rfl rfl (c_known p hbs x.1 hk) List.nodup_nil) ?_
    refine aops_e (w0 rfl) rfl (eff_move rfl rfl) ?_
    refine aops_e (w0 rfl) rfl (eff_extract rfl rfl rfl) ?_
    refine aops_e (w0 rfl) rfl (eff_extract rfl rfl rfl) ?_
    refine aops_n (w0 rfl) rfl (fun id => eff_alloc id rfl rfl rfl) (fun id4 => ?_)
    refine aops_store 0 (w0 rfl) rfl rfl rfl rfl rfl rfl rfl rfl rfl ?_
    refine aops_e (w0 rfl) rfl (eff_assign rfl rfl) ?_
    refine aops_nil ?_
    refine awp_seq ?_
    refine awp_seq ?_
    refine awp_region ?_
    refine aops_e (w0 rfl) rfl (eff_move rfl rfl) ?_
    refine aops_e (w0 rfl) rfl (eff_not rfl rfl) ?_
    refine aops_e (w0 rfl) rfl (eff_move rfl rfl) ?_
    refine aops_g (wF rfl rfl rfl rfl) rfl (fun hg => (eff_move rfl rfl)) ?_
    refine aops_gload 2 (wF rfl rfl rfl rfl) rfl rfl (fun hg => rfl) rfl rfl ld_one ?_
    refine aops_ghasS (out := x.2.1) 1 (wF rfl rfl rfl rfl) rfl rfl (fun hg => (ev_g hg rfl)) (fun hg => (ev_g hg rfl)) rfl ?_
    refine aops_e (w0 rfl) rfl (eff_or rfl rfl rfl (fun h => by rw [h]; rfl)) ?_
    refine aops_e (w0 rfl) rfl (eff_move rfl rfl) ?_
    refine aops_g (wF rfl rfl rfl rfl) rfl (fun hg => (eff_move rfl rfl)) ?_
    refine aops_gload 2 (wF rfl rfl rfl rfl) rfl rfl (fun hg => rfl) rfl rfl ld_one ?_
    refine aops_gyieldB (J := J) (Jx := Jx) (l := x.2.1 ++ [x.1]) [_, _, _, _] x.2.2 (wF rfl rfl rfl rfl) rfl rfl (fun hg => (ev_g hg rfl)) (fun hg => (evs_cons (ev_g hg rfl) evs_nil)) rfl (fun hg => (by first | (exfalso; simp at hg; done) | (have hin : inL x.2.1 x.1 = false := (by simpa using hg); obtain ⟨suf, hsuf⟩ := hJ.1.pre hk hin; exact hY _ _ suf _ hsuf hJ.2))) (fun bY Hn5 hyT hyF hyN => ?_)
    refine aops_g (wF rfl rfl rfl rfl) rfl (fun hg => (eff_not rfl (ev_g hg rfl))) ?_
    refine aops_e (w0 rfl) rfl (eff_or rfl rfl rfl (fun h => by rw [h]; rfl)) ?_
    refine aops_nil ?_
    refine awp_cond rfl ?_ ?_
    · intro hc
      have hcn := (clsFind_name hk).1
      refine awp_ret ?_
      exact retq_keep rfl res_nil (.cons _ (.cons _ (.cons _ (.cons _ (.refl _))))) ⟨⟨_, rfl⟩, (by cases hin : inL x.2.1 x.1 with | true => exact .inl ⟨_, .refl _, by rw [hyN (by simp [hin]), ← hJ.1.had hk (by rw [hcn]; exact hin)]; exact hJ.2⟩ | false => exact .inr ⟨_, _, .refl _, hyF (by simp [hin]) (by simpa [hin] using hc)⟩)⟩
    · intro hc
      have hcn := (clsFind_name hk).1
      have hin : inL x.2.1 x.1 = false := by cases h : inL x.2.1 x.1 <;> simp [h] at hc ⊢
      have hin' : inL x.2.1 c.name = false := by rw [hcn]; exact hin
      have hin1 : (!((!true) || inL x.2.1 x.1)) = true := by simp [hin]
      have hin2 : bY = true := by simpa [hin] using hc
      refine awp_skip ?_
      refine awp_seq ?_
      refine awp_region ?_
      refine aops_e (w0 rfl) rfl (eff_move rfl rfl) ?_
      refine aops_load_ptr 2 (w0 rfl) rfl rfl rfl rfl rfl ld_one ?_
      refine aops_putS (out := x.2.1) 1 (w0 rfl) rfl rfl rfl rfl rfl rfl hin ?_
      refine aops_nil ?_
      refine awp_seq ?_
      refine awp_region ?_
      refine aops_e (w0 rfl) rfl (eff_fieldAddr rfl rfl rfl) ?_
      refine aops_load_ptr 0 (w0 rfl) rfl rfl rfl rfl rfl ld_one ?_
      refine aops_store 2 (w0 rfl) rfl rfl rfl rfl rfl rfl rfl rfl rfl ?_
      refine aops_nil ?_
      refine awp_seq ?_
      refine awp_region ?_
      refine aops_load_ptr 2 (w0 rfl) rfl rfl rfl rfl rfl ld_one ?_
      refine aops_e (w0 rfl) rfl (eff_scmp rfl rfl rfl rfl) ?_
      refine aops_nil ?_
      refine awp_cond rfl ?_ ?_
      · intro hc
        have hs : beqS c.super zS = true := hc
        refine awp_ret ?_
        exact retq_keep rfl res_nil (.cons _ (.cons _ (.cons _ (.cons _ (.refl _))))) ⟨⟨_, rfl⟩, .inl ⟨_, .refl _, by rw [← hJ.1.top hk hin' hs, hcn]; exact hyT hin1 hin2⟩⟩
      · intro hc
        have hs : beqS c.super zS = false := hc
        refine awp_skip ?_
        refine ⟨(c.super, x.2.1 ++ [x.1], Hn5), ⟨by have := hJ.1.next hk hin' hs; rwa [hcn] at this, hyT hin1 hin2⟩, (by have := hJ.1.lt hk hin'; simp; omega), ?_⟩
        exact weak_tail (F := [_, _, _, _]) (F' := [_, _, _]) (Hj := Hn5) [1, 2, 3] ⟨rfl, rfl, rfl, rfl, trivial⟩ rfl rfl rfl (by decide) rfl rfl

theorem c_appendSeq (g : Nat) (caps : List AV) (Hit : AHeap) (xs : List Str) (hx : xs.length ≤ 1000) (hseq : SeqA Try.prog g caps Hit (fun s : Str => [sA s]) xs) : ACalls Try.prog 63 [.v (.slice none 0 0), .fn (.func g) caps] Hit (Gives (row1 sA xs)) := by
  refine acalls_of (n := 13) Try.func63 rfl (by decide +kernel) rfl rfl ?_
  refine awp_seq ?_
  refine awp_region ?_
  refine aops_n (w0 rfl) rfl (fun id => eff_box id rfl rfl rfl rfl rfl) (fun id1 => ?_)
  refine aops_e (w0 rfl) rfl (eff_assign rfl rfl) ?_
  refine aops_nil ?_
  refine awp_seq ?_
  refine awp_seq ?_
  refine awp_nilcell 0 (qe := 9) (qs := 1) rfl (fun idq => ?_)
  refine awp_region ?_
  refine aops_e (w0 rfl) rfl (eff_move rfl rfl) ?_
  refine aops_nil ?_
  refine awp_block ?_
  refine awp_rangeFunc (fun s : Str => [sA s]) (xs) Hit [_, _] (fun pre Hb => ∃ q, Hb = [(q, .rows 9 1 (pre.map fun x => [sA x])), (id1, .rows 23 1 [[.own q 1 0 pre.length]])]) (fun _ _ _ => False) rfl (List.perm_append_comm (l₁ := [_, _])) ⟨idq, rfl⟩ (hseq) (fun _ => rfl) (lts rfl) ?_ ?_ ?_
  · rintro l pre z suf Hb hxs ⟨q, rfl⟩
    have hlz : pre.length < 1001 := by have := congrArg List.length hxs; simp at this; omega
    refine awp_region ?_
    refine aops_e (w0 rfl) rfl (eff_assign rfl rfl) ?_
    refine aops_nil ?_
    refine ⟨rfl, ?_⟩
    refine awp_block ?_
    refine awp_region ?_
    refine aops_load_ptr 1 (w0 rfl) rfl rfl rfl rfl rfl ld_one ?_
    refine aops_e (w0 rfl) rfl (eff_move rfl rfl) ?_
    refine aops_n (w0 rfl) rfl (fun id => eff_buildSlice id (ps := [(0, .tmp 9)]) rfl rfl rfl rfl rfl rfl rfl rfl) (fun id2 => ?_)
    refine aops_append 1 (w0 rfl) rfl rfl rfl rfl (by simp) rfl ⟨rfl, _, _, List.mem_of_getElem? (i := 0) rfl, by simp, rfl⟩ (by first | omega | (simp; omega) | (simp [maxLen]; omega) | (simp; done) | (simp [maxLen]; done)) (by first | omega | (simp; omega) | (simp [maxLen]; omega) | (simp; done) | (simp [maxLen]; done)) (fun id3 => ?_)
    refine aops_store 2 (w0 rfl) rfl rfl rfl rfl rfl rfl rfl rfl rfl ?_
    refine aops_nil ?_
    exact ⟨⟨[], [_, _], [], 13⟩, weak_pick [1, 2] trivial rfl (by decide) rfl rfl, id3, by show [(_, AObj.rows _ _ _), (_, AObj.rows _ _ _)] = [(_, AObj.rows _ _ _), (_, AObj.rows _ _ _)]; simp [cellsA]⟩
  · rintro im Hb ⟨q, rfl⟩
    refine awp_seq ?_
    refine awp_region ?_
    refine aops_load_ptr 1 (w0 rfl) rfl rfl rfl rfl rfl ld_one ?_
    refine aops_e (w0 rfl) rfl (eff_assign rfl rfl) ?_
    refine aops_nil ?_
    refine awp_ret ?_
    exact retq_frz1 (F := [_, _]) 0 rfl rfl rfl rfl rfl (by simp) rfl
  · intro i c pre Hb h; exact h.elim

theorem c_collect (g : Nat) (caps : List AV) (Hit : AHeap) (xs : List Str) (hx : xs.length ≤ 1000) (hseq : SeqA Try.prog g caps Hit (fun s : Str => [sA s]) xs) : ACalls Try.prog 53 [.fn (.func g) caps] Hit (Gives (row1 sA xs)) := by
  refine acalls_of (n := 5) Try.func53 rfl (by decide +kernel) rfl rfl ?_
  refine awp_seq ?_
  refine awp_region ?_
  refine aops_e (w0 rfl) rfl (eff_assign rfl rfl) ?_
  refine aops_nil ?_
  refine awp_seq ?_
  refine awp_region ?_
  refine aops_e (w0 rfl) rfl (eff_move rfl rfl) ?_
  refine aops_callA Hit [] (w0 rfl) rfl rfl rfl rfl (by simp) (c_appendSeq g caps Hit xs hx hseq) (fun ch H' hR => by cases hR.1) (fun y Hy hR => ?_)
  obtain ⟨hR1, rfl⟩ := hR
  cases hR1
  refine aops_e (w0 rfl) rfl (eff_assign rfl rfl) ?_
  refine aops_nil ?_
  refine awp_ret ?_
  exact retq rfl (res_tmp rfl res_nil) (gv rfl)

theorem c_supers (p : Prog) (hb : p.classes.length ≤ 1000) (nm : Str) : ACalls Try.prog 40 [p.av, sA nm] [] (Gives (row1 sA (supers p nm))) := by
  have hsl := supers_len p nm
  refine acalls_of (n := 9) Try.func40 rfl (by decide +kernel) rfl rfl ?_
  refine awp_seq ?_
  refine awp_region ?_
  refine aops_n (w0 rfl) rfl (fun id => eff_box id rfl rfl rfl rfl rfl) (fun id1 => ?_)
  refine aops_e (w0 rfl) rfl (eff_assign rfl rfl) ?_
  refine aops_nil ?_
  refine awp_seq ?_
  refine awp_region ?_
  refine aops_load_ptr 0 (w0 rfl) rfl rfl rfl rfl rfl (ld_agg (Nat.le_of_ble_eq_true rfl)) ?_
  refine aops_e (w0 rfl) rfl (eff_move rfl rfl) ?_
  refine aops_callR (w0 rfl) rfl rfl rfl rfl (c_above p nm) (fun ch H' hR => by obtain ⟨_, _, h, _⟩ := hR; cases h) (fun y Hy hR => ?_)
  obtain ⟨ia, ib, hR, rfl⟩ := hR
  cases hR
  refine aops_callA [_, _] [_] (w0 rfl) rfl rfl rfl rfl (.refl _) (c_collect 54 _ _ (supers p nm) (by omega) (c_aboveFn p hb nm ia ib)) (fun ch H' hR => by cases hR.1) (fun y Hy hR => ?_)
  obtain ⟨hR1, rfl⟩ := hR
  cases hR1
  refine aops_e (w0 rfl) rfl (eff_assign rfl rfl) ?_
  refine aops_nil ?_
  refine awp_ret ?_
  exact retq rfl (res_tmp rfl res_nil) (gv rfl)

theorem c_common (p : Prog) (hb : p.classes.length ≤ 1000) (a b : Str) : ACalls Try.prog 26 [p.av, sA a, sA b] [] (Gives (sA (com p a b))) := by
  have hbs : small p.classes.length := by unfold small; omega
  have hsb := supers_len p b
  refine acalls_of (n := 33) Try.func26 rfl (by decide +kernel) rfl rfl ?_
  refine awp_seq ?_
  refine awp_region ?_
  refine aops_n (w0 rfl) rfl (fun id => eff_box id rfl rfl rfl rfl rfl) (fun id1 => ?_)
  refine aops_n (w0 rfl) rfl (fun id => eff_alloc id rfl rfl rfl) (fun id2 => ?_)
  refine aops_nil ?_
  refine awp_seq ?_
  refine awp_seq ?_
  refine awp_region ?_
  refine aops_e (w0 rfl) rfl (eff_move rfl rfl) ?_
  refine aops_e (w0 rfl) rfl (eff_move rfl rfl) ?_
  refine aops_e (w0 rfl) rfl (eff_scmp rfl rfl rfl rfl) ?_
  refine aops_e (w0 rfl) rfl (eff_move rfl rfl) ?_
  refine aops_gload 1 (wT rfl rfl rfl rfl) rfl rfl (fun hg => rfl) rfl rfl (ld_agg (Nat.le_of_ble_eq_true rfl)) ?_
  refine aops_g (wT rfl rfl rfl rfl) rfl (fun hg => (eff_move rfl rfl)) ?_
  refine aops_g (wT rfl rfl rfl rfl) rfl (fun hg => (eff_call [] rfl rfl (evs_cons (ev_g hg rfl) (evs_cons (ev_g hg rfl) evs_nil)) (c_iface p hbs a) List.nodup_nil)) ?_
  refine aops_g (wT rfl rfl rfl rfl) rfl (fun hg => (eff_move rfl (ev_g hg rfl))) ?_
  refine aops_gload 1 (wFg rfl rfl rfl rfl) rfl rfl (fun hg => rfl) rfl rfl (ld_agg (Nat.le_of_ble_eq_true rfl)) ?_
  refine aops_g (wFg rfl rfl rfl rfl) rfl (fun hg => (eff_move rfl rfl)) ?_
  refine aops_g (wFg rfl rfl rfl rfl) rfl (fun hg => (eff_call [] rfl rfl (evs_cons (ev_g hg rfl) (evs_cons (ev_g hg rfl) evs_nil)) (c_iface p hbs b) List.nodup_nil)) ?_
  refine aops_g (wT rfl rfl rfl rfl) rfl (fun hg => (eff_or rfl (ev_g hg rfl) rfl (fun h => by first | (simp [h, hg]; done) | (simp_all; done)))) ?_
  refine aops_e (w0 rfl) rfl (eff_and rfl rfl rfl (fun h => h)) ?_
  refine aops_nil ?_
  refine awp_cond rfl ?_ ?_
  · intro hc
    have hq : (!beqS a b && (ifaceP p a || ifaceP p b)) = true := hc
    refine awp_seq ?_
    refine awp_region ?_
    refine aops_store 0 (w0 rfl) rfl rfl rfl rfl rfl rfl rfl rfl rfl ?_
    refine aops_nil ?_
    refine awp_ret ?_
    exact retq rfl (res_cell 0 rfl rfl rfl ld_one res_nil) (gs (by unfold com; rw [hq]; rfl))
  · intro hc
    have hq : (!beqS a b && (ifaceP p a || ifaceP p b)) = false := hc
    have hcom : com p a b = comF (supers p a) (supers p b) := by unfold com; rw [hq]; rfl
    refine awp_skip ?_
    refine awp_seq ?_
    refine awp_region ?_
    refine aops_load_ptr 1 (w0 rfl) rfl rfl rfl rfl rfl (ld_agg (Nat.le_of_ble_eq_true rfl)) ?_
    refine aops_e (w0 rfl) rfl (eff_move rfl rfl) ?_
    refine aops_e (w0 rfl) rfl (eff_call [] rfl rfl rfl (c_supers p hb b) List.nodup_nil) ?_
    refine aops_n (w0 rfl) rfl (fun id => eff_alloc id rfl rfl rfl) (fun id3 => ?_)
    refine aops_store 0 (w0 rfl) rfl rfl rfl rfl rfl rfl rfl rfl rfl ?_
    refine aops_nil ?_
    refine awp_seq ?_
    refine awp_seq ?_
    refine awp_region ?_
    refine aops_load_ptr 2 (w0 rfl) rfl rfl rfl rfl rfl (ld_agg (Nat.le_of_ble_eq_true rfl)) ?_
    refine aops_e (w0 rfl) rfl (eff_move rfl rfl) ?_
    refine aops_callR (w0 rfl) rfl rfl rfl rfl (c_above p a) (fun ch H' hR => by obtain ⟨_, _, h, _⟩ := hR; cases h) (fun y Hy hR => ?_)
    obtain ⟨ia, ib, hR, rfl⟩ := hR
    cases hR
    refine aops_nil ?_
    refine awp_block ?_
    refine awp_rangeFunc (fun s : Str => [sA s]) (supers p a) [_, _] [_, _, _] (fun pre Hb => Hb = [(id3, .rows 23 1 [[row1 sA (supers p b)]]), (id2, .rows 9 1 [[sA zS]]), (id1, .rows 27 5 [p.cells])] ∧ ∀ x, x ∈ pre → inL (supers p b) x = false) (fun c _ Hb => c = .ret ∧ Hb = [(id3, .rows 23 1 [[row1 sA (supers p b)]]), (id2, .rows 9 1 [[sA (com p a b)]]), (id1, .rows 27 5 [p.cells])]) rfl (.refl _) ⟨rfl, nofun⟩ (c_aboveFn p hb a ia ib) (fun _ => rfl) (lts rfl) ?_ ?_ ?_
    · rintro l pre z suf Hb hxs ⟨rfl, hpre⟩
      refine awp_region ?_
      refine aops_e (w0 rfl) rfl (eff_assign rfl rfl) ?_
      refine aops_nil ?_
      refine ⟨rfl, ?_⟩
      refine awp_block ?_
      refine awp_seq ?_
      refine awp_region ?_
      refine aops_load_ptr 0 (w0 rfl) rfl rfl rfl rfl rfl ld_one ?_
      refine aops_e (w0 rfl) rfl (eff_move rfl rfl) ?_
      refine aops_e (w0 rfl) rfl (eff_call [] rfl rfl rfl (c_contains (supers p b) (by unfold small; omega) z) List.nodup_nil) ?_
      refine aops_nil ?_
      refine awp_cond rfl ?_ ?_
      · intro hc
        have hc : inL (supers p b) z = true := hc
        refine awp_seq ?_
        refine awp_region ?_
        refine aops_e (w0 rfl) rfl (eff_move rfl rfl) ?_
        refine aops_store 1 (w0 rfl) rfl rfl rfl rfl rfl rfl rfl rfl rfl ?_
        refine aops_nil ?_
        refine awp_ret ?_
        exact ⟨⟨[], [_, _, _], [], 33⟩, weak_pick [0, 1, 2] trivial rfl (by decide) rfl rfl, rfl, by rw [hcom, hxs, comF_at hpre hc]; rfl⟩
      · intro hc
        have hc : inL (supers p b) z = false := hc
        refine awp_skip ?_
        exact ⟨⟨[], [_, _, _], [], 33⟩, weak_pick [0, 1, 2] trivial rfl (by decide) rfl rfl, rfl, fun x hx => by rcases List.mem_append.1 hx with hx | hx; exact hpre x hx; rw [List.mem_singleton.1 hx]; exact hc⟩
    · rintro im Hb ⟨rfl, hpre⟩
      refine awp_seq ?_
      refine awp_region ?_
      refine aops_store 1 (w0 rfl) rfl rfl rfl rfl rfl rfl rfl rfl rfl ?_
      refine aops_nil ?_
      refine awp_ret ?_
      exact retq1 (F := [_, _, _]) rfl rfl (res_cell 1 rfl rfl rfl ld_one res_nil) (List.nil_sublist _) (gs (by rw [hcom, comF_none hpre]; rfl))
    · rintro im c pre Hb ⟨rfl, rfl⟩
      refine awp_ret ?_
      exact retq1 (F := [_, _, _]) rfl rfl (res_cell 1 rfl rfl rfl ld_one res_nil) (List.nil_sublist _) (gvr rfl)

theorem c_ancestors (p : Prog) (hb : p.classes.length ≤ 1000) (hif : ∀ c, c ∈ p.classes → c.ifaces.length ≤ 1000) (nm : Str) : ACalls Try.prog 43 [p.av, sA nm] [] (MapR p nm) := by
  have hbs : small p.classes.length := by unfold small; omega
  refine acalls_of (n := 47) Try.func43 rfl (by decide +kernel) rfl rfl ?_
  refine awp_seq ?_
  refine awp_region ?_
  refine aops_n (w0 rfl) rfl (fun id => eff_box id rfl rfl rfl rfl rfl) (fun id1 => ?_)
  refine aops_e (w0 rfl) rfl (eff_assign rfl rfl) ?_
  refine aops_nil ?_
  refine awp_scope ?_
  refine awp_seq ?_
  refine awp_region ?_
  refine aops_n (w0 rfl) rfl (fun id => eff_makeMap id rfl) (fun id2 => ?_)
  refine aops_e (w0 rfl) rfl (eff_assign rfl rfl) ?_
  refine aops_nil ?_
  refine awp_seq ?_
  refine awp_region ?_
  refine aops_e (w0 rfl) rfl (eff_move rfl rfl) ?_
  refine aops_n (w0 rfl) rfl (fun id => eff_buildSlice id (ps := [(0, .tmp 11)]) rfl rfl rfl rfl rfl rfl rfl rfl) (fun id3 => ?_)
  refine aops_e (w0 rfl) rfl (eff_assign rfl rfl) ?_
  refine aops_nil ?_
  refine awp_seq ?_
  refine awp_label ?_
  refine awp_seq ?_
  refine awp_block ?_
  refine awp_loopJ (α := Nat × List Str × List Str) (fun x => ⟨[(6, .own x.1 1 0 x.2.1.length), (5, .map id2), (2, .ptr id1 5 0 0)], [(x.1, .rows 9 1 (x.2.1.map fun x => [sA x])), (id2, .mp (setM x.2.2)), (id1, .rows 27 5 [p.cells])], [], 47⟩) (fun x => AncJ p nm x.2.1 x.2.2 ∧ x.2.1.length ≤ 1 + 1001 * x.2.2.length) (fun x => (p.classes.length - x.2.2.length) * 1002 + x.2.1.length) (id3, [nm], []) ⟨AncJ.start p nm, by simp⟩ ?_ ?_
  · exact weak_pick [0, 1, 2] ⟨rfl, rfl, rfl, trivial⟩ rfl (by decide) rfl rfl
  rintro x hJ
  have hol := hJ.1.len
  have htl := hJ.2
  refine awp_seq ?_
  refine awp_seq ?_
  refine awp_region ?_
  refine aops_e (w0 rfl) rfl (eff_move rfl rfl) ?_
  refine aops_e (w0 rfl) rfl (eff_len rfl rfl rfl rfl) ?_
  refine aops_e (w0 rfl) rfl (eff_icmp rfl rfl rfl rfl) ?_
  refine aops_nil ?_
  refine awp_cond rfl ?_ ?_
  · intro hc
    have hpos : 0 < x.2.1.length := by simpa using hc
    obtain ⟨t, sx, ht⟩ : ∃ t sx, x.2.1 = t ++ [sx] := by rcases List.eq_nil_or_concat x.2.1 with h | ⟨t, sx, h⟩; rw [h] at hpos; simp at hpos; exact ⟨t, sx, by simpa using h⟩
    have htn : x.2.1.length = t.length + 1 := by rw [ht]; simp
    refine awp_skip ?_
    refine awp_block ?_
    refine awp_seq ?_
    refine awp_region ?_
    refine aops_e (w0 rfl) rfl (eff_move rfl rfl) ?_
    refine aops_e (w0 rfl) rfl (eff_move rfl rfl) ?_
    refine aops_e (w0 rfl) rfl (eff_len rfl rfl rfl rfl) ?_
    refine aops_e (w0 rfl) rfl (eff_arith rfl rfl rfl (arith_sub (by first | omega | (simp only [List.length_map]; omega)))) ?_
    refine aops_e (w0 rfl) rfl (eff_indexAddr_ownN t.length rfl rfl rfl (by first | omega | (simp only [List.length_map]; omega)) (by first | omega | (simp only [List.length_map]; omega)) (by simp only [List.length_map, htn]; omega)) ?_
    refine aops_load_ptr 0 (w0 rfl) rfl rfl rfl rfl (last_get ht rfl) ld_one ?_
    refine aops_e (w0 rfl) rfl (eff_assign rfl rfl) ?_
    refine aops_nil ?_
    refine awp_seq ?_
    refine awp_region ?_
    refine aops_e (w0 rfl) rfl (eff_move rfl rfl) ?_
    refine aops_e (w0 rfl) rfl (eff_move rfl rfl) ?_
    refine aops_e (w0 rfl) rfl (eff_len rfl rfl rfl rfl) ?_
    refine aops_e (w0 rfl) rfl (eff_arith rfl rfl rfl (arith_sub (by first | omega | (simp only [List.length_map]; omega)))) ?_
    refine aops_e (w0 rfl) rfl (eff_sliceTo_own rfl rfl rfl (by first | omega | (simp only [List.length_map]; omega)) (by first | omega | (simp only [List.length_map]; omega))) ?_
    refine aops_e (w0 rfl) rfl (eff_assign rfl rfl) ?_
    refine aops_nil ?_
    refine awp_seq ?_
    refine opt_cases (clsFind p sx) (fun hk => ?_) (fun c hk => ?_)
    · skip
      refine awp_weak (weak_shrink (m := x.2.1.length - 1) 0 rfl) ?_
      refine awp_region ?_
      refine aops_load_ptr 2 (w0 rfl) rfl rfl rfl rfl rfl (ld_agg (Nat.le_of_ble_eq_true rfl)) ?_
      refine aops_e (w0 rfl) rfl (eff_move rfl rfl) ?_
      refine aops_e (w0 rfl) rfl (eff_call [] rfl rfl rfl (c_known p hbs sx hk) List.nodup_nil) ?_
      refine aops_e (w0 rfl) rfl (eff_move rfl rfl) ?_
      refine aops_e (w0 rfl) rfl (eff_extract rfl rfl rfl) ?_
      refine aops_e (w0 rfl) rfl (eff_extract rfl rfl rfl) ?_
      refine aops_n (w0 rfl) rfl (fun id => eff_alloc id rfl rfl rfl) (fun id4 => ?_)
      refine aops_store 0 (w0 rfl) rfl rfl rfl rfl rfl rfl rfl rfl rfl ?_
      refine aops_e (w0 rfl) rfl (eff_assign rfl rfl) ?_
      refine aops_nil ?_
      refine awp_seq ?_
      refine awp_seq ?_
      refine awp_region ?_
      refine aops_e (w0 rfl) rfl (eff_move rfl rfl) ?_
      refine aops_e (w0 rfl) rfl (eff_not rfl rfl) ?_
      refine aops_e (w0 rfl) rfl (eff_move rfl rfl) ?_
      refine aops_g (wF rfl rfl rfl rfl) rfl (fun hg => (eff_move rfl rfl)) ?_
      refine aops_g (wF rfl rfl rfl rfl) rfl (fun hg => (eff_move rfl rfl)) ?_
      refine aops_ghasS (out := x.2.2) 2 (wF rfl rfl rfl rfl) rfl rfl (fun hg => (ev_g hg rfl)) (fun hg => (ev_g hg rfl)) rfl ?_
      refine aops_e (w0 rfl) rfl (eff_or rfl rfl rfl (fun h => by rw [h]; rfl)) ?_
      refine aops_nil ?_
      refine awp_cond rfl ?_ ?_
      · intro hc
        have hsk : clsFind p sx = none ∨ sx ∈ x.2.2 := .inl hk
        refine awp_exit ?_
        refine ⟨(x.1, t, x.2.2), ⟨(by rw [ht] at hJ; exact hJ.1.skip hsk), (by have := hJ.2; rw [ht] at this; simp at this ⊢; omega)⟩, (by simp [ht]), ?_⟩
        exact weak_pick [1, 2, 3] ⟨(by show some (AV.own _ _ _ _) = some (AV.own _ _ _ _); simp [ht]), rfl, rfl, trivial⟩ (by show some [(_, AObj.rows _ _ _), _, _] = some [(_, AObj.rows _ _ _), _, _]; simp [ht, cellsA]) (by decide) rfl rfl
      · intro hc
        simp at hc
    · skip
      have hul := upC_len (hif c (clsFind_name hk).2)
      refine awp_weak (weak_shrink (m := x.2.1.length - 1) 0 rfl) ?_
      refine awp_region ?_
      refine aops_load_ptr 2 (w0 rfl) rfl rfl rfl rfl rfl (ld_agg (Nat.le_of_ble_eq_true rfl)) ?_
      refine aops_e (w0 rfl) rfl (eff_move rfl rfl) ?_
      refine aops_e (w0 rfl) rfl (eff_call [] rfl rfl rfl (c_known p hbs sx hk) List.nodup_nil) ?_
      refine aops_e (w0 rfl) rfl (eff_move rfl rfl) ?_
      refine aops_e (w0 rfl) rfl (eff_extract rfl rfl rfl) ?_
      refine aops_e (w0 rfl) rfl (eff_extract rfl rfl rfl) ?_
      refine aops_n (w0 rfl) rfl (fun id => eff_alloc id rfl rfl rfl) (fun id5 => ?_)
      refine aops_store 0 (w0 rfl) rfl rfl rfl rfl rfl rfl rfl rfl rfl ?_
      refine aops_e (w0 rfl) rfl (eff_assign rfl rfl) ?_
      refine aops_nil ?_
      refine awp_seq ?_
      refine awp_seq ?_
      refine awp_region ?_
      refine aops_e (w0 rfl) rfl (eff_move rfl rfl) ?_
      refine aops_e (w0 rfl) rfl (eff_not rfl rfl) ?_
      refine aops_e (w0 rfl) rfl (eff_move rfl rfl) ?_
      refine aops_g (wF rfl rfl rfl rfl) rfl (fun hg => (eff_move rfl rfl)) ?_
      refine aops_g (wF rfl rfl rfl rfl) rfl (fun hg => (eff_move rfl rfl)) ?_
      refine aops_ghasS (out := x.2.2) 2 (wF rfl rfl rfl rfl) rfl rfl (fun hg => (ev_g hg rfl)) (fun hg => (ev_g hg rfl)) rfl ?_
      refine aops_e (w0 rfl) rfl (eff_or rfl rfl rfl (fun h => by rw [h]; rfl)) ?_
      refine aops_nil ?_
      refine awp_cond rfl ?_ ?_
      · intro hc
        have hsk : clsFind p sx = none ∨ sx ∈ x.2.2 := .inr (inL_mem.1 (by simpa using hc))
        refine awp_exit ?_
        refine ⟨(x.1, t, x.2.2), ⟨(by rw [ht] at hJ; exact hJ.1.skip hsk), (by have := hJ.2; rw [ht] at this; simp at this ⊢; omega)⟩, (by simp [ht]), ?_⟩
        exact weak_pick [1, 2, 3] ⟨(by show some (AV.own _ _ _ _) = some (AV.own _ _ _ _); simp [ht]), rfl, rfl, trivial⟩ (by show some [(_, AObj.rows _ _ _), _, _] = some [(_, AObj.rows _ _ _), _, _]; simp [ht, cellsA]) (by decide) rfl rfl
      · intro hc
        have hnin : sx ∉ x.2.2 := inL_false.1 (by simpa using hc)
        have hlt := (show AncJ p nm (t ++ [sx]) x.2.2 from ht ▸ hJ.1).lt hk hnin
        refine awp_skip ?_
        refine awp_seq ?_
        refine awp_region ?_
        refine aops_e (w0 rfl) rfl (eff_move rfl rfl) ?_
        refine aops_e (w0 rfl) rfl (eff_move rfl rfl) ?_
        refine aops_putS (out := x.2.2) 2 (w0 rfl) rfl rfl rfl rfl rfl rfl (inL_false.2 hnin) ?_
        refine aops_nil ?_
        refine awp_region ?_
        refine aops_e (w0 rfl) rfl (eff_move rfl rfl) ?_
        refine aops_load_ptr 0 (w0 rfl) rfl rfl rfl rfl rfl (ld_agg (Nat.le_of_ble_eq_true rfl)) ?_
        refine aops_e (w0 rfl) rfl (eff_call [] rfl rfl rfl (c_up c (hif c (clsFind_name hk).2)) List.nodup_nil) ?_
        refine aops_append 1 (w0 rfl) rfl rfl rfl rfl (by simp) rfl ⟨rfl, len_map (fun _ => rfl)⟩ (by first | omega | (simp; omega) | (simp [maxLen]; omega) | (simp; done) | (simp [maxLen]; done)) (by first | omega | (simp; omega) | (simp [maxLen]; omega) | (simp; done) | (simp [maxLen]; done)) (fun id6 => ?_)
        refine aops_e (w0 rfl) rfl (eff_assign rfl rfl) ?_
        refine aops_nil ?_
        refine ⟨(id6, t ++ upC c, x.2.2 ++ [sx]), ⟨(by rw [ht] at hJ; exact hJ.1.add hk hnin), (by have := hJ.2; rw [ht] at this; simp at this ⊢; omega)⟩, (by simp [ht]; omega), ?_⟩
        exact weak_pick [1, 2, 3] ⟨(by show some (AV.own _ _ _ _) = some (AV.own _ _ _ _); simp [ht]), rfl, rfl, trivial⟩ (by show some [(_, AObj.rows _ _ _), _, _] = some [(_, AObj.rows _ _ _), _, _]; simp [ht, cellsA]) (by decide) rfl rfl
  · intro hc
    have h0 : ¬ 0 < x.2.1.length := by simpa using hc
    have hz : x.2.1 = [] := List.eq_nil_of_length_eq_zero (by omega)
    refine awp_exit ?_
    refine awp_seq ?_
    refine awp_region ?_
    refine aops_e (w0 rfl) rfl (eff_move rfl rfl) ?_
    refine aops_e (w0 rfl) rfl (eff_assign rfl rfl) ?_
    refine aops_nil ?_
    refine awp_ret ?_
    exact retq_keep rfl (res_tmp rfl res_nil) (.cons _ (.cons_cons _ (List.nil_sublist _))) ⟨id2, x.2.2, rfl, rfl, fun s => (show AncJ p nm [] x.2.2 from hz ▸ hJ.1).fin s⟩

theorem c_sub (p : Prog) (hb : p.classes.length ≤ 1000) (hif : ∀ c, c ∈ p.classes → c.ifaces.length ≤ 1000) (a b : Str) : ACalls Try.prog 27 [p.av, sA a, sA b] [] (Gives (bA (subP p a b))) := by
  refine acalls_of (n := 12) Try.func27 rfl (by decide +kernel) rfl rfl ?_
  refine awp_seq ?_
  refine awp_region ?_
  refine aops_n (w0 rfl) rfl (fun id => eff_box id rfl rfl rfl rfl rfl) (fun id1 => ?_)
  refine aops_e (w0 rfl) rfl (eff_assign rfl rfl) ?_
  refine aops_nil ?_
  refine awp_seq ?_
  refine awp_region ?_
  refine aops_load_ptr 0 (w0 rfl) rfl rfl rfl rfl rfl (ld_agg (Nat.le_of_ble_eq_true rfl)) ?_
  refine aops_e (w0 rfl) rfl (eff_move rfl rfl) ?_
  refine aops_callR (w0 rfl) rfl rfl rfl rfl (c_ancestors p hb hif a) (fun ch H' hR => by obtain ⟨_, _, h, _⟩ := hR; cases h) (fun y Hy hR => ?_)
  obtain ⟨idm, out, hR, rfl, hout⟩ := hR
  cases hR
  refine aops_e (w0 rfl) rfl (eff_move rfl rfl) ?_
  refine aops_hasS (out := out) 0 (w0 rfl) rfl rfl rfl rfl rfl ?_
  refine aops_e (w0 rfl) rfl (eff_assign rfl rfl) ?_
  refine aops_nil ?_
  refine awp_ret ?_
  exact retq rfl (res_tmp rfl res_nil) (gb (inL_subP hout))

theorem c_fits (p : Prog) (f : Fact) (t : Ty) (sub : Bool) (hsub : ACalls Try.prog 27 [p.av, sA f.cls, sA t.cls] [] (Gives (bA sub))) : ACalls Try.prog 17 [p.av, f.av, t.av] [] (Gives (bA (fitsBy sub f t))) := by
  refine acalls_of (n := 58) Try.func17 rfl (by decide +kernel) rfl rfl ?_
  refine awp_seq ?_
  refine awp_region ?_
  refine aops_n (w0 rfl) rfl (fun id => eff_box id rfl rfl rfl rfl rfl) (fun id1 => ?_)
  refine aops_n (w0 rfl) rfl (fun id => eff_box id rfl rfl rfl rfl rfl) (fun id2 => ?_)
  refine aops_n (w0 rfl) rfl (fun id => eff_box id rfl rfl rfl rfl rfl) (fun id3 => ?_)
  refine aops_e (w0 rfl) rfl (eff_assign rfl rfl) ?_
  refine aops_nil ?_
  refine awp_seq ?_
  refine awp_seq ?_
  refine awp_region ?_
  refine aops_e (w0 rfl) rfl (eff_fieldAddr rfl rfl rfl) ?_
  refine aops_load_ptr 0 (w0 rfl) rfl rfl rfl rfl rfl ld_one ?_
  refine aops_nil ?_
  refine awp_block ?_
  refine awp_seq ?_
  refine awp_region ?_
  refine aops_e (w0 rfl) rfl (eff_icmp rfl rfl rfl rfl) ?_
  refine aops_e (w0 rfl) rfl (eff_assign rfl rfl) ?_
  refine aops_nil ?_
  refine awp_cond rfl ?_ ?_
  · intro hc
    refine awp_seq ?_
    refine awp_region ?_
    refine aops_e (w0 rfl) rfl (eff_fieldAddr rfl rfl rfl) ?_
    refine aops_load_ptr 1 (w0 rfl) rfl rfl rfl rfl rfl ld_one ?_
    refine aops_e (w0 rfl) rfl (eff_icmp rfl rfl rfl rfl) ?_
    refine aops_e (w0 rfl) rfl (eff_assign rfl rfl) ?_
    refine aops_nil ?_
    refine awp_ret ?_
    exact retq rfl (res_tmp rfl res_nil) (gb (by simp_all [fitsBy, ofT] <;> (simp [ceqs, ceq, cellsA, Fact.av, Fact.cells, beqS] <;> grind)))
  · intro hc
    refine awp_seq ?_
    refine awp_region ?_
    refine aops_e (w0 rfl) rfl (eff_icmp rfl rfl rfl rfl) ?_
    refine aops_e (w0 rfl) rfl (eff_assign rfl rfl) ?_
    refine aops_nil ?_
    refine awp_cond rfl ?_ ?_
    · intro hc
      refine awp_seq ?_
      refine awp_region ?_
      refine aops_e (w0 rfl) rfl (eff_fieldAddr rfl rfl rfl) ?_
      refine aops_load_ptr 1 (w0 rfl) rfl rfl rfl rfl rfl ld_one ?_
      refine aops_e (w0 rfl) rfl (eff_icmp rfl rfl rfl rfl) ?_
      refine aops_e (w0 rfl) rfl (eff_move rfl rfl) ?_
      refine aops_g (wF rfl rfl rfl rfl) rfl (fun hg => (eff_fieldAddr rfl rfl rfl)) ?_
      refine aops_gload 1 (wF rfl rfl rfl rfl) rfl rfl (fun hg => (ev_g hg rfl)) rfl rfl ld_one ?_
      refine aops_g (wF rfl rfl rfl rfl) rfl (fun hg => (eff_icmp rfl (ev_g hg rfl) rfl rfl)) ?_
      refine aops_g (wF rfl rfl rfl rfl) rfl (fun hg => (eff_move rfl (ev_g hg rfl))) ?_
      refine aops_gload 2 (wTg rfl rfl rfl rfl) rfl rfl (fun hg => rfl) rfl rfl (ld_agg (Nat.le_of_ble_eq_true rfl)) ?_
      refine aops_g (wTg rfl rfl rfl rfl) rfl (fun hg => (eff_fieldAddr rfl rfl rfl)) ?_
      refine aops_gload 1 (wTg rfl rfl rfl rfl) rfl rfl (fun hg => (ev_g hg rfl)) rfl rfl ld_one ?_
      refine aops_g (wTg rfl rfl rfl rfl) rfl (fun hg => (eff_fieldAddr rfl rfl rfl)) ?_
      refine aops_gload 0 (wTg rfl rfl rfl rfl) rfl rfl (fun hg => (ev_g hg rfl)) rfl rfl ld_one ?_
      refine aops_g (wTg rfl rfl rfl rfl) rfl (fun hg => (eff_call [] rfl rfl (evs_cons (ev_g hg rfl) (evs_cons (ev_g hg rfl) (evs_cons (ev_g hg rfl) evs_nil))) hsub List.nodup_nil)) ?_
      refine aops_g (wF rfl rfl rfl rfl) rfl (fun hg => (eff_and rfl (ev_g hg rfl) rfl (fun h => by first | (simp [h, hg]; done) | (simp_all; done)))) ?_
      refine aops_e (w0 rfl) rfl (eff_or rfl rfl rfl (fun h => by rw [h]; rfl)) ?_
      refine aops_e (w0 rfl) rfl (eff_assign rfl rfl) ?_
      refine aops_nil ?_
      refine awp_ret ?_
      exact retq rfl (res_tmp rfl res_nil) (gb (by simp_all [fitsBy, ofT] <;> (simp [ceqs, ceq, cellsA, Fact.av, Fact.cells, beqS] <;> grind)))
    · intro hc
      refine awp_seq ?_
      refine awp_seq ?_
      refine awp_region ?_
      refine aops_e (w0 rfl) rfl (eff_icmp rfl rfl rfl rfl) ?_
      refine aops_e (w0 rfl) rfl (eff_assign rfl rfl) ?_
      refine aops_nil ?_
      refine awp_cond rfl ?_ ?_
      · intro hc
        refine awp_skip ?_
        refine awp_cond rfl ?_ ?_
        · intro hc
          refine awp_seq ?_
          refine awp_region ?_
          refine aops_load_ptr 0 (w0 rfl) rfl rfl rfl rfl rfl (ld_agg (Nat.le_of_ble_eq_true rfl)) ?_
          refine aops_e (w0 rfl) rfl (eff_call [] rfl rfl rfl (c_of t) List.nodup_nil) ?_
          refine aops_n (w0 rfl) rfl (fun id => eff_alloc id rfl rfl rfl) (fun id4 => ?_)
          refine aops_store 0 (w0 rfl) rfl rfl rfl rfl rfl rfl rfl rfl rfl ?_
          refine aops_nil ?_
          refine awp_seq ?_
          refine awp_region ?_
          refine aops_e (w0 rfl) rfl (eff_fieldAddr rfl rfl rfl) ?_
          refine aops_load_ptr 2 (w0 rfl) rfl rfl rfl rfl rfl ld_one ?_
          refine aops_e (w0 rfl) rfl (eff_icmp rfl rfl rfl rfl) ?_
          refine aops_e (w0 rfl) rfl (eff_move rfl rfl) ?_
          refine aops_g (wF rfl rfl rfl rfl) rfl (fun hg => (eff_fieldAddr rfl rfl rfl)) ?_
          refine aops_gload 2 (wF rfl rfl rfl rfl) rfl rfl (fun hg => (ev_g hg rfl)) rfl rfl ld_one ?_
          refine aops_g (wF rfl rfl rfl rfl) rfl (fun hg => (eff_fieldAddr rfl rfl rfl)) ?_
          refine aops_gload 0 (wF rfl rfl rfl rfl) rfl rfl (fun hg => (ev_g hg rfl)) rfl rfl ld_one ?_
          refine aops_g (wF rfl rfl rfl rfl) rfl (fun hg => (eff_icmp rfl (ev_g hg rfl) (ev_g hg rfl) rfl)) ?_
          refine aops_g (wF rfl rfl rfl rfl) rfl (fun hg => (eff_move rfl (ev_g hg rfl))) ?_
          refine aops_g (wTg rfl rfl rfl rfl) rfl (fun hg => (eff_fieldAddr rfl rfl rfl)) ?_
          refine aops_gload 1 (wTg rfl rfl rfl rfl) rfl rfl (fun hg => (ev_g hg rfl)) rfl rfl ld_one ?_
          refine aops_g (wTg rfl rfl rfl rfl) rfl (fun hg => (eff_icmp rfl (ev_g hg rfl) rfl rfl)) ?_
          refine aops_g (wTg rfl rfl rfl rfl) rfl (fun hg => (eff_move rfl (ev_g hg rfl))) ?_
          refine aops_gload 2 (wFg rfl rfl rfl rfl) rfl rfl (fun hg => rfl) rfl rfl (ld_agg (Nat.le_of_ble_eq_true rfl)) ?_
          refine aops_gload 0 (wFg rfl rfl rfl rfl) rfl rfl (fun hg => rfl) rfl rfl (ld_agg (Nat.le_of_ble_eq_true rfl)) ?_
          refine aops_g (wFg rfl rfl rfl rfl) rfl (fun hg => (eff_eql rfl (ev_g hg rfl) (ev_g hg rfl) rfl rfl)) ?_
          refine aops_g (wTg rfl rfl rfl rfl) rfl (fun hg => (eff_or rfl (ev_g hg rfl) rfl (fun h => by first | (simp [h, hg]; done) | (simp_all; done)))) ?_
          refine aops_g (wF rfl rfl rfl rfl) rfl (fun hg => (eff_and rfl (ev_g hg rfl) rfl (fun h => by first | (simp [h, hg]; done) | (simp_all; done)))) ?_
          refine aops_e (w0 rfl) rfl (eff_or rfl rfl rfl (fun h => by rw [h]; rfl)) ?_
          refine aops_e (w0 rfl) rfl (eff_assign rfl rfl) ?_
          refine aops_nil ?_
          refine awp_ret ?_
          exact retq rfl (res_tmp rfl res_nil) (gb (by simp_all [fitsBy, ofT] <;> (simp [ceqs, ceq, cellsA, Fact.av, Fact.cells, beqS] <;> grind)))
        · intro hd; exfalso; simp_all
      · intro hc
        refine awp_region ?_
        refine aops_e (w0 rfl) rfl (eff_icmp rfl rfl rfl rfl) ?_
        refine aops_e (w0 rfl) rfl (eff_assign rfl rfl) ?_
        refine aops_nil ?_
        refine awp_cond rfl ?_ ?_
        · intro hc
          refine awp_seq ?_
          refine awp_region ?_
          refine aops_load_ptr 0 (w0 rfl) rfl rfl rfl rfl rfl (ld_agg (Nat.le_of_ble_eq_true rfl)) ?_
          refine aops_e (w0 rfl) rfl (eff_call [] rfl rfl rfl (c_of t) List.nodup_nil) ?_
          refine aops_n (w0 rfl) rfl (fun id => eff_alloc id rfl rfl rfl) (fun id5 => ?_)
          refine aops_store 0 (w0 rfl) rfl rfl rfl rfl rfl rfl rfl rfl rfl ?_
          refine aops_nil ?_
          refine awp_seq ?_
          refine awp_region ?_
          refine aops_e (w0 rfl) rfl (eff_fieldAddr rfl rfl rfl) ?_
          refine aops_load_ptr 2 (w0 rfl) rfl rfl rfl rfl rfl ld_one ?_
          refine aops_e (w0 rfl) rfl (eff_icmp rfl rfl rfl rfl) ?_
          refine aops_e (w0 rfl) rfl (eff_move rfl rfl) ?_
          refine aops_g (wF rfl rfl rfl rfl) rfl (fun hg => (eff_fieldAddr rfl rfl rfl)) ?_
          refine aops_gload 2 (wF rfl rfl rfl rfl) rfl rfl (fun hg => (ev_g hg rfl)) rfl rfl ld_one ?_
          refine aops_g (wF rfl rfl rfl rfl) rfl (fun hg => (eff_fieldAddr rfl rfl rfl)) ?_
          refine aops_gload 0 (wF rfl rfl rfl rfl) rfl rfl (fun hg => (ev_g hg rfl)) rfl rfl ld_one ?_
          refine aops_g (wF rfl rfl rfl rfl) rfl (fun hg => (eff_icmp rfl (ev_g hg rfl) (ev_g hg rfl) rfl)) ?_
          refine aops_g (wF rfl rfl rfl rfl) rfl (fun hg => (eff_move rfl (ev_g hg rfl))) ?_
          refine aops_g (wTg rfl rfl rfl rfl) rfl (fun hg => (eff_fieldAddr rfl rfl rfl)) ?_
          refine aops_gload 1 (wTg rfl rfl rfl rfl) rfl rfl (fun hg => (ev_g hg rfl)) rfl rfl ld_one ?_
          refine aops_g (wTg rfl rfl rfl rfl) rfl (fun hg => (eff_icmp rfl (ev_g hg rfl) rfl rfl)) ?_
          refine aops_g (wTg rfl rfl rfl rfl) rfl (fun hg => (eff_move rfl (ev_g hg rfl))) ?_
          refine aops_gload 2 (wFg rfl rfl rfl rfl) rfl rfl (fun hg => rfl) rfl rfl (ld_agg (Nat.le_of_ble_eq_true rfl)) ?_
          refine aops_gload 0 (wFg rfl rfl rfl rfl) rfl rfl (fun hg => rfl) rfl rfl (ld_agg (Nat.le_of_ble_eq_true rfl)) ?_
          refine aops_g (wFg rfl rfl rfl rfl) rfl (fun hg => (eff_eql rfl (ev_g hg rfl) (ev_g hg rfl) rfl rfl)) ?_
          refine aops_g (wTg rfl rfl rfl rfl) rfl (fun hg => (eff_or rfl (ev_g hg rfl) rfl (fun h => by first | (simp [h, hg]; done) | (simp_all; done)))) ?_
          refine aops_g (wF rfl rfl rfl rfl) rfl (fun hg => (eff_and rfl (ev_g hg rfl) rfl (fun h => by first | (simp [h, hg]; done) | (simp_all; done)))) ?_
          refine aops_e (w0 rfl) rfl (eff_or rfl rfl rfl (fun h => by rw [h]; rfl)) ?_
          refine aops_e (w0 rfl) rfl (eff_assign rfl rfl) ?_
          refine aops_nil ?_
          refine awp_ret ?_
          exact retq rfl (res_tmp rfl res_nil) (gb (by simp_all [fitsBy, ofT] <;> (simp [ceqs, ceq, cellsA, Fact.av, Fact.cells, beqS] <;> grind)))
        · intro hc
          refine awp_skip ?_
          refine awp_seq ?_
          refine awp_region ?_
          refine aops_e (w0 rfl) rfl (eff_assign rfl rfl) ?_
          refine aops_nil ?_
          refine awp_ret ?_
          exact retq rfl (res_tmp rfl res_nil) (gb (by simp_all [fitsBy, ofT] <;> (simp [ceqs, ceq, cellsA, Fact.av, Fact.cells, beqS] <;> grind)))

theorem c_joinX (p : Prog) (hb : p.classes.length ≤ 1000) (a b j : Fact) (h : joinBy (com p) a b = j) : ACalls Try.prog 15 [p.av, a.av, b.av] [] (Gives (Fact.av j)) := h ▸ c_join p a b _ (c_common p hb _ _)
theorem c_belowX (p : Prog) (a b j : Fact) (r : Bool) (h : eqF j b = r) (hj : ACalls Try.prog 15 [p.av, a.av, b.av] [] (Gives (Fact.av j))) : ACalls Try.prog 16 [p.av, a.av, b.av] [] (Gives (bA r)) := h ▸ c_below p a b j hj

theorem c_live15  : ACalls Try.prog 9 [] [] (Gives (bA true)) := by
  refine acalls_of (n := 60) Try.func9 rfl (by decide +kernel) rfl rfl ?_
  refine awp_seq ?_
  refine awp_region ?_
  refine aops_e (w0 rfl) rfl (eff_assign rfl rfl) ?_
  refine aops_nil ?_
  refine awp_seq ?_
  refine awp_region ?_
  refine aops_e (w0 rfl) rfl (eff_sub (y := lvCA.av) (eff_build rfl rfl rfl) (.agg (by repeat' (first | exact .nil | refine .keep ?_ | refine .z ?_)))) ?_
  refine aops_e (w0 rfl) rfl (eff_sub (y := lvCB.av) (eff_build rfl rfl rfl) (.agg (by repeat' (first | exact .nil | refine .keep ?_ | refine .z ?_)))) ?_
  refine aops_e (w0 rfl) rfl (eff_sub (y := lvCC.av) (eff_build rfl rfl rfl) (.agg (by repeat' (first | exact .nil | refine .keep ?_ | refine .z ?_)))) ?_
  refine aops_e (w0 rfl) rfl (eff_frz (es := lvP.classes.map Cls.cells) (fun id => eff_buildSlice id (ps := [(0, .tmp 3), (1, .tmp 4), (2, .tmp 5)]) rfl rfl rfl rfl rfl rfl rfl rfl) rfl) ?_
  refine aops_e (w0 rfl) rfl (eff_sub (y := lvP.av) (eff_build rfl rfl rfl) (.agg (by repeat' (first | exact .nil | refine .keep ?_ | refine .z ?_)))) ?_
  refine aops_n (w0 rfl) rfl (fun id => eff_alloc id rfl rfl rfl) (fun id1 => ?_)
  refine aops_store 0 (w0 rfl) rfl rfl rfl rfl rfl rfl rfl rfl rfl ?_
  refine aops_nil ?_
  refine awp_seq ?_
  refine awp_region ?_
  refine aops_e (w0 rfl) rfl (eff_build rfl rfl rfl) ?_
  refine aops_n (w0 rfl) rfl (fun id => eff_alloc id rfl rfl rfl) (fun id2 => ?_)
  refine aops_store 0 (w0 rfl) rfl rfl rfl rfl rfl rfl rfl rfl rfl ?_
  refine aops_nil ?_
  refine awp_seq ?_
  refine awp_drawM [0, 0, 2, 7, 15, 31, 63, 127, 127, 127, 1023, 127, 4095, 8191, 16383, 32767, 32767, 32767, 262143, 524287, 1048575, 2097151, 2097151, 2097151, 16777215, 33554431, 67108863, 134217727, 268435455, 268435455, 805306367, 2147483647, 4294967295, 8589934591, 17179869183, 34359738367, 68719476735, 137438953471, 274877906943, 549755813887, 1099511627775, 2199023255551, 4398046511103, 8796093022207, 17592186044415, 17592186044415, 52776558133247, 140737488355327, 281474976710655, 562949953421311, 1125899906842623, 2251799813685247] 52 rfl (by kernel_rfl) ?_
  refine calm_load_ptr 1 (w0 rfl) rfl rfl rfl rfl rfl (ld_agg (Nat.le_of_ble_eq_true rfl)) ?_
  refine calm_e (w0 rfl) rfl (eff_call [] rfl rfl rfl (c_ref nB) List.nodup_nil) ?_
  refine calm_e (w0 rfl) rfl (eff_call [] rfl rfl rfl (c_ref nC) List.nodup_nil) ?_
  refine calm_e (w0 rfl) rfl (eff_call [] rfl rfl rfl (c_joinX lvP (by decide) ⟨3, nB⟩ ⟨3, nC⟩ ⟨3, nA⟩ (by decide +kernel)) List.nodup_nil) ?_
  refine calm_e (w0 rfl) rfl (eff_call [] rfl rfl rfl (c_ref nA) List.nodup_nil) ?_
  refine calm_e (w0 rfl) rfl (eff_to (y := bA true) (eff_eql rfl rfl rfl rfl rfl) (congrArg bA (by decide +kernel))) ?_
  refine calm_e (w0 rfl) rfl (eff_move rfl rfl) ?_
  refine calm_load_ptr 1 (wT (d := true) rfl rfl rfl rfl) rfl rfl rfl rfl rfl (ld_agg (Nat.le_of_ble_eq_true rfl)) ?_
  refine calm_load_ptr 0 (wT (d := true) rfl rfl rfl rfl) rfl rfl rfl rfl rfl (ld_agg (Nat.le_of_ble_eq_true rfl)) ?_
  refine calm_e (wT (d := true) rfl rfl rfl rfl) rfl (eff_build rfl rfl rfl) ?_
  refine calm_e (wT (d := true) rfl rfl rfl rfl) rfl (eff_call [] rfl rfl rfl (c_joinX lvP (by decide) ⟨2, zS⟩ ⟨4, zS⟩ ⟨4, zS⟩ (by decide +kernel)) List.nodup_nil) ?_
  refine calm_e (wT (d := true) rfl rfl rfl rfl) rfl (eff_build rfl rfl rfl) ?_
  refine calm_e (wT (d := true) rfl rfl rfl rfl) rfl (eff_to (y := bA true) (eff_eql rfl rfl rfl rfl rfl) (congrArg bA (by decide +kernel))) ?_
  refine calm_e (w0 rfl) rfl (eff_to (y := bA true) (eff_pick (t := true) rfl rfl rfl rfl) rfl) ?_
  refine calm_e (w0 rfl) rfl (eff_move rfl rfl) ?_
  refine calm_load_ptr 1 (wT (d := true) rfl rfl rfl rfl) rfl rfl rfl rfl rfl (ld_agg (Nat.le_of_ble_eq_true rfl)) ?_
  refine calm_e (wT (d := true) rfl rfl rfl rfl) rfl (eff_call [] rfl rfl rfl (c_ref nB) List.nodup_nil) ?_
  refine calm_e (wT (d := true) rfl rfl rfl rfl) rfl (eff_build rfl rfl rfl) ?_
  refine calm_e (wT (d := true) rfl rfl rfl rfl) rfl (eff_call [] rfl rfl rfl (show ACalls Try.prog 17 [lvP.av, Fact.av ⟨3, nB⟩, Ty.av ⟨3, nA⟩] [] (Gives (bA true)) from c_fits lvP ⟨3, nB⟩ ⟨3, nA⟩ true (lvP_sub ▸ c_sub lvP (by decide) (by decide) nB nA)) List.nodup_nil) ?_
  refine calm_e (w0 rfl) rfl (eff_to (y := bA true) (eff_pick (t := true) rfl rfl rfl rfl) rfl) ?_
  refine calm_e (w0 rfl) rfl (eff_move rfl rfl) ?_
  refine calm_load_ptr 1 (wT (d := true) rfl rfl rfl rfl) rfl rfl rfl rfl rfl (ld_agg (Nat.le_of_ble_eq_true rfl)) ?_
  refine calm_e (wT (d := true) rfl rfl rfl rfl) rfl (eff_call [] rfl rfl rfl (c_ref nA) List.nodup_nil) ?_
  refine calm_e (wT (d := true) rfl rfl rfl rfl) rfl (eff_build rfl rfl rfl) ?_
  refine calm_e (wT (d := true) rfl rfl rfl rfl) rfl (eff_call [] rfl rfl rfl (show ACalls Try.prog 17 [lvP.av, Fact.av ⟨3, nA⟩, Ty.av ⟨3, nB⟩] [] (Gives (bA false)) from c_fits lvP ⟨3, nA⟩ ⟨3, nB⟩ false (lvP_nsub ▸ c_sub lvP (by decide) (by decide) nA nB)) List.nodup_nil) ?_
  refine calm_e (wT (d := true) rfl rfl rfl rfl) rfl (eff_to (y := bA true) (eff_not rfl rfl) (rfl)) ?_
  refine calm_e (w0 rfl) rfl (eff_to (y := bA true) (eff_pick (t := true) rfl rfl rfl rfl) rfl) ?_
  refine calm_e (w0 rfl) rfl (eff_move rfl rfl) ?_
  refine calm_load_ptr 1 (wT (d := true) rfl rfl rfl rfl) rfl rfl rfl rfl rfl (ld_agg (Nat.le_of_ble_eq_true rfl)) ?_
  refine calm_e (wT (d := true) rfl rfl rfl rfl) rfl (eff_call [] rfl rfl rfl (c_ref nB) List.nodup_nil) ?_
  refine calm_e (wT (d := true) rfl rfl rfl rfl) rfl (eff_call [] rfl rfl rfl (c_ref nA) List.nodup_nil) ?_
  refine calm_e (wT (d := true) rfl rfl rfl rfl) rfl (eff_call [] rfl rfl rfl (c_belowX lvP ⟨3, nB⟩ ⟨3, nA⟩ ⟨3, nA⟩ true (by decide +kernel) (c_joinX lvP (by decide) ⟨3, nB⟩ ⟨3, nA⟩ ⟨3, nA⟩ (by decide +kernel))) List.nodup_nil) ?_
  refine calm_e (w0 rfl) rfl (eff_to (y := bA true) (eff_pick (t := true) rfl rfl rfl rfl) rfl) ?_
  refine calm_e (w0 rfl) rfl (eff_move rfl rfl) ?_
  refine calm_load_ptr 0 (wT (d := true) rfl rfl rfl rfl) rfl rfl rfl rfl rfl (ld_agg (Nat.le_of_ble_eq_true rfl)) ?_
  refine calm_e (wT (d := true) rfl rfl rfl rfl) rfl (eff_call [] rfl rfl rfl (show ACalls Try.prog 19 [Fact.av ⟨2, zS⟩] [] (Gives (bA true)) from c_isRef ⟨2, zS⟩) List.nodup_nil) ?_
  refine calm_e (w0 rfl) rfl (eff_to (y := bA true) (eff_pick (t := true) rfl rfl rfl rfl) rfl) ?_
  refine calm_e (w0 rfl) rfl (eff_move rfl rfl) ?_
  refine calm_e (wT (d := true) rfl rfl rfl rfl) rfl (eff_build rfl rfl rfl) ?_
  refine calm_e (wT (d := true) rfl rfl rfl rfl) rfl (eff_call [] rfl rfl rfl (show ACalls Try.prog 20 [Ty.av ⟨2, zS⟩] [] (Gives (Fact.av ⟨1, zS⟩)) from c_of ⟨2, zS⟩) List.nodup_nil) ?_
  refine calm_e (wT (d := true) rfl rfl rfl rfl) rfl (eff_field rfl rfl rfl) ?_
  refine calm_e (wT (d := true) rfl rfl rfl rfl) rfl (eff_to (y := bA true) (eff_icmp rfl rfl rfl rfl) (congrArg bA (by decide +kernel))) ?_
  refine calm_e (w0 rfl) rfl (eff_to (y := bA true) (eff_pick (t := true) rfl rfl rfl rfl) rfl) ?_
  refine calm_e (w0 rfl) rfl (eff_move rfl rfl) ?_
  refine calm_load_ptr 1 (wT (d := true) rfl rfl rfl rfl) rfl rfl rfl rfl rfl (ld_agg (Nat.le_of_ble_eq_true rfl)) ?_
  refine calm_load_ptr 0 (wT (d := true) rfl rfl rfl rfl) rfl rfl rfl rfl rfl (ld_agg (Nat.le_of_ble_eq_true rfl)) ?_
  refine calm_e (wT (d := true) rfl rfl rfl rfl) rfl (eff_frz (es := _) (fun id => eff_buildSlice id (ps := [(0, .tmp 54)]) rfl rfl rfl rfl rfl rfl rfl rfl) rfl) ?_
  refine calm_e (wT (d := true) rfl rfl rfl rfl) rfl (eff_call [] rfl rfl rfl (acalls_sub (.keep (.keep (.z .nil))) (show ACalls Try.prog 11 [lvP.av, .lst (List.map Fact.cells [⟨2, zS⟩]), .lst (List.map Fact.cells [])] [] (Gives (.lst [])) from c_merge lvP (c_common lvP (by decide)) [⟨2, zS⟩] [] (by decide) (by decide))) List.nodup_nil) ?_
  refine calm_e (wT (d := true) rfl rfl rfl rfl) rfl (eff_len rfl rfl rfl rfl) ?_
  refine calm_e (wT (d := true) rfl rfl rfl rfl) rfl (eff_to (y := bA true) (eff_icmp rfl rfl rfl rfl) (congrArg bA (by decide +kernel))) ?_
  refine calm_e (w0 rfl) rfl (eff_to (y := bA true) (eff_pick (t := true) rfl rfl rfl rfl) rfl) ?_
  refine calm_e (w0 rfl) rfl (eff_assign rfl rfl) ?_
  refine .done ?_
  refine aops_nil ?_
  refine awp_ret ?_
  exact retq rfl (res_tmp rfl res_nil) (gb rfl)

theorem c_joinMerges (p : Prog) (hp : p.ok) (a b : List Fact) : ACalls Try.prog 3 [p.av, .lst (a.map Fact.cells), .lst (b.map Fact.cells)] [] (Gives (bA true)) := by
  refine acalls_of (n := 32) Try.func3 rfl (by decide +kernel) rfl rfl ?_
  refine awp_seq ?_
  refine awp_region ?_
  refine aops_n (w0 rfl) rfl (fun id => eff_box id rfl rfl rfl rfl rfl) (fun id1 => ?_)
  refine aops_e (w0 rfl) rfl (eff_assign rfl rfl) ?_
  refine aops_nil ?_
  refine awp_seq ?_
  refine awp_seq ?_
  refine awp_region ?_
  refine aops_load_ptr 0 (w0 rfl) rfl rfl rfl rfl rfl (ld_agg (Nat.le_of_ble_eq_true rfl)) ?_
  refine aops_e (w0 rfl) rfl (eff_call [] rfl rfl rfl (c_great p hp) List.nodup_nil) ?_
  refine aops_e (w0 rfl) rfl (eff_move rfl rfl) ?_
  refine aops_g (wF rfl rfl rfl rfl) rfl (fun hg => (eff_move rfl rfl)) ?_
  refine aops_g (wF rfl rfl rfl rfl) rfl (fun hg => (eff_len rfl (ev_g hg rfl) rfl rfl)) ?_
  refine aops_g (wF rfl rfl rfl rfl) rfl (fun hg => (eff_icmp rfl (ev_g hg rfl) rfl rfl)) ?_
  refine aops_e (w0 rfl) rfl (eff_or rfl rfl rfl (fun h => by rw [h]; rfl)) ?_
  refine aops_e (w0 rfl) rfl (eff_move rfl rfl) ?_
  refine aops_g (wF rfl rfl rfl rfl) rfl (fun hg => (eff_move rfl rfl)) ?_
  refine aops_g (wF rfl rfl rfl rfl) rfl (fun hg => (eff_len rfl (ev_g hg rfl) rfl rfl)) ?_
  refine aops_g (wF rfl rfl rfl rfl) rfl (fun hg => (eff_icmp rfl (ev_g hg rfl) rfl rfl)) ?_
  refine aops_e (w0 rfl) rfl (eff_or rfl rfl rfl (fun h => by rw [h]; rfl)) ?_
  refine aops_nil ?_
  refine awp_cond rfl ?_ ?_
  · intro hc
    refine awp_seq ?_
    refine awp_region ?_
    refine aops_e (w0 rfl) rfl (eff_call [] rfl rfl rfl c_live15 List.nodup_nil) ?_
    refine aops_e (w0 rfl) rfl (eff_assign rfl rfl) ?_
    refine aops_nil ?_
    refine awp_ret ?_
    exact retq rfl (res_tmp rfl res_nil) (gb rfl)
  · intro hc
    have hq : greatP p = false ∧ a.length ≤ 40 ∧ b.length ≤ 40 := by simp at hc; exact ⟨hc.1.1, by omega, by omega⟩
    obtain ⟨hq, hal, hbl⟩ := hq
    have hb := greatP_len hq
    refine awp_skip ?_
    refine awp_seq ?_
    refine awp_drawM [0, 1, 3, 3, 3, 31, 3, 3, 3, 511, 1023, 2047, 4095] 13 rfl (by kernel_rfl) ?_
    refine calm_e (w0 rfl) rfl (eff_call [] rfl rfl rfl c_live15 List.nodup_nil) ?_
    refine calm_e (w0 rfl) rfl (eff_move rfl rfl) ?_
    refine calm_gload 0 (wT rfl rfl rfl rfl) rfl rfl (fun hg => rfl) rfl rfl (ld_agg (Nat.le_of_ble_eq_true rfl)) ?_
    refine calm_g (wT rfl rfl rfl rfl) rfl (fun hg => (eff_move rfl rfl)) ?_
    refine calm_g (wT rfl rfl rfl rfl) rfl (fun hg => (eff_move rfl rfl)) ?_
    refine calm_g (wT rfl rfl rfl rfl) rfl (fun hg => (eff_call [] rfl rfl (evs_cons (ev_g hg rfl) (evs_cons (ev_g hg rfl) (evs_cons (ev_g hg rfl) evs_nil))) (c_merge p (c_common p hb) a b (by omega) (by omega)) List.nodup_nil)) ?_
    refine calm_gload 0 (wT rfl rfl rfl rfl) rfl rfl (fun hg => rfl) rfl rfl (ld_agg (Nat.le_of_ble_eq_true rfl)) ?_
    refine calm_g (wT rfl rfl rfl rfl) rfl (fun hg => (eff_move rfl rfl)) ?_
    refine calm_g (wT rfl rfl rfl rfl) rfl (fun hg => (eff_move rfl rfl)) ?_
    refine calm_g (wT rfl rfl rfl rfl) rfl (fun hg => (eff_call [] rfl rfl (evs_cons (ev_g hg rfl) (evs_cons (ev_g hg rfl) (evs_cons (ev_g hg rfl) evs_nil))) (c_refMerge p hb a b (by omega) (by omega)) List.nodup_nil)) ?_
    refine calm_g (wT rfl rfl rfl rfl) rfl (fun hg => (eff_call [] rfl rfl (evs_cons (ev_g hg rfl) (evs_cons (ev_g hg rfl) evs_nil)) (c_same _ _ (by rw [mergeF_len]; unfold small; omega)) List.nodup_nil)) ?_
    refine calm_e (w0 rfl) rfl (eff_and rfl rfl rfl (fun h => h)) ?_
    refine calm_e (w0 rfl) rfl (eff_assign rfl rfl) ?_
    refine .done ?_
    refine aops_nil ?_
    refine awp_ret ?_
    exact retq rfl (res_tmp rfl res_nil) (gb (by simp [sameF_refl]))

end Go.Sx
