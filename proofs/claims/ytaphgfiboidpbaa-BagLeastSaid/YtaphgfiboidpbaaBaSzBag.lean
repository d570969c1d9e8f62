/- Layer 24, walked: which of two stands ahead. -/
import Derived.Test.YtaphgfiboidpbaaBaSzTry0
import Derived.Test.YtaphgfiboidpbaaBaSxBits
import Derived.Test.YtaphgfiboidpbaaBaSxLive
import Derived.Test.YtaphgfiboidpbaaBaSxBag
set_option linter.unusedVariables false
set_option linter.unusedSimpArgs false
namespace Go.Sx
open Go Go.Proofs

theorem c_cmpStr (x y : Str) : ACalls Try.prog 60 [sA x, sA y] [] (Gives (iA (cmpT x y))) := by
  refine acalls_of (n := 8) Try.func60 rfl (by decide +kernel) rfl rfl ?_
  refine awp_seq ?_
  refine awp_region ?_
  refine aops_e (w0 rfl) rfl (eff_assign rfl rfl) ?_
  refine aops_nil ?_
  refine awp_seq ?_
  refine awp_region ?_
  refine aops_e (w0 rfl) rfl (eff_move rfl rfl) ?_
  refine aops_e (w0 rfl) rfl (eff_move rfl rfl) ?_
  refine aops_e (w0 rfl) rfl (eff_cmpS rfl rfl rfl rfl rfl rfl rfl rfl) ?_
  refine aops_e (w0 rfl) rfl (eff_assign rfl rfl) ?_
  refine aops_nil ?_
  refine awp_ret ?_
  exact retq rfl (res_tmp rfl res_nil) (gi rfl)

theorem c_cmp (x y : Str) : ACalls Try.prog 45 [sA x, sA y] [] (Gives (iA (cmpT x y))) := by
  refine acalls_of (n := 8) Try.func45 rfl (by decide +kernel) rfl rfl ?_
  refine awp_seq ?_
  refine awp_region ?_
  refine aops_e (w0 rfl) rfl (eff_assign rfl rfl) ?_
  refine aops_nil ?_
  refine awp_seq ?_
  refine awp_region ?_
  refine aops_e (w0 rfl) rfl (eff_move rfl rfl) ?_
  refine aops_e (w0 rfl) rfl (eff_move rfl rfl) ?_
  refine aops_e (w0 rfl) rfl (eff_call [] rfl rfl rfl (c_cmpStr _ _) List.nodup_nil) ?_
  refine aops_e (w0 rfl) rfl (eff_assign rfl rfl) ?_
  refine aops_nil ?_
  refine awp_ret ?_
  exact retq rfl (res_tmp rfl res_nil) (gi rfl)

theorem c_nan (x : Int) : ACalls Try.prog 59 [iA x] [] (Gives (bA false)) := by
  refine acalls_of (n := 6) Try.func59 rfl (by decide +kernel) rfl rfl ?_
  refine awp_seq ?_
  refine awp_region ?_
  refine aops_e (w0 rfl) rfl (eff_assign rfl rfl) ?_
  refine aops_nil ?_
  refine awp_seq ?_
  refine awp_region ?_
  refine aops_e (w0 rfl) rfl (eff_move rfl rfl) ?_
  refine aops_e (w0 rfl) rfl (eff_move rfl rfl) ?_
  refine aops_e (w0 rfl) rfl (eff_icmp rfl rfl rfl rfl) ?_
  refine aops_e (w0 rfl) rfl (eff_assign rfl rfl) ?_
  refine aops_nil ?_
  refine awp_ret ?_
  exact retq rfl (res_tmp rfl res_nil) (gb (by simp))

theorem c_nanK (x : Int) : ACalls Try.prog 61 [iA x] [] (Gives (bA false)) := by
  refine acalls_of (n := 6) Try.func61 rfl (by decide +kernel) rfl rfl ?_
  refine awp_seq ?_
  refine awp_region ?_
  refine aops_e (w0 rfl) rfl (eff_assign rfl rfl) ?_
  refine aops_nil ?_
  refine awp_seq ?_
  refine awp_region ?_
  refine aops_e (w0 rfl) rfl (eff_move rfl rfl) ?_
  refine aops_e (w0 rfl) rfl (eff_move rfl rfl) ?_
  refine aops_e (w0 rfl) rfl (eff_icmp rfl rfl rfl rfl) ?_
  refine aops_e (w0 rfl) rfl (eff_assign rfl rfl) ?_
  refine aops_nil ?_
  refine awp_ret ?_
  exact retq rfl (res_tmp rfl res_nil) (gb (by simp))

theorem c_cmpInt (x y : Int) : ACalls Try.prog 44 [iA x, iA y] [] (Gives (iA (cmpI x y))) := by
  refine acalls_of (n := 20) Try.func44 rfl (by decide +kernel) rfl rfl ?_
  refine awp_seq ?_
  refine awp_region ?_
  refine aops_e (w0 rfl) rfl (eff_assign rfl rfl) ?_
  refine aops_nil ?_
  refine awp_seq ?_
  refine awp_region ?_
  refine aops_e (w0 rfl) rfl (eff_move rfl rfl) ?_
  refine aops_e (w0 rfl) rfl (eff_call [] rfl rfl rfl (c_nan _) List.nodup_nil) ?_
  refine aops_e (w0 rfl) rfl (eff_assign rfl rfl) ?_
  refine aops_nil ?_
  refine awp_seq ?_
  refine awp_region ?_
  refine aops_e (w0 rfl) rfl (eff_move rfl rfl) ?_
  refine aops_e (w0 rfl) rfl (eff_call [] rfl rfl rfl (c_nan _) List.nodup_nil) ?_
  refine aops_e (w0 rfl) rfl (eff_assign rfl rfl) ?_
  refine aops_nil ?_
  refine awp_seq ?_
  refine awp_seq ?_
  refine awp_region ?_
  refine aops_e (w0 rfl) rfl (eff_move rfl rfl) ?_
  refine aops_nil ?_
  refine awp_cond rfl ?_ ?_
  · intro hc
    exfalso; simp at hc
  · intro hc
    refine awp_skip ?_
    refine awp_seq ?_
    refine awp_seq ?_
    refine awp_region ?_
    refine aops_e (w0 rfl) rfl (eff_move rfl rfl) ?_
    refine aops_nil ?_
    refine awp_cond rfl ?_ ?_
    · intro hc
      exfalso; simp at hc
    · intro hc
      refine awp_skip ?_
      refine awp_seq ?_
      refine awp_seq ?_
      refine awp_region ?_
      refine aops_e (w0 rfl) rfl (eff_move rfl rfl) ?_
      refine aops_e (w0 rfl) rfl (eff_move rfl rfl) ?_
      refine aops_e (w0 rfl) rfl (eff_icmp rfl rfl rfl rfl) ?_
      refine aops_nil ?_
      refine awp_cond rfl ?_ ?_
      · intro hc
        have h1 : x < y := by simpa using hc
        refine awp_seq ?_
        refine awp_region ?_
        refine aops_e (w0 rfl) rfl (eff_assign rfl rfl) ?_
        refine aops_nil ?_
        refine awp_ret ?_
        exact retq rfl (res_tmp rfl res_nil) (gi (by unfold cmpI; rw [if_pos h1]))
      · intro hc
        have h1 : ¬ x < y := by simpa using hc
        refine awp_skip ?_
        refine awp_seq ?_
        refine awp_seq ?_
        refine awp_region ?_
        refine aops_e (w0 rfl) rfl (eff_move rfl rfl) ?_
        refine aops_e (w0 rfl) rfl (eff_move rfl rfl) ?_
        refine aops_e (w0 rfl) rfl (eff_icmp rfl rfl rfl rfl) ?_
        refine aops_nil ?_
        refine awp_cond rfl ?_ ?_
        · intro hc
          have h2 : y < x := by simpa using hc
          refine awp_seq ?_
          refine awp_region ?_
          refine aops_e (w0 rfl) rfl (eff_assign rfl rfl) ?_
          refine aops_nil ?_
          refine awp_ret ?_
          exact retq rfl (res_tmp rfl res_nil) (gi (by unfold cmpI; rw [if_neg h1, if_pos h2]))
        · intro hc
          have h2 : ¬ y < x := by simpa using hc
          refine awp_skip ?_
          refine awp_seq ?_
          refine awp_region ?_
          refine aops_e (w0 rfl) rfl (eff_assign rfl rfl) ?_
          refine aops_nil ?_
          refine awp_ret ?_
          exact retq rfl (res_tmp rfl res_nil) (gi (by unfold cmpI; rw [if_neg h1, if_neg h2]))

theorem c_cmpKind (x y : Int) : ACalls Try.prog 46 [iA x, iA y] [] (Gives (iA (cmpI x y))) := by
  refine acalls_of (n := 20) Try.func46 rfl (by decide +kernel) rfl rfl ?_
  refine awp_seq ?_
  refine awp_region ?_
  refine aops_e (w0 rfl) rfl (eff_assign rfl rfl) ?_
  refine aops_nil ?_
  refine awp_seq ?_
  refine awp_region ?_
  refine aops_e (w0 rfl) rfl (eff_move rfl rfl) ?_
  refine aops_e (w0 rfl) rfl (eff_call [] rfl rfl rfl (c_nanK _) List.nodup_nil) ?_
  refine aops_e (w0 rfl) rfl (eff_assign rfl rfl) ?_
  refine aops_nil ?_
  refine awp_seq ?_
  refine awp_region ?_
  refine aops_e (w0 rfl) rfl (eff_move rfl rfl) ?_
  refine aops_e (w0 rfl) rfl (eff_call [] rfl rfl rfl (c_nanK _) List.nodup_nil) ?_
  refine aops_e (w0 rfl) rfl (eff_assign rfl rfl) ?_
  refine aops_nil ?_
  refine awp_seq ?_
  refine awp_seq ?_
  refine awp_region ?_
  refine aops_e (w0 rfl) rfl (eff_move rfl rfl) ?_
  refine aops_nil ?_
  refine awp_cond rfl ?_ ?_
  · intro hc
    exfalso; simp at hc
  · intro hc
    refine awp_skip ?_
    refine awp_seq ?_
    refine awp_seq ?_
    refine awp_region ?_
    refine aops_e (w0 rfl) rfl (eff_move rfl rfl) ?_
    refine aops_nil ?_
    refine awp_cond rfl ?_ ?_
    · intro hc
      exfalso; simp at hc
    · intro hc
      refine awp_skip ?_
      refine awp_seq ?_
      refine awp_seq ?_
      refine awp_region ?_
      refine aops_e (w0 rfl) rfl (eff_move rfl rfl) ?_
      refine aops_e (w0 rfl) rfl (eff_move rfl rfl) ?_
      refine aops_e (w0 rfl) rfl (eff_icmp rfl rfl rfl rfl) ?_
      refine aops_nil ?_
      refine awp_cond rfl ?_ ?_
      · intro hc
        have h1 : x < y := by simpa using hc
        refine awp_seq ?_
        refine awp_region ?_
        refine aops_e (w0 rfl) rfl (eff_assign rfl rfl) ?_
        refine aops_nil ?_
        refine awp_ret ?_
        exact retq rfl (res_tmp rfl res_nil) (gi (by unfold cmpI; rw [if_pos h1]))
      · intro hc
        have h1 : ¬ x < y := by simpa using hc
        refine awp_skip ?_
        refine awp_seq ?_
        refine awp_seq ?_
        refine awp_region ?_
        refine aops_e (w0 rfl) rfl (eff_move rfl rfl) ?_
        refine aops_e (w0 rfl) rfl (eff_move rfl rfl) ?_
        refine aops_e (w0 rfl) rfl (eff_icmp rfl rfl rfl rfl) ?_
        refine aops_nil ?_
        refine awp_cond rfl ?_ ?_
        · intro hc
          have h2 : y < x := by simpa using hc
          refine awp_seq ?_
          refine awp_region ?_
          refine aops_e (w0 rfl) rfl (eff_assign rfl rfl) ?_
          refine aops_nil ?_
          refine awp_ret ?_
          exact retq rfl (res_tmp rfl res_nil) (gi (by unfold cmpI; rw [if_neg h1, if_pos h2]))
        · intro hc
          have h2 : ¬ y < x := by simpa using hc
          refine awp_skip ?_
          refine awp_seq ?_
          refine awp_region ?_
          refine aops_e (w0 rfl) rfl (eff_assign rfl rfl) ?_
          refine aops_nil ?_
          refine awp_ret ?_
          exact retq rfl (res_tmp rfl res_nil) (gi (by unfold cmpI; rw [if_neg h1, if_neg h2]))

theorem c_or (l : List Int) (hl : small l.length) : ACalls Try.prog 42 [row1 iA l] [] (Gives (iA (orL l))) := by
  simp only [small] at hl
  unfold row1
  refine acalls_of (n := 18) Try.func42 rfl (by decide +kernel) rfl rfl ?_
  refine awp_seq ?_
  refine awp_region ?_
  refine aops_e (w0 rfl) rfl (eff_assign rfl rfl) ?_
  refine aops_nil ?_
  refine awp_seq ?_
  refine awp_region ?_
  refine aops_e (w0 rfl) rfl (eff_assign rfl rfl) ?_
  refine aops_nil ?_
  refine awp_seq ?_
  refine awp_seq ?_
  refine awp_region ?_
  refine aops_e (w0 rfl) rfl (eff_move rfl rfl) ?_
  refine aops_e (w0 rfl) rfl (eff_len rfl rfl rfl rfl) ?_
  refine aops_e (w0 rfl) rfl (eff_move rfl rfl) ?_
  refine aops_nil ?_
  refine awp_block ?_
  refine awp_loopJ (α := Nat) (fun i => ⟨[(8, iA i), (6, .lst (l.map fun x => [iA x])), (7, iA l.length), (3, iA 0)], [], [], 18⟩) (fun i => i ≤ l.length ∧ orL (l.drop i) = orL l) (fun i => l.length - i) 0 ⟨Nat.zero_le _, rfl⟩ ?_ ?_
  · exact weak_pick [] ⟨rfl, rfl, (by show some (iA _) = some (iA _); simp), rfl, trivial⟩ rfl (by decide) rfl rfl
  rintro i hJ
  refine awp_seq ?_
  refine awp_region ?_
  refine aops_e (w0 rfl) rfl (eff_icmp rfl rfl rfl rfl) ?_
  refine aops_nil ?_
  refine awp_seq ?_
  refine awp_cond rfl ?_ ?_
  · intro hc
    have hi : i < l.length := by simpa using hc
    refine awp_skip ?_
    refine awp_seq ?_
    refine awp_block ?_
    refine awp_seq ?_
    refine awp_region ?_
    refine aops_e (w0 rfl) rfl (eff_indexAddr_lst rfl rfl rfl (len_map (fun _ => rfl)) (by first | omega | (simp only [List.length_map]; omega)) (by first | omega | (simp only [List.length_map]; omega))) ?_
    refine aops_e (w0 rfl) rfl (eff_loadE rfl rfl (map_get (by first | assumption | omega)) ld_one) ?_
    refine aops_e (w0 rfl) rfl (eff_assign rfl rfl) ?_
    refine aops_nil ?_
    refine awp_seq ?_
    refine awp_region ?_
    refine aops_e (w0 rfl) rfl (eff_move rfl rfl) ?_
    refine aops_e (w0 rfl) rfl (eff_move rfl rfl) ?_
    refine aops_e (w0 rfl) rfl (eff_icmp rfl rfl rfl rfl) ?_
    refine aops_nil ?_
    refine awp_cond rfl ?_ ?_
    · intro hc
      have hq : l.getD i default ≠ 0 := by simpa [List.getD, hi] using hc
      refine awp_seq ?_
      refine awp_region ?_
      refine aops_e (w0 rfl) rfl (eff_move rfl rfl) ?_
      refine aops_e (w0 rfl) rfl (eff_assign rfl rfl) ?_
      refine aops_nil ?_
      refine awp_ret ?_
      exact retq rfl (res_tmp rfl res_nil) (gi (by rw [← hJ.2, orL_drop hi, orI, if_neg hq]; simp [List.getD, hi]))
    · intro hc
      have hq : l.getD i default = 0 := by simpa [List.getD, hi] using hc
      refine awp_skip ?_
      refine awp_region ?_
      refine aops_e (w0 rfl) rfl (eff_arith rfl rfl rfl (arith_add (by first | omega | (simp only [List.length_map]; omega)))) ?_
      refine aops_e (w0 rfl) rfl (eff_move rfl rfl) ?_
      refine aops_nil ?_
      refine ⟨i + 1, ⟨hi, by rw [← hJ.2, orL_drop hi, hq, orI, if_pos rfl]⟩, (by omega), ?_⟩
      exact weak_pick [] ⟨rfl, rfl, rfl, rfl, trivial⟩ rfl (by decide) rfl rfl
  · intro hc
    have hi : ¬ i < l.length := by simpa using hc
    refine awp_exit ?_
    refine awp_seq ?_
    refine awp_region ?_
    refine aops_e (w0 rfl) rfl (eff_move rfl rfl) ?_
    refine aops_e (w0 rfl) rfl (eff_assign rfl rfl) ?_
    refine aops_nil ?_
    refine awp_ret ?_
    exact retq rfl (res_tmp rfl res_nil) (gi (by rw [← hJ.2, drop_end hi]; rfl))

theorem c_methods (a b : MRef) : ACalls Try.prog 43 [a.av, b.av] [] (Gives (iA (cmpR a b))) := by
  refine acalls_of (n := 22) Try.func43 rfl (by decide +kernel) rfl rfl ?_
  refine awp_seq ?_
  refine awp_region ?_
  refine aops_n (w0 rfl) rfl (fun id => eff_box id rfl rfl rfl rfl rfl) (fun id1 => ?_)
  refine aops_n (w0 rfl) rfl (fun id => eff_box id rfl rfl rfl rfl rfl) (fun id2 => ?_)
  refine aops_e (w0 rfl) rfl (eff_assign rfl rfl) ?_
  refine aops_nil ?_
  refine awp_seq ?_
  refine awp_drawM [0, 1, 0, 4, 15, 0, 32, 0, 128, 511, 0, 1024, 0, 4096, 16383, 32767, 65535, 131071] 18 rfl (by kernel_rfl) ?_
  refine calm_e (w0 rfl) rfl (eff_fieldAddr rfl rfl rfl) ?_
  refine calm_load_ptr 1 (w0 rfl) rfl rfl rfl rfl rfl ld_one ?_
  refine calm_e (w0 rfl) rfl (eff_fieldAddr rfl rfl rfl) ?_
  refine calm_load_ptr 0 (w0 rfl) rfl rfl rfl rfl rfl ld_one ?_
  refine calm_e (w0 rfl) rfl (eff_call [] rfl rfl rfl (c_cmp _ _) List.nodup_nil) ?_
  refine calm_e (w0 rfl) rfl (eff_fieldAddr rfl rfl rfl) ?_
  refine calm_load_ptr 1 (w0 rfl) rfl rfl rfl rfl rfl ld_one ?_
  refine calm_e (w0 rfl) rfl (eff_fieldAddr rfl rfl rfl) ?_
  refine calm_load_ptr 0 (w0 rfl) rfl rfl rfl rfl rfl ld_one ?_
  refine calm_e (w0 rfl) rfl (eff_call [] rfl rfl rfl (c_cmp _ _) List.nodup_nil) ?_
  refine calm_e (w0 rfl) rfl (eff_fieldAddr rfl rfl rfl) ?_
  refine calm_load_ptr 1 (w0 rfl) rfl rfl rfl rfl rfl ld_one ?_
  refine calm_e (w0 rfl) rfl (eff_fieldAddr rfl rfl rfl) ?_
  refine calm_load_ptr 0 (w0 rfl) rfl rfl rfl rfl rfl ld_one ?_
  refine calm_e (w0 rfl) rfl (eff_call [] rfl rfl rfl (c_cmp _ _) List.nodup_nil) ?_
  refine calm_e (w0 rfl) rfl (eff_frz (es := [[iA (cmpT a.cls b.cls)], [iA (cmpT a.name b.name)], [iA (cmpT a.desc b.desc)]]) (fun id => eff_buildSlice id (ps := [(0, .tmp 9), (1, .tmp 14), (2, .tmp 19)]) rfl rfl rfl rfl rfl rfl rfl rfl) rfl) ?_
  refine calm_e (w0 rfl) rfl (eff_call [] rfl rfl rfl (c_or [(cmpT a.cls b.cls), (cmpT a.name b.name), (cmpT a.desc b.desc)] (by unfold small; simp)) List.nodup_nil) ?_
  refine calm_e (w0 rfl) rfl (eff_assign rfl rfl) ?_
  refine .done ?_
  refine aops_nil ?_
  refine awp_ret ?_
  exact retq rfl (res_tmp rfl res_nil) (gi (by simp only [orL, orI_z]; rfl))

theorem c_cmpSite (a b : Site) : ACalls Try.prog 26 [a.av, b.av] [] (Gives (iA (cmpS a b))) := by
  refine acalls_of (n := 22) Try.func26 rfl (by decide +kernel) rfl rfl ?_
  refine awp_seq ?_
  refine awp_region ?_
  refine aops_n (w0 rfl) rfl (fun id => eff_box id rfl rfl rfl rfl rfl) (fun id1 => ?_)
  refine aops_n (w0 rfl) rfl (fun id => eff_box id rfl rfl rfl rfl rfl) (fun id2 => ?_)
  refine aops_e (w0 rfl) rfl (eff_assign rfl rfl) ?_
  refine aops_nil ?_
  refine awp_seq ?_
  refine awp_drawM [0, 1, 0, 4, 15, 0, 32, 0, 128, 511, 0, 1024, 0, 4096, 16383, 32767, 65535, 131071] 18 rfl (by kernel_rfl) ?_
  refine calm_e (w0 rfl) rfl (eff_fieldAddr rfl rfl rfl) ?_
  refine calm_load_ptr 1 (w0 rfl) rfl rfl rfl rfl rfl (ld_agg (Nat.le_of_ble_eq_true rfl)) ?_
  refine calm_e (w0 rfl) rfl (eff_fieldAddr rfl rfl rfl) ?_
  refine calm_load_ptr 0 (w0 rfl) rfl rfl rfl rfl rfl (ld_agg (Nat.le_of_ble_eq_true rfl)) ?_
  refine calm_e (w0 rfl) rfl (eff_call [] rfl rfl rfl (c_methods a.m b.m) List.nodup_nil) ?_
  refine calm_e (w0 rfl) rfl (eff_fieldAddr rfl rfl rfl) ?_
  refine calm_load_ptr 1 (w0 rfl) rfl rfl rfl rfl rfl ld_one ?_
  refine calm_e (w0 rfl) rfl (eff_fieldAddr rfl rfl rfl) ?_
  refine calm_load_ptr 0 (w0 rfl) rfl rfl rfl rfl rfl ld_one ?_
  refine calm_e (w0 rfl) rfl (eff_call [] rfl rfl rfl (c_cmpInt _ _) List.nodup_nil) ?_
  refine calm_e (w0 rfl) rfl (eff_fieldAddr rfl rfl rfl) ?_
  refine calm_load_ptr 1 (w0 rfl) rfl rfl rfl rfl rfl ld_one ?_
  refine calm_e (w0 rfl) rfl (eff_fieldAddr rfl rfl rfl) ?_
  refine calm_load_ptr 0 (w0 rfl) rfl rfl rfl rfl rfl ld_one ?_
  refine calm_e (w0 rfl) rfl (eff_call [] rfl rfl rfl (c_cmp _ _) List.nodup_nil) ?_
  refine calm_e (w0 rfl) rfl (eff_frz (es := [[iA (cmpR a.m b.m)], [iA (cmpI a.pc b.pc)], [iA (cmpT a.cls b.cls)]]) (fun id => eff_buildSlice id (ps := [(0, .tmp 9), (1, .tmp 14), (2, .tmp 19)]) rfl rfl rfl rfl rfl rfl rfl rfl) rfl) ?_
  refine calm_e (w0 rfl) rfl (eff_call [] rfl rfl rfl (c_or [(cmpR a.m b.m), (cmpI a.pc b.pc), (cmpT a.cls b.cls)] (by unfold small; simp)) List.nodup_nil) ?_
  refine calm_e (w0 rfl) rfl (eff_assign rfl rfl) ?_
  refine .done ?_
  refine aops_nil ?_
  refine awp_ret ?_
  exact retq rfl (res_tmp rfl res_nil) (gi (by simp only [orL, orI_z]; rfl))

theorem c_order (a b : Place) : ACalls Try.prog 27 [a.av, b.av] [] (Gives (iA (cmpP a b))) := by
  refine acalls_of (n := 41) Try.func27 rfl (by decide +kernel) rfl rfl ?_
  refine awp_seq ?_
  refine awp_region ?_
  refine aops_n (w0 rfl) rfl (fun id => eff_box id rfl rfl rfl rfl rfl) (fun id1 => ?_)
  refine aops_n (w0 rfl) rfl (fun id => eff_box id rfl rfl rfl rfl rfl) (fun id2 => ?_)
  refine aops_e (w0 rfl) rfl (eff_assign rfl rfl) ?_
  refine aops_nil ?_
  refine awp_seq ?_
  refine awp_drawM [0, 1, 0, 4, 15, 0, 32, 0, 128, 511, 0, 1024, 0, 4096, 16383, 0, 32768, 98304, 0, 262144, 786432, 2097151, 0, 4194304, 12582912, 0, 33554432, 100663296, 268435455, 0, 536870912, 0, 2147483648, 8589934591, 17179869183, 34359738367, 68719476735] 37 rfl (by kernel_rfl) ?_
  refine calm_e (w0 rfl) rfl (eff_fieldAddr rfl rfl rfl) ?_
  refine calm_load_ptr 1 (w0 rfl) rfl rfl rfl rfl rfl ld_one ?_
  refine calm_e (w0 rfl) rfl (eff_fieldAddr rfl rfl rfl) ?_
  refine calm_load_ptr 0 (w0 rfl) rfl rfl rfl rfl rfl ld_one ?_
  refine calm_e (w0 rfl) rfl (eff_call [] rfl rfl rfl (c_cmpKind _ _) List.nodup_nil) ?_
  refine calm_e (w0 rfl) rfl (eff_fieldAddr rfl rfl rfl) ?_
  refine calm_load_ptr 1 (w0 rfl) rfl rfl rfl rfl rfl (ld_agg (Nat.le_of_ble_eq_true rfl)) ?_
  refine calm_e (w0 rfl) rfl (eff_fieldAddr rfl rfl rfl) ?_
  refine calm_load_ptr 0 (w0 rfl) rfl rfl rfl rfl rfl (ld_agg (Nat.le_of_ble_eq_true rfl)) ?_
  refine calm_e (w0 rfl) rfl (eff_call [] rfl rfl rfl (c_methods a.m b.m) List.nodup_nil) ?_
  refine calm_e (w0 rfl) rfl (eff_fieldAddr rfl rfl rfl) ?_
  refine calm_load_ptr 1 (w0 rfl) rfl rfl rfl rfl rfl ld_one ?_
  refine calm_e (w0 rfl) rfl (eff_fieldAddr rfl rfl rfl) ?_
  refine calm_load_ptr 0 (w0 rfl) rfl rfl rfl rfl rfl ld_one ?_
  refine calm_e (w0 rfl) rfl (eff_call [] rfl rfl rfl (c_cmpInt _ _) List.nodup_nil) ?_
  refine calm_e (w0 rfl) rfl (eff_fieldAddr rfl rfl rfl) ?_
  refine calm_e (w0 rfl) rfl (eff_fieldAddr rfl rfl rfl) ?_
  refine calm_load_ptr 1 (w0 rfl) rfl rfl rfl rfl rfl ld_one ?_
  refine calm_e (w0 rfl) rfl (eff_fieldAddr rfl rfl rfl) ?_
  refine calm_e (w0 rfl) rfl (eff_fieldAddr rfl rfl rfl) ?_
  refine calm_load_ptr 0 (w0 rfl) rfl rfl rfl rfl rfl ld_one ?_
  refine calm_e (w0 rfl) rfl (eff_call [] rfl rfl rfl (c_cmp _ _) List.nodup_nil) ?_
  refine calm_e (w0 rfl) rfl (eff_fieldAddr rfl rfl rfl) ?_
  refine calm_e (w0 rfl) rfl (eff_fieldAddr rfl rfl rfl) ?_
  refine calm_load_ptr 1 (w0 rfl) rfl rfl rfl rfl rfl ld_one ?_
  refine calm_e (w0 rfl) rfl (eff_fieldAddr rfl rfl rfl) ?_
  refine calm_e (w0 rfl) rfl (eff_fieldAddr rfl rfl rfl) ?_
  refine calm_load_ptr 0 (w0 rfl) rfl rfl rfl rfl rfl ld_one ?_
  refine calm_e (w0 rfl) rfl (eff_call [] rfl rfl rfl (c_cmp _ _) List.nodup_nil) ?_
  refine calm_e (w0 rfl) rfl (eff_fieldAddr rfl rfl rfl) ?_
  refine calm_load_ptr 1 (w0 rfl) rfl rfl rfl rfl rfl (ld_agg (Nat.le_of_ble_eq_true rfl)) ?_
  refine calm_e (w0 rfl) rfl (eff_fieldAddr rfl rfl rfl) ?_
  refine calm_load_ptr 0 (w0 rfl) rfl rfl rfl rfl rfl (ld_agg (Nat.le_of_ble_eq_true rfl)) ?_
  refine calm_e (w0 rfl) rfl (eff_call [] rfl rfl rfl (c_cmpSite a.site b.site) List.nodup_nil) ?_
  refine calm_e (w0 rfl) rfl (eff_frz (es := [[iA (cmpI a.kind b.kind)], [iA (cmpR a.m b.m)], [iA (cmpI a.reg b.reg)], [iA (cmpT a.field.cls b.field.cls)], [iA (cmpT a.field.name b.field.name)], [iA (cmpS a.site b.site)]]) (fun id => eff_buildSlice id (ps := [(0, .tmp 9), (1, .tmp 14), (2, .tmp 19), (3, .tmp 26), (4, .tmp 33), (5, .tmp 38)]) rfl rfl rfl rfl rfl rfl rfl rfl) rfl) ?_
  refine calm_e (w0 rfl) rfl (eff_call [] rfl rfl rfl (c_or [(cmpI a.kind b.kind), (cmpR a.m b.m), (cmpI a.reg b.reg), (cmpT a.field.cls b.field.cls), (cmpT a.field.name b.field.name), (cmpS a.site b.site)] (by unfold small; simp)) List.nodup_nil) ?_
  refine calm_e (w0 rfl) rfl (eff_assign rfl rfl) ?_
  refine .done ?_
  refine aops_nil ?_
  refine awp_ret ?_
  exact retq rfl (res_tmp rfl res_nil) (gi (by simp only [orL, orI_z]; rfl))

theorem c_refNum (x y : Int) : ACalls Try.prog 48 [iA x, iA y] [] (Gives (iA (cmpI x y))) := by
  refine acalls_of (n := 11) Try.func48 rfl (by decide +kernel) rfl rfl ?_
  refine awp_seq ?_
  refine awp_region ?_
  refine aops_e (w0 rfl) rfl (eff_assign rfl rfl) ?_
  refine aops_nil ?_
  refine awp_seq ?_
  refine awp_seq ?_
  refine awp_region ?_
  refine aops_e (w0 rfl) rfl (eff_move rfl rfl) ?_
  refine aops_e (w0 rfl) rfl (eff_move rfl rfl) ?_
  refine aops_e (w0 rfl) rfl (eff_icmp rfl rfl rfl rfl) ?_
  refine aops_nil ?_
  refine awp_cond rfl ?_ ?_
  · intro hc
    have h1 : x < y := by simpa using hc
    refine awp_seq ?_
    refine awp_region ?_
    refine aops_e (w0 rfl) rfl (eff_assign rfl rfl) ?_
    refine aops_nil ?_
    refine awp_ret ?_
    exact retq rfl (res_tmp rfl res_nil) (gi (by unfold cmpI; rw [if_pos h1]))
  · intro hc
    have h1 : ¬ x < y := by simpa using hc
    refine awp_skip ?_
    refine awp_seq ?_
    refine awp_seq ?_
    refine awp_region ?_
    refine aops_e (w0 rfl) rfl (eff_move rfl rfl) ?_
    refine aops_e (w0 rfl) rfl (eff_move rfl rfl) ?_
    refine aops_e (w0 rfl) rfl (eff_icmp rfl rfl rfl rfl) ?_
    refine aops_nil ?_
    refine awp_cond rfl ?_ ?_
    · intro hc
      have h2 : y < x := by simpa using hc
      refine awp_seq ?_
      refine awp_region ?_
      refine aops_e (w0 rfl) rfl (eff_assign rfl rfl) ?_
      refine aops_nil ?_
      refine awp_ret ?_
      exact retq rfl (res_tmp rfl res_nil) (gi (by unfold cmpI; rw [if_neg h1, if_pos h2]))
    · intro hc
      have h2 : ¬ y < x := by simpa using hc
      refine awp_skip ?_
      refine awp_seq ?_
      refine awp_region ?_
      refine aops_e (w0 rfl) rfl (eff_assign rfl rfl) ?_
      refine aops_nil ?_
      refine awp_ret ?_
      exact retq rfl (res_tmp rfl res_nil) (gi (by unfold cmpI; rw [if_neg h1, if_neg h2]))

theorem gtT {x y : Str} (h : (!(Op.bytesLess x.toList y.toList || x.toList == y.toList)) = true) : ltS y x = true := by rw [leS_not] at h; simpa using h
theorem gtF {x y : Str} (h : (!(Op.bytesLess x.toList y.toList || x.toList == y.toList)) = false) : ltS y x = false := by rw [leS_not] at h; simpa using h

theorem c_refTxt (x y : Str) : ACalls Try.prog 49 [sA x, sA y] [] (Gives (iA (cmpT x y))) := by
  refine acalls_of (n := 11) Try.func49 rfl (by decide +kernel) rfl rfl ?_
  refine awp_seq ?_
  refine awp_region ?_
  refine aops_e (w0 rfl) rfl (eff_assign rfl rfl) ?_
  refine aops_nil ?_
  refine awp_seq ?_
  refine awp_seq ?_
  refine awp_region ?_
  refine aops_e (w0 rfl) rfl (eff_move rfl rfl) ?_
  refine aops_e (w0 rfl) rfl (eff_move rfl rfl) ?_
  refine aops_e (w0 rfl) rfl (eff_scmp rfl rfl rfl rfl) ?_
  refine aops_nil ?_
  refine awp_cond rfl ?_ ?_
  · intro hc
    have h1 : ltS x y = true := hc
    refine awp_seq ?_
    refine awp_region ?_
    refine aops_e (w0 rfl) rfl (eff_assign rfl rfl) ?_
    refine aops_nil ?_
    refine awp_ret ?_
    exact retq rfl (res_tmp rfl res_nil) (gi (by unfold cmpT; rw [h1]; rfl))
  · intro hc
    have h1 : ltS x y = false := hc
    refine awp_skip ?_
    refine awp_seq ?_
    refine awp_seq ?_
    refine awp_region ?_
    refine aops_e (w0 rfl) rfl (eff_move rfl rfl) ?_
    refine aops_e (w0 rfl) rfl (eff_move rfl rfl) ?_
    refine aops_e (w0 rfl) rfl (eff_scmp rfl rfl rfl rfl) ?_
    refine aops_nil ?_
    refine awp_cond rfl ?_ ?_
    · intro hc
      have h2 : ltS y x = true := gtT hc
      refine awp_seq ?_
      refine awp_region ?_
      refine aops_e (w0 rfl) rfl (eff_assign rfl rfl) ?_
      refine aops_nil ?_
      refine awp_ret ?_
      exact retq rfl (res_tmp rfl res_nil) (gi (by unfold cmpT; rw [h1, h2]; rfl))
    · intro hc
      have h2 : ltS y x = false := gtF hc
      refine awp_skip ?_
      refine awp_seq ?_
      refine awp_region ?_
      refine aops_e (w0 rfl) rfl (eff_assign rfl rfl) ?_
      refine aops_nil ?_
      refine awp_ret ?_
      exact retq rfl (res_tmp rfl res_nil) (gi (by unfold cmpT; rw [h1, h2]; rfl))

theorem c_refMethods (a b : MRef) : ACalls Try.prog 47 [a.av, b.av] [] (Gives (iA (cmpR a b))) := by
  refine acalls_of (n := 28) Try.func47 rfl (by decide +kernel) rfl rfl ?_
  refine awp_seq ?_
  refine awp_region ?_
  refine aops_n (w0 rfl) rfl (fun id => eff_box id rfl rfl rfl rfl rfl) (fun id1 => ?_)
  refine aops_n (w0 rfl) rfl (fun id => eff_box id rfl rfl rfl rfl rfl) (fun id2 => ?_)
  refine aops_e (w0 rfl) rfl (eff_assign rfl rfl) ?_
  refine aops_nil ?_
  refine awp_seq ?_
  refine awp_seq ?_
  refine awp_region ?_
  refine aops_e (w0 rfl) rfl (eff_fieldAddr rfl rfl rfl) ?_
  refine aops_load_ptr 1 (w0 rfl) rfl rfl rfl rfl rfl ld_one ?_
  refine aops_e (w0 rfl) rfl (eff_fieldAddr rfl rfl rfl) ?_
  refine aops_load_ptr 0 (w0 rfl) rfl rfl rfl rfl rfl ld_one ?_
  refine aops_e (w0 rfl) rfl (eff_call [] rfl rfl rfl (c_refTxt _ _) List.nodup_nil) ?_
  refine aops_e (w0 rfl) rfl (eff_assign rfl rfl) ?_
  refine aops_nil ?_
  refine awp_seq ?_
  refine awp_region ?_
  refine aops_e (w0 rfl) rfl (eff_move rfl rfl) ?_
  refine aops_e (w0 rfl) rfl (eff_icmp rfl rfl rfl rfl) ?_
  refine aops_nil ?_
  refine awp_cond rfl ?_ ?_
  · intro hc
    have z0 : (cmpT a.cls b.cls) ≠ 0 := by simpa using hc
    refine awp_seq ?_
    refine awp_region ?_
    refine aops_e (w0 rfl) rfl (eff_move rfl rfl) ?_
    refine aops_e (w0 rfl) rfl (eff_assign rfl rfl) ?_
    refine aops_nil ?_
    refine awp_ret ?_
    exact retq rfl (res_tmp rfl res_nil) (gi (by unfold cmpR; rw [orI, if_neg z0]))
  · intro hc
    have z0 : (cmpT a.cls b.cls) = 0 := by simpa using hc
    refine awp_skip ?_
    refine awp_seq ?_
    refine awp_seq ?_
    refine awp_region ?_
    refine aops_e (w0 rfl) rfl (eff_fieldAddr rfl rfl rfl) ?_
    refine aops_load_ptr 1 (w0 rfl) rfl rfl rfl rfl rfl ld_one ?_
    refine aops_e (w0 rfl) rfl (eff_fieldAddr rfl rfl rfl) ?_
    refine aops_load_ptr 0 (w0 rfl) rfl rfl rfl rfl rfl ld_one ?_
    refine aops_e (w0 rfl) rfl (eff_call [] rfl rfl rfl (c_refTxt _ _) List.nodup_nil) ?_
    refine aops_e (w0 rfl) rfl (eff_assign rfl rfl) ?_
    refine aops_nil ?_
    refine awp_seq ?_
    refine awp_region ?_
    refine aops_e (w0 rfl) rfl (eff_move rfl rfl) ?_
    refine aops_e (w0 rfl) rfl (eff_icmp rfl rfl rfl rfl) ?_
    refine aops_nil ?_
    refine awp_cond rfl ?_ ?_
    · intro hc
      have z1 : (cmpT a.name b.name) ≠ 0 := by simpa using hc
      refine awp_seq ?_
      refine awp_region ?_
      refine aops_e (w0 rfl) rfl (eff_move rfl rfl) ?_
      refine aops_e (w0 rfl) rfl (eff_assign rfl rfl) ?_
      refine aops_nil ?_
      refine awp_ret ?_
      exact retq rfl (res_tmp rfl res_nil) (gi (by unfold cmpR; rw [orI, if_pos z0, orI, if_neg z1]))
    · intro hc
      have z1 : (cmpT a.name b.name) = 0 := by simpa using hc
      refine awp_skip ?_
      refine awp_seq ?_
      refine awp_region ?_
      refine aops_e (w0 rfl) rfl (eff_fieldAddr rfl rfl rfl) ?_
      refine aops_load_ptr 1 (w0 rfl) rfl rfl rfl rfl rfl ld_one ?_
      refine aops_e (w0 rfl) rfl (eff_fieldAddr rfl rfl rfl) ?_
      refine aops_load_ptr 0 (w0 rfl) rfl rfl rfl rfl rfl ld_one ?_
      refine aops_e (w0 rfl) rfl (eff_call [] rfl rfl rfl (c_refTxt _ _) List.nodup_nil) ?_
      refine aops_e (w0 rfl) rfl (eff_assign rfl rfl) ?_
      refine aops_nil ?_
      refine awp_ret ?_
      exact retq rfl (res_tmp rfl res_nil) (gi (by unfold cmpR; rw [orI, if_pos z0, orI, if_pos z1]))

theorem c_refCmp (a b : Site) : ACalls Try.prog 28 [a.av, b.av] [] (Gives (iA (cmpS a b))) := by
  refine acalls_of (n := 28) Try.func28 rfl (by decide +kernel) rfl rfl ?_
  refine awp_seq ?_
  refine awp_region ?_
  refine aops_n (w0 rfl) rfl (fun id => eff_box id rfl rfl rfl rfl rfl) (fun id1 => ?_)
  refine aops_n (w0 rfl) rfl (fun id => eff_box id rfl rfl rfl rfl rfl) (fun id2 => ?_)
  refine aops_e (w0 rfl) rfl (eff_assign rfl rfl) ?_
  refine aops_nil ?_
  refine awp_seq ?_
  refine awp_seq ?_
  refine awp_region ?_
  refine aops_e (w0 rfl) rfl (eff_fieldAddr rfl rfl rfl) ?_
  refine aops_load_ptr 1 (w0 rfl) rfl rfl rfl rfl rfl (ld_agg (Nat.le_of_ble_eq_true rfl)) ?_
  refine aops_e (w0 rfl) rfl (eff_fieldAddr rfl rfl rfl) ?_
  refine aops_load_ptr 0 (w0 rfl) rfl rfl rfl rfl rfl (ld_agg (Nat.le_of_ble_eq_true rfl)) ?_
  refine aops_e (w0 rfl) rfl (eff_call [] rfl rfl rfl (c_refMethods a.m b.m) List.nodup_nil) ?_
  refine aops_e (w0 rfl) rfl (eff_assign rfl rfl) ?_
  refine aops_nil ?_
  refine awp_seq ?_
  refine awp_region ?_
  refine aops_e (w0 rfl) rfl (eff_move rfl rfl) ?_
  refine aops_e (w0 rfl) rfl (eff_icmp rfl rfl rfl rfl) ?_
  refine aops_nil ?_
  refine awp_cond rfl ?_ ?_
  · intro hc
    have z0 : (cmpR a.m b.m) ≠ 0 := by simpa using hc
    refine awp_seq ?_
    refine awp_region ?_
    refine aops_e (w0 rfl) rfl (eff_move rfl rfl) ?_
    refine aops_e (w0 rfl) rfl (eff_assign rfl rfl) ?_
    refine aops_nil ?_
    refine awp_ret ?_
    exact retq rfl (res_tmp rfl res_nil) (gi (by unfold cmpS; rw [orI, if_neg z0]))
  · intro hc
    have z0 : (cmpR a.m b.m) = 0 := by simpa using hc
    refine awp_skip ?_
    refine awp_seq ?_
    refine awp_seq ?_
    refine awp_region ?_
    refine aops_e (w0 rfl) rfl (eff_fieldAddr rfl rfl rfl) ?_
    refine aops_load_ptr 1 (w0 rfl) rfl rfl rfl rfl rfl ld_one ?_
    refine aops_e (w0 rfl) rfl (eff_fieldAddr rfl rfl rfl) ?_
    refine aops_load_ptr 0 (w0 rfl) rfl rfl rfl rfl rfl ld_one ?_
    refine aops_e (w0 rfl) rfl (eff_call [] rfl rfl rfl (c_refNum _ _) List.nodup_nil) ?_
    refine aops_e (w0 rfl) rfl (eff_assign rfl rfl) ?_
    refine aops_nil ?_
    refine awp_seq ?_
    refine awp_region ?_
    refine aops_e (w0 rfl) rfl (eff_move rfl rfl) ?_
    refine aops_e (w0 rfl) rfl (eff_icmp rfl rfl rfl rfl) ?_
    refine aops_nil ?_
    refine awp_cond rfl ?_ ?_
    · intro hc
      have z1 : (cmpI a.pc b.pc) ≠ 0 := by simpa using hc
      refine awp_seq ?_
      refine awp_region ?_
      refine aops_e (w0 rfl) rfl (eff_move rfl rfl) ?_
      refine aops_e (w0 rfl) rfl (eff_assign rfl rfl) ?_
      refine aops_nil ?_
      refine awp_ret ?_
      exact retq rfl (res_tmp rfl res_nil) (gi (by unfold cmpS; rw [orI, if_pos z0, orI, if_neg z1]))
    · intro hc
      have z1 : (cmpI a.pc b.pc) = 0 := by simpa using hc
      refine awp_skip ?_
      refine awp_seq ?_
      refine awp_region ?_
      refine aops_e (w0 rfl) rfl (eff_fieldAddr rfl rfl rfl) ?_
      refine aops_load_ptr 1 (w0 rfl) rfl rfl rfl rfl rfl ld_one ?_
      refine aops_e (w0 rfl) rfl (eff_fieldAddr rfl rfl rfl) ?_
      refine aops_load_ptr 0 (w0 rfl) rfl rfl rfl rfl rfl ld_one ?_
      refine aops_e (w0 rfl) rfl (eff_call [] rfl rfl rfl (c_refTxt _ _) List.nodup_nil) ?_
      refine aops_e (w0 rfl) rfl (eff_assign rfl rfl) ?_
      refine aops_nil ?_
      refine awp_ret ?_
      exact retq rfl (res_tmp rfl res_nil) (gi (by unfold cmpS; rw [orI, if_pos z0, orI, if_pos z1]))

theorem c_refOrder (a b : Place) : ACalls Try.prog 29 [a.av, b.av] [] (Gives (iA (cmpP a b))) := by
  refine acalls_of (n := 59) Try.func29 rfl (by decide +kernel) rfl rfl ?_
  refine awp_seq ?_
  refine awp_region ?_
  refine aops_n (w0 rfl) rfl (fun id => eff_box id rfl rfl rfl rfl rfl) (fun id1 => ?_)
  refine aops_n (w0 rfl) rfl (fun id => eff_box id rfl rfl rfl rfl rfl) (fun id2 => ?_)
  refine aops_e (w0 rfl) rfl (eff_assign rfl rfl) ?_
  refine aops_nil ?_
  refine awp_seq ?_
  refine awp_seq ?_
  refine awp_region ?_
  refine aops_e (w0 rfl) rfl (eff_fieldAddr rfl rfl rfl) ?_
  refine aops_load_ptr 1 (w0 rfl) rfl rfl rfl rfl rfl ld_one ?_
  refine aops_e (w0 rfl) rfl (eff_fieldAddr rfl rfl rfl) ?_
  refine aops_load_ptr 0 (w0 rfl) rfl rfl rfl rfl rfl ld_one ?_
  refine aops_e (w0 rfl) rfl (eff_call [] rfl rfl rfl (c_refNum _ _) List.nodup_nil) ?_
  refine aops_e (w0 rfl) rfl (eff_assign rfl rfl) ?_
  refine aops_nil ?_
  refine awp_seq ?_
  refine awp_region ?_
  refine aops_e (w0 rfl) rfl (eff_move rfl rfl) ?_
  refine aops_e (w0 rfl) rfl (eff_icmp rfl rfl rfl rfl) ?_
  refine aops_nil ?_
  refine awp_cond rfl ?_ ?_
  · intro hc
    have z0 : (cmpI a.kind b.kind) ≠ 0 := by simpa using hc
    refine awp_seq ?_
    refine awp_region ?_
    refine aops_e (w0 rfl) rfl (eff_move rfl rfl) ?_
    refine aops_e (w0 rfl) rfl (eff_assign rfl rfl) ?_
    refine aops_nil ?_
    refine awp_ret ?_
    exact retq rfl (res_tmp rfl res_nil) (gi (by unfold cmpP; rw [orI, if_neg z0]))
  · intro hc
    have z0 : (cmpI a.kind b.kind) = 0 := by simpa using hc
    refine awp_skip ?_
    refine awp_seq ?_
    refine awp_seq ?_
    refine awp_region ?_
    refine aops_e (w0 rfl) rfl (eff_fieldAddr rfl rfl rfl) ?_
    refine aops_load_ptr 1 (w0 rfl) rfl rfl rfl rfl rfl (ld_agg (Nat.le_of_ble_eq_true rfl)) ?_
    refine aops_e (w0 rfl) rfl (eff_fieldAddr rfl rfl rfl) ?_
    refine aops_load_ptr 0 (w0 rfl) rfl rfl rfl rfl rfl (ld_agg (Nat.le_of_ble_eq_true rfl)) ?_
    refine aops_e (w0 rfl) rfl (eff_call [] rfl rfl rfl (c_refMethods a.m b.m) List.nodup_nil) ?_
    refine aops_e (w0 rfl) rfl (eff_assign rfl rfl) ?_
    refine aops_nil ?_
    refine awp_seq ?_
    refine awp_region ?_
    refine aops_e (w0 rfl) rfl (eff_move rfl rfl) ?_
    refine aops_e (w0 rfl) rfl (eff_icmp rfl rfl rfl rfl) ?_
    refine aops_nil ?_
    refine awp_cond rfl ?_ ?_
    · intro hc
      have z1 : (cmpR a.m b.m) ≠ 0 := by simpa using hc
      refine awp_seq ?_
      refine awp_region ?_
      refine aops_e (w0 rfl) rfl (eff_move rfl rfl) ?_
      refine aops_e (w0 rfl) rfl (eff_assign rfl rfl) ?_
      refine aops_nil ?_
      refine awp_ret ?_
      exact retq rfl (res_tmp rfl res_nil) (gi (by unfold cmpP; rw [orI, if_pos z0, orI, if_neg z1]))
    · intro hc
      have z1 : (cmpR a.m b.m) = 0 := by simpa using hc
      refine awp_skip ?_
      refine awp_seq ?_
      refine awp_seq ?_
      refine awp_region ?_
      refine aops_e (w0 rfl) rfl (eff_fieldAddr rfl rfl rfl) ?_
      refine aops_load_ptr 1 (w0 rfl) rfl rfl rfl rfl rfl ld_one ?_
      refine aops_e (w0 rfl) rfl (eff_fieldAddr rfl rfl rfl) ?_
      refine aops_load_ptr 0 (w0 rfl) rfl rfl rfl rfl rfl ld_one ?_
      refine aops_e (w0 rfl) rfl (eff_call [] rfl rfl rfl (c_refNum _ _) List.nodup_nil) ?_
      refine aops_e (w0 rfl) rfl (eff_assign rfl rfl) ?_
      refine aops_nil ?_
      refine awp_seq ?_
      refine awp_region ?_
      refine aops_e (w0 rfl) rfl (eff_move rfl rfl) ?_
      refine aops_e (w0 rfl) rfl (eff_icmp rfl rfl rfl rfl) ?_
      refine aops_nil ?_
      refine awp_cond rfl ?_ ?_
      · intro hc
        have z2 : (cmpI a.reg b.reg) ≠ 0 := by simpa using hc
        refine awp_seq ?_
        refine awp_region ?_
        refine aops_e (w0 rfl) rfl (eff_move rfl rfl) ?_
        refine aops_e (w0 rfl) rfl (eff_assign rfl rfl) ?_
        refine aops_nil ?_
        refine awp_ret ?_
        exact retq rfl (res_tmp rfl res_nil) (gi (by unfold cmpP; rw [orI, if_pos z0, orI, if_pos z1, orI, if_neg z2]))
      · intro hc
        have z2 : (cmpI a.reg b.reg) = 0 := by simpa using hc
        refine awp_skip ?_
        refine awp_seq ?_
        refine awp_seq ?_
        refine awp_region ?_
        refine aops_e (w0 rfl) rfl (eff_fieldAddr rfl rfl rfl) ?_
        refine aops_e (w0 rfl) rfl (eff_fieldAddr rfl rfl rfl) ?_
        refine aops_load_ptr 1 (w0 rfl) rfl rfl rfl rfl rfl ld_one ?_
        refine aops_e (w0 rfl) rfl (eff_fieldAddr rfl rfl rfl) ?_
        refine aops_e (w0 rfl) rfl (eff_fieldAddr rfl rfl rfl) ?_
        refine aops_load_ptr 0 (w0 rfl) rfl rfl rfl rfl rfl ld_one ?_
        refine aops_e (w0 rfl) rfl (eff_call [] rfl rfl rfl (c_refTxt _ _) List.nodup_nil) ?_
        refine aops_e (w0 rfl) rfl (eff_assign rfl rfl) ?_
        refine aops_nil ?_
        refine awp_seq ?_
        refine awp_region ?_
        refine aops_e (w0 rfl) rfl (eff_move rfl rfl) ?_
        refine aops_e (w0 rfl) rfl (eff_icmp rfl rfl rfl rfl) ?_
        refine aops_nil ?_
        refine awp_cond rfl ?_ ?_
        · intro hc
          have z3 : (cmpT a.field.cls b.field.cls) ≠ 0 := by simpa using hc
          refine awp_seq ?_
          refine awp_region ?_
          refine aops_e (w0 rfl) rfl (eff_move rfl rfl) ?_
          refine aops_e (w0 rfl) rfl (eff_assign rfl rfl) ?_
          refine aops_nil ?_
          refine awp_ret ?_
          exact retq rfl (res_tmp rfl res_nil) (gi (by unfold cmpP; rw [orI, if_pos z0, orI, if_pos z1, orI, if_pos z2, orI, if_neg z3]))
        · intro hc
          have z3 : (cmpT a.field.cls b.field.cls) = 0 := by simpa using hc
          refine awp_skip ?_
          refine awp_seq ?_
          refine awp_seq ?_
          refine awp_region ?_
          refine aops_e (w0 rfl) rfl (eff_fieldAddr rfl rfl rfl) ?_
          refine aops_e (w0 rfl) rfl (eff_fieldAddr rfl rfl rfl) ?_
          refine aops_load_ptr 1 (w0 rfl) rfl rfl rfl rfl rfl ld_one ?_
          refine aops_e (w0 rfl) rfl (eff_fieldAddr rfl rfl rfl) ?_
          refine aops_e (w0 rfl) rfl (eff_fieldAddr rfl rfl rfl) ?_
          refine aops_load_ptr 0 (w0 rfl) rfl rfl rfl rfl rfl ld_one ?_
          refine aops_e (w0 rfl) rfl (eff_call [] rfl rfl rfl (c_refTxt _ _) List.nodup_nil) ?_
          refine aops_e (w0 rfl) rfl (eff_assign rfl rfl) ?_
          refine aops_nil ?_
          refine awp_seq ?_
          refine awp_region ?_
          refine aops_e (w0 rfl) rfl (eff_move rfl rfl) ?_
          refine aops_e (w0 rfl) rfl (eff_icmp rfl rfl rfl rfl) ?_
          refine aops_nil ?_
          refine awp_cond rfl ?_ ?_
          · intro hc
            have z4 : (cmpT a.field.name b.field.name) ≠ 0 := by simpa using hc
            refine awp_seq ?_
            refine awp_region ?_
            refine aops_e (w0 rfl) rfl (eff_move rfl rfl) ?_
            refine aops_e (w0 rfl) rfl (eff_assign rfl rfl) ?_
            refine aops_nil ?_
            refine awp_ret ?_
            exact retq rfl (res_tmp rfl res_nil) (gi (by unfold cmpP; rw [orI, if_pos z0, orI, if_pos z1, orI, if_pos z2, orI, if_pos z3, orI, if_neg z4]))
          · intro hc
            have z4 : (cmpT a.field.name b.field.name) = 0 := by simpa using hc
            refine awp_skip ?_
            refine awp_seq ?_
            refine awp_region ?_
            refine aops_e (w0 rfl) rfl (eff_fieldAddr rfl rfl rfl) ?_
            refine aops_load_ptr 1 (w0 rfl) rfl rfl rfl rfl rfl (ld_agg (Nat.le_of_ble_eq_true rfl)) ?_
            refine aops_e (w0 rfl) rfl (eff_fieldAddr rfl rfl rfl) ?_
            refine aops_load_ptr 0 (w0 rfl) rfl rfl rfl rfl rfl (ld_agg (Nat.le_of_ble_eq_true rfl)) ?_
            refine aops_e (w0 rfl) rfl (eff_call [] rfl rfl rfl (c_refCmp a.site b.site) List.nodup_nil) ?_
            refine aops_e (w0 rfl) rfl (eff_assign rfl rfl) ?_
            refine aops_nil ?_
            refine awp_ret ?_
            exact retq rfl (res_tmp rfl res_nil) (gi (by unfold cmpP; rw [orI, if_pos z0, orI, if_pos z1, orI, if_pos z2, orI, if_pos z3, orI, if_pos z4]))

end Go.Sx
