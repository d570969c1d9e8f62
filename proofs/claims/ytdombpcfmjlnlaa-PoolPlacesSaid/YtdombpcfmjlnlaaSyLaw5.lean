/- Laws of pools, walked. -/
import Derived.Test.YtdombpcfmjlnlaaSyLive5
set_option linter.unusedVariables false
set_option linter.unusedSimpArgs false
namespace Go.Sx
open Go Go.Proofs

theorem c_poolPlaces (l : List Str) (hl : small l.length) (s : Str) : ACalls Try.prog 3 [row1 sA l, sA s] [] (Gives (bA true)) := by
  have hlt : (l.take 1100).length ≤ 1100 := by rw [List.length_take]; omega
  obtain ⟨m, e0, hme⟩ : ∃ m e, makeP (l.take 1100) = (m, e) := ⟨_, _, rfl⟩
  refine acalls_of (n := 85) Try.func3 rfl (by decide +kernel) rfl rfl ?_
  refine awp_seq ?_
  refine awp_region ?_
  refine aops_e (w0 rfl) rfl (eff_assign rfl rfl) ?_
  refine aops_nil ?_
  refine awp_seq ?_
  refine awp_region ?_
  refine aops_e (w0 rfl) rfl (eff_move rfl rfl) ?_
  refine aops_e (w0 rfl) rfl (eff_call [] rfl rfl rfl (c_few l hl) List.nodup_nil) ?_
  refine aops_e (w0 rfl) rfl (eff_assign rfl rfl) ?_
  refine aops_nil ?_
  refine awp_seq ?_
  refine awp_region ?_
  refine aops_e (w0 rfl) rfl (eff_move rfl rfl) ?_
  refine aops_e (w0 rfl) rfl (eff_call [] rfl rfl rfl (c_makeX (l.take 1100) (by omega) hme) List.nodup_nil) ?_
  refine aops_e (w0 rfl) rfl (eff_move rfl rfl) ?_
  refine aops_e (w0 rfl) rfl (eff_extract rfl rfl rfl) ?_
  refine aops_e (w0 rfl) rfl (eff_extract rfl rfl rfl) ?_
  refine aops_e (w0 rfl) rfl (eff_assign rfl rfl) ?_
  refine aops_e (w0 rfl) rfl (eff_assign rfl rfl) ?_
  refine aops_nil ?_
  refine awp_seq ?_
  refine awp_seq ?_
  refine awp_region ?_
  refine aops_e (w0 rfl) rfl (eff_call [] rfl rfl rfl c_live5 List.nodup_nil) ?_
  refine aops_e (w0 rfl) rfl (eff_not rfl rfl) ?_
  refine aops_e (w0 rfl) rfl (eff_move rfl rfl) ?_
  refine aops_g (wF rfl rfl rfl rfl) rfl (fun hg => (eff_move rfl rfl)) ?_
  refine aops_g (wF rfl rfl rfl rfl) rfl (fun hg => (eff_icmp rfl (ev_g hg rfl) rfl rfl)) ?_
  refine aops_e (w0 rfl) rfl (eff_or rfl rfl rfl (fun h => by rw [h]; rfl)) ?_
  refine aops_nil ?_
  refine awp_cond rfl ?_ ?_
  · intro hc
    refine awp_seq ?_
    refine awp_region ?_
    refine aops_e (w0 rfl) rfl (eff_call [] rfl rfl rfl c_live5 List.nodup_nil) ?_
    refine aops_e (w0 rfl) rfl (eff_assign rfl rfl) ?_
    refine aops_nil ?_
    refine awp_ret ?_
    exact retq rfl (res_tmp rfl res_nil) (gb rfl)
  · intro hc
    have he : e0 = 0 := by simpa using hc
    have hok := makeP_ok (by rw [hme]; exact he)
    have hm1 : m = risF (l.take 1100) := by have := hok.1; rw [hme] at this; exact this
    have hR : rightL m = true := by rw [hm1]; exact hok.2
    have hmem : ∀ x, x ∈ m ↔ x ∈ (l.take 1100) := fun x => by rw [hm1]; exact risF_mem _ x
    have hml : m.length ≤ 1100 := by rw [hm1]; have := risF_len (l.take 1100); omega
    have hms : small m.length := by unfold small; omega
    refine awp_skip ?_
    refine awp_seq ?_
    refine awp_region ?_
    refine aops_e (w0 rfl) rfl (eff_assign rfl rfl) ?_
    refine aops_nil ?_
    refine awp_seq ?_
    refine awp_seq ?_
    refine awp_region ?_
    refine aops_e (w0 rfl) rfl (eff_assign rfl rfl) ?_
    refine aops_nil ?_
    refine awp_block ?_
    refine awp_loopJ (α := Nat) (fun i => ⟨[(8, iA i), (7, bA (inL ((l.take 1100).take i) s)), (0, row1 sA (l.take 1100)), (1, sA s), (5, row1 sA m)], [], [], 85⟩) (fun i => i ≤ (l.take 1100).length) (fun i => (l.take 1100).length - i) 0 (Nat.zero_le _) ?_ ?_
    · exact weak_pick [] ⟨rfl, rfl, rfl, rfl, rfl, trivial⟩ rfl (by decide) rfl rfl
    rintro i hJ
    refine awp_seq ?_
    refine awp_seq ?_
    refine awp_region ?_
    refine aops_e (w0 rfl) rfl (eff_move rfl rfl) ?_
    refine aops_e (w0 rfl) rfl (eff_move rfl rfl) ?_
    refine aops_e (w0 rfl) rfl (eff_len rfl rfl rfl rfl) ?_
    refine aops_e (w0 rfl) rfl (eff_icmp rfl rfl rfl rfl) ?_
    refine aops_nil ?_
    refine awp_cond rfl ?_ ?_
    · intro hc
      have hi : i < (l.take 1100).length := by simpa using hc
      refine findL_elim hR ((hmem _).2 (List.getElem_mem hi)) (fun k hk hf hpk => ?_)
      refine awp_skip ?_
      refine awp_seq ?_
      refine awp_block ?_
      refine awp_seq ?_
      refine awp_region ?_
      refine aops_e (w0 rfl) rfl (eff_move rfl rfl) ?_
      refine aops_e (w0 rfl) rfl (eff_move rfl rfl) ?_
      refine aops_e (w0 rfl) rfl (eff_move rfl rfl) ?_
      refine aops_e (w0 rfl) rfl (eff_indexAddr_lst rfl rfl rfl (len_map (fun _ => rfl)) (by first | omega | (simp only [List.length_map]; omega)) (by first | omega | (simp only [List.length_map]; omega))) ?_
      refine aops_e (w0 rfl) rfl (eff_loadE rfl rfl (map_get (by first | assumption | omega)) ld_one) ?_
      refine aops_e (w0 rfl) rfl (eff_call [] rfl rfl rfl (c_findX m hms _ hf) List.nodup_nil) ?_
      refine aops_e (w0 rfl) rfl (eff_assign rfl rfl) ?_
      refine aops_nil ?_
      refine awp_seq ?_
      refine awp_seq ?_
      refine awp_drawM [0, 1, 3, 7, 7, 23, 63, 127, 255, 511, 511, 2047, 4095, 511, 511, 25087, 57855, 131071, 262143] 19 rfl (by kernel_rfl) ?_
      refine calm_e (w0 rfl) rfl (eff_move rfl rfl) ?_
      refine calm_e (w0 rfl) rfl (eff_icmp rfl rfl rfl rfl) ?_
      refine calm_e (w0 rfl) rfl (eff_move rfl rfl) ?_
      refine calm_g (wF rfl rfl rfl rfl) rfl (fun hg => (eff_move rfl rfl)) ?_
      refine calm_g (wF rfl rfl rfl rfl) rfl (fun hg => (eff_move rfl rfl)) ?_
      refine calm_g (wF rfl rfl rfl rfl) rfl (fun hg => (eff_len rfl (ev_g hg rfl) rfl rfl)) ?_
      refine calm_g (wF rfl rfl rfl rfl) rfl (fun hg => (eff_icmp rfl (ev_g hg rfl) (ev_g hg rfl) rfl)) ?_
      refine calm_e (w0 rfl) rfl (eff_or rfl rfl rfl (fun h => by rw [h]; rfl)) ?_
      refine calm_e (w0 rfl) rfl (eff_move rfl rfl) ?_
      refine calm_g (wF rfl rfl rfl rfl) rfl (fun hg => (eff_move rfl rfl)) ?_
      refine calm_g (wF rfl rfl rfl rfl) rfl (fun hg => (eff_move rfl rfl)) ?_
      refine calm_g (wF rfl rfl rfl rfl) rfl (fun hg => (eff_indexAddr_lst rfl (ev_g hg rfl) (ev_g hg rfl) (len_map (fun _ => rfl)) (by (try simp at hg) <;> first | omega | (simp only [List.length_map]; omega)) (by (try simp at hg) <;> first | omega | (simp only [List.length_map]; omega)))) ?_
      refine calm_g (wF rfl rfl rfl rfl) rfl (fun hg => (eff_loadE rfl (ev_g hg rfl) (map_getD (by (try simp at hg) <;> first | assumption | omega)) ld_one)) ?_
      refine calm_g (wF rfl rfl rfl rfl) rfl (fun hg => (eff_move rfl rfl)) ?_
      refine calm_g (wF rfl rfl rfl rfl) rfl (fun hg => (eff_move rfl rfl)) ?_
      refine calm_g (wF rfl rfl rfl rfl) rfl (fun hg => (eff_indexAddr_lst rfl (ev_g hg rfl) (ev_g hg rfl) (len_map (fun _ => rfl)) (by (try simp at hg) <;> first | omega | (simp only [List.length_map]; omega)) (by (try simp at hg) <;> first | omega | (simp only [List.length_map]; omega)))) ?_
      refine calm_g (wF rfl rfl rfl rfl) rfl (fun hg => (eff_loadE rfl (ev_g hg rfl) (map_getD (by (try simp at hg) <;> first | assumption | omega)) ld_one)) ?_
      refine calm_g (wF rfl rfl rfl rfl) rfl (fun hg => (eff_scmp rfl (ev_g hg rfl) (ev_g hg rfl) rfl)) ?_
      refine calm_e (w0 rfl) rfl (eff_or rfl rfl rfl (fun h => by rw [h]; rfl)) ?_
      refine .done ?_
      refine aops_nil ?_
      refine awp_cond rfl ?_ ?_
      · intro hc
        exfalso
        rcases Bool.or_eq_true_iff.1 hc with h | h
        · rcases Bool.or_eq_true_iff.1 h with h | h
          · simp at h; omega
          · simp at h; omega
        · have h2 : beqS (m.getD k default) ((l.take 1100).getD i default) = false := notT h
          rw [hpk, getD_eq hi, beqS_refl] at h2; cases h2
      · intro hc
        refine awp_skip ?_
        refine awp_region ?_
        refine aops_e (w0 rfl) rfl (eff_move rfl rfl) ?_
        refine aops_e (w0 rfl) rfl (eff_move rfl rfl) ?_
        refine aops_g (wF rfl rfl rfl rfl) rfl (fun hg => (eff_move rfl rfl)) ?_
        refine aops_g (wF rfl rfl rfl rfl) rfl (fun hg => (eff_move rfl rfl)) ?_
        refine aops_g (wF rfl rfl rfl rfl) rfl (fun hg => (eff_indexAddr_lst rfl (ev_g hg rfl) (ev_g hg rfl) (len_map (fun _ => rfl)) (by (try simp at hg) <;> first | omega | (simp only [List.length_map]; omega)) (by (try simp at hg) <;> first | omega | (simp only [List.length_map]; omega)))) ?_
        refine aops_g (wF rfl rfl rfl rfl) rfl (fun hg => (eff_loadE rfl (ev_g hg rfl) (map_getD (by (try simp at hg) <;> first | assumption | omega)) ld_one)) ?_
        refine aops_g (wF rfl rfl rfl rfl) rfl (fun hg => (eff_move rfl rfl)) ?_
        refine aops_g (wF rfl rfl rfl rfl) rfl (fun hg => (eff_scmp rfl (ev_g hg rfl) (ev_g hg rfl) rfl)) ?_
        refine aops_e (w0 rfl) rfl (eff_or rfl rfl rfl (fun h => by rw [h]; rfl)) ?_
        refine aops_e (w0 rfl) rfl (eff_assign rfl rfl) ?_
        refine aops_nil ?_
        refine awp_region ?_
        refine aops_e (w0 rfl) rfl (eff_move rfl rfl) ?_
        refine aops_e (w0 rfl) rfl (eff_arith rfl rfl rfl (arith_add (by first | omega | (simp only [List.length_map]; omega)))) ?_
        refine aops_e (w0 rfl) rfl (eff_assign rfl rfl) ?_
        refine aops_nil ?_
        refine ⟨i + 1, hi, (by omega), ?_⟩
        exact weak_pick [] ⟨rfl, (congrArg (fun b => some (bA b)) (had_step hi)), rfl, rfl, rfl, trivial⟩ rfl (by decide) rfl rfl
    · intro hc
      have hi : ¬ i < (l.take 1100).length := by simpa using hc
      have hall : inL ((l.take 1100).take i) s = inL (l.take 1100) s := by rw [List.take_of_length_le (by omega)]
      refine awp_exit ?_
      refine awp_seq ?_
      refine awp_seq ?_
      refine awp_region ?_
      refine aops_e (w0 rfl) rfl (eff_move rfl rfl) ?_
      refine aops_e (w0 rfl) rfl (eff_move rfl rfl) ?_
      refine aops_e (w0 rfl) rfl (eff_move rfl rfl) ?_
      refine aops_e (w0 rfl) rfl (eff_call [] rfl rfl rfl (c_findL m hms s) List.nodup_nil) ?_
      refine aops_e (w0 rfl) rfl (eff_icmp rfl rfl rfl rfl) ?_
      refine aops_e (w0 rfl) rfl (eff_beq rfl rfl rfl rfl) ?_
      refine aops_nil ?_
      refine awp_cond rfl ?_ ?_
      · intro hc
        exfalso
        have h1 := findL_in hR s
        rw [inL_iff hmem s] at h1
        have h2 : (inL ((l.take 1100).take i) s != (findL m s != -1)) = true := hc
        rw [hall, h1] at h2; simp at h2
      · intro hc
        refine awp_skip ?_
        refine awp_seq ?_
        refine awp_seq ?_
        refine awp_region ?_
        refine aops_e (w0 rfl) rfl (eff_assign rfl rfl) ?_
        refine aops_nil ?_
        refine awp_block ?_
        refine awp_loopJ (α := Nat) (fun i => ⟨[(10, iA i), (5, row1 sA m)], [], [], 85⟩) (fun i => True) (fun i => m.length - i) 0 trivial ?_ ?_
        · exact weak_pick [] ⟨rfl, rfl, trivial⟩ rfl (by decide) rfl rfl
        rintro i hJ1
        refine awp_seq ?_
        refine awp_seq ?_
        refine awp_region ?_
        refine aops_e (w0 rfl) rfl (eff_move rfl rfl) ?_
        refine aops_e (w0 rfl) rfl (eff_move rfl rfl) ?_
        refine aops_e (w0 rfl) rfl (eff_len rfl rfl rfl rfl) ?_
        refine aops_e (w0 rfl) rfl (eff_icmp rfl rfl rfl rfl) ?_
        refine aops_nil ?_
        refine awp_cond rfl ?_ ?_
        · intro hc
          have hi : i < m.length := by simpa using hc
          refine awp_skip ?_
          refine awp_seq ?_
          refine awp_block ?_
          refine awp_seq ?_
          refine awp_region ?_
          refine aops_e (w0 rfl) rfl (eff_move rfl rfl) ?_
          refine aops_e (w0 rfl) rfl (eff_move rfl rfl) ?_
          refine aops_e (w0 rfl) rfl (eff_move rfl rfl) ?_
          refine aops_e (w0 rfl) rfl (eff_indexAddr_lst rfl rfl rfl (len_map (fun _ => rfl)) (by first | omega | (simp only [List.length_map]; omega)) (by first | omega | (simp only [List.length_map]; omega))) ?_
          refine aops_e (w0 rfl) rfl (eff_loadE rfl rfl (map_get (by first | assumption | omega)) ld_one) ?_
          refine aops_e (w0 rfl) rfl (eff_call [] rfl rfl rfl (c_findX m hms _ (findL_at' hR hi)) List.nodup_nil) ?_
          refine aops_e (w0 rfl) rfl (eff_move rfl rfl) ?_
          refine aops_e (w0 rfl) rfl (eff_icmp rfl rfl rfl rfl) ?_
          refine aops_nil ?_
          refine awp_cond rfl ?_ ?_
          · intro hc
            exfalso; simp at hc
          · intro hc
            refine awp_skip ?_
            refine awp_region ?_
            refine aops_e (w0 rfl) rfl (eff_move rfl rfl) ?_
            refine aops_e (w0 rfl) rfl (eff_arith rfl rfl rfl (arith_add (by first | omega | (simp only [List.length_map]; omega)))) ?_
            refine aops_e (w0 rfl) rfl (eff_assign rfl rfl) ?_
            refine aops_nil ?_
            refine ⟨i + 1, trivial, (by omega), ?_⟩
            exact weak_pick [] ⟨rfl, rfl, trivial⟩ rfl (by decide) rfl rfl
        · intro hc
          have hi : ¬ i < m.length := by simpa using hc
          refine awp_exit ?_
          refine awp_seq ?_
          refine awp_region ?_
          refine aops_e (w0 rfl) rfl (eff_assign rfl rfl) ?_
          refine aops_nil ?_
          refine awp_ret ?_
          exact retq rfl (res_tmp rfl res_nil) (gb rfl)

end Go.Sx
