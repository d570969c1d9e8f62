/- A pool's pool, and a turned list's, walked. -/
import Derived.Test.YtdombpcfmjlnlaaSyLive5
import Derived.Test.YtdombpcfmjlnlaaSxPool2
set_option linter.unusedVariables false
set_option linter.unusedSimpArgs false
namespace Go.Sx
open Go Go.Proofs

theorem c_poolSame (l : List Str) (hl : small l.length) (kn : Nat) (hk : kn ≤ 255) : ACalls Try.prog 4 [row1 sA l, uA kn] [] (Gives (bA true)) := by
  have hlt : (l.take 1100).length ≤ 1100 := by rw [List.length_take]; omega
  obtain ⟨m1, e1, hme⟩ : ∃ m e, makeP (l.take 1100) = (m, e) := ⟨_, _, rfl⟩
  have hid := makeP_idem (l.take 1100)
  rw [hme] at hid
  have hml : m1.length ≤ 1100 := makeP_len hme (by omega)
  have hms : small m1.length := by unfold small; omega
  refine acalls_of (n := 68) Try.func4 rfl (by decide +kernel) rfl rfl ?_
  refine awp_seq ?_
  refine awp_region ?_
  refine aops_e (w0 rfl) rfl (eff_assign rfl rfl) ?_
  refine aops_nil ?_
  refine awp_seq ?_
  refine awp_region ?_
  refine aops_e (w0 rfl) rfl (eff_move rfl rfl) ?_
  refine aops_e (w0 rfl) rfl (eff_call [] rfl rfl rfl (c_few l hl) List.nodup_nil) ?_
  refine aops_e (w0 rfl) rfl (eff_assign rfl rfl) ?_
  refine aops_nil ?_
  refine awp_seq ?_
  refine awp_region ?_
  refine aops_e (w0 rfl) rfl (eff_move rfl rfl) ?_
  refine aops_e (w0 rfl) rfl (eff_call [] rfl rfl rfl (c_makeX (l.take 1100) (by omega) hme) List.nodup_nil) ?_
  refine aops_e (w0 rfl) rfl (eff_move rfl rfl) ?_
  refine aops_e (w0 rfl) rfl (eff_extract rfl rfl rfl) ?_
  refine aops_e (w0 rfl) rfl (eff_extract rfl rfl rfl) ?_
  refine aops_e (w0 rfl) rfl (eff_assign rfl rfl) ?_
  refine aops_e (w0 rfl) rfl (eff_assign rfl rfl) ?_
  refine aops_nil ?_
  refine awp_seq ?_
  refine awp_seq ?_
  refine awp_region ?_
  refine aops_e (w0 rfl) rfl (eff_call [] rfl rfl rfl c_live5 List.nodup_nil) ?_
  refine aops_e (w0 rfl) rfl (eff_not rfl rfl) ?_
  refine aops_nil ?_
  refine awp_cond rfl ?_ ?_
  · intro hc
    exfalso; simp at hc
  · intro hc
    refine awp_skip ?_
    refine awp_seq ?_
    refine awp_region ?_
    refine aops_n (w0 rfl) rfl (fun id => eff_nil id 9 1 (.inl rfl) rfl) (fun id1 => ?_)
    refine aops_nil ?_
    refine awp_seq ?_
    refine awp_seq ?_
    refine awp_region ?_
    refine aops_e (w0 rfl) rfl (eff_assign rfl rfl) ?_
    refine aops_nil ?_
    refine awp_block ?_
    refine awp_loopJ (α := Nat × Nat) (fun x => ⟨[(8, iA x.2), (7, .own x.1 1 0 (rotF (l.take 1100) kn x.2).length), (0, row1 sA (l.take 1100)), (1, uA kn), (5, row1 sA m1), (6, iA e1)], [(x.1, .rows 9 1 ((rotF (l.take 1100) kn x.2).map fun x => [sA x]))], [], 68⟩) (fun x => x.2 ≤ (l.take 1100).length) (fun x => (l.take 1100).length - x.2) (id1, 0) (Nat.zero_le _) ?_ ?_
    · exact weak_pick [0] ⟨rfl, rfl, rfl, rfl, rfl, rfl, trivial⟩ rfl (by decide) rfl rfl
    rintro x hJ
    refine awp_seq ?_
    refine awp_seq ?_
    refine awp_region ?_
    refine aops_e (w0 rfl) rfl (eff_move rfl rfl) ?_
    refine aops_e (w0 rfl) rfl (eff_move rfl rfl) ?_
    refine aops_e (w0 rfl) rfl (eff_len rfl rfl rfl rfl) ?_
    refine aops_e (w0 rfl) rfl (eff_icmp rfl rfl rfl rfl) ?_
    refine aops_nil ?_
    refine awp_cond rfl ?_ ?_
    · intro hc
      have hi : x.2 < (l.take 1100).length := by simpa using hc
      have hmod : ((x.2 + kn) % (l.take 1100).length) < (l.take 1100).length := Nat.mod_lt _ (by omega)
      have e := rotF_succ hmod
      refine awp_skip ?_
      refine awp_seq ?_
      refine awp_block ?_
      refine awp_region ?_
      refine aops_e (w0 rfl) rfl (eff_move rfl rfl) ?_
      refine aops_e (w0 rfl) rfl (eff_move rfl rfl) ?_
      refine aops_e (w0 rfl) rfl (eff_move rfl rfl) ?_
      refine aops_e (w0 rfl) rfl (eff_move rfl rfl) ?_
      refine aops_e (w0 rfl) rfl (eff_to (y := iA kn) (eff_convInt rfl rfl) (congrArg iA (i64_wrap (by omega)))) ?_
      refine aops_e (w0 rfl) rfl (eff_to (y := iA (x.2 + kn : Nat)) (eff_arith rfl rfl rfl (arith_add (by omega))) (congrArg iA (by omega))) ?_
      refine aops_e (w0 rfl) rfl (eff_move rfl rfl) ?_
      refine aops_e (w0 rfl) rfl (eff_to (y := iA (l.take 1100).length) (eff_len rfl rfl rfl rfl) (congrArg iA (by simp))) ?_
      refine aops_e (w0 rfl) rfl (eff_to (y := iA (((x.2 + kn) % (l.take 1100).length) : Nat)) (eff_rem rfl rfl rfl (by omega)) (congrArg iA (Int.ofNat_tmod _ _).symm)) ?_
      refine aops_e (w0 rfl) rfl (eff_indexAddr_lst rfl rfl rfl (len_map (fun _ => rfl)) (by first | exact Int.natCast_nonneg _ | (simp only [List.length_map]; exact Int.ofNat_lt.2 hmod)) (by first | exact Int.natCast_nonneg _ | (simp only [List.length_map]; exact Int.ofNat_lt.2 hmod))) ?_
      refine aops_e (w0 rfl) rfl (eff_to (y := sA ((l.take 1100)[((x.2 + kn) % (l.take 1100).length)])) (eff_loadE rfl rfl (map_get (by exact hmod)) ld_one) (rfl)) ?_
      refine aops_n (w0 rfl) rfl (fun id => eff_buildSlice id (ps := [(0, .tmp 38)]) rfl rfl rfl rfl rfl rfl rfl rfl) (fun id2 => ?_)
      refine aops_append 1 (w0 rfl) rfl rfl rfl rfl (by simp) rfl ⟨rfl, _, _, List.mem_of_getElem? (i := 0) rfl, by simp, rfl⟩ (by simp [rotF_len]; omega) (by simp [rotF_len, maxLen]; omega) (fun id3 => ?_)
      refine aops_e (w0 rfl) rfl (eff_assign rfl rfl) ?_
      refine aops_nil ?_
      refine awp_region ?_
      refine aops_e (w0 rfl) rfl (eff_move rfl rfl) ?_
      refine aops_e (w0 rfl) rfl (eff_arith rfl rfl rfl (arith_add (by first | omega | (simp only [List.length_map]; omega)))) ?_
      refine aops_e (w0 rfl) rfl (eff_assign rfl rfl) ?_
      refine aops_nil ?_
      refine ⟨(id3, x.2 + 1), (by show x.2 + 1 ≤ _; omega), (by show (l.take 1100).length - (x.2 + 1) < (l.take 1100).length - x.2; omega), ?_⟩
      exact weak_pick [1] ⟨rfl, (by show some (AV.own _ _ _ _) = some (AV.own _ _ _ _); rw [e]; first | (rw [List.map_append]; rfl) | (rw [List.length_map, List.length_append]; rfl)), rfl, rfl, rfl, rfl, trivial⟩ (by show some [(_, AObj.rows _ _ _)] = some [(_, AObj.rows _ _ _)]; rw [e]; first | (rw [List.map_append]; rfl) | (rw [List.length_map, List.length_append]; rfl)) (by decide) rfl rfl
    · intro hc
      have hi : ¬ x.2 < (l.take 1100).length := by simpa using hc
      have hrt : makeP (rotF (l.take 1100) kn x.2) = (m1, e1) := by rw [show x.2 = (l.take 1100).length from by omega, makeP_rot, hme]
      refine awp_exit ?_
      refine awp_seq ?_
      refine awp_weak (weak_frz 0 7 (T' := [(5, row1 sA m1), (6, iA e1)]) rfl rfl (by simp) ⟨rfl, rfl, trivial⟩) ?_
      refine awp_region ?_
      refine aops_e (w0 rfl) rfl (eff_move rfl rfl) ?_
      refine aops_e (w0 rfl) rfl (eff_call [] rfl rfl rfl (c_makeX (rotF (l.take 1100) kn x.2) (by rw [rotF_len]; omega) hrt) List.nodup_nil) ?_
      refine aops_e (w0 rfl) rfl (eff_move rfl rfl) ?_
      refine aops_e (w0 rfl) rfl (eff_extract rfl rfl rfl) ?_
      refine aops_e (w0 rfl) rfl (eff_extract rfl rfl rfl) ?_
      refine aops_e (w0 rfl) rfl (eff_assign rfl rfl) ?_
      refine aops_e (w0 rfl) rfl (eff_assign rfl rfl) ?_
      refine aops_nil ?_
      refine awp_seq ?_
      refine awp_region ?_
      refine aops_e (w0 rfl) rfl (eff_move rfl rfl) ?_
      refine aops_e (w0 rfl) rfl (eff_call [] rfl rfl rfl (c_makeX m1 (by omega) hid) List.nodup_nil) ?_
      refine aops_e (w0 rfl) rfl (eff_move rfl rfl) ?_
      refine aops_e (w0 rfl) rfl (eff_extract rfl rfl rfl) ?_
      refine aops_e (w0 rfl) rfl (eff_extract rfl rfl rfl) ?_
      refine aops_e (w0 rfl) rfl (eff_assign rfl rfl) ?_
      refine aops_e (w0 rfl) rfl (eff_assign rfl rfl) ?_
      refine aops_nil ?_
      refine awp_seq ?_
      refine awp_region ?_
      refine aops_e (w0 rfl) rfl (eff_move rfl rfl) ?_
      refine aops_e (w0 rfl) rfl (eff_move rfl rfl) ?_
      refine aops_e (w0 rfl) rfl (eff_to (y := bA true) (eff_icmp rfl rfl rfl rfl) (by simp)) ?_
      refine aops_e (w0 rfl) rfl (eff_move rfl rfl) ?_
      refine aops_g (wT rfl rfl rfl rfl) rfl (fun hg => (eff_move rfl rfl)) ?_
      refine aops_g (wT rfl rfl rfl rfl) rfl (fun hg => (eff_move rfl rfl)) ?_
      refine aops_g (wT rfl rfl rfl rfl) rfl (fun hg => (eff_call [] rfl rfl (evs_cons (ev_g hg rfl) (evs_cons (ev_g hg rfl) evs_nil)) (c_sameX m1 m1 hms (sameT_iff.2 rfl)) List.nodup_nil)) ?_
      refine aops_e (w0 rfl) rfl (eff_and rfl rfl rfl (fun h => h)) ?_
      refine aops_e (w0 rfl) rfl (eff_move rfl rfl) ?_
      refine aops_g (wT rfl rfl rfl rfl) rfl (fun hg => (eff_move rfl rfl)) ?_
      refine aops_g (wT rfl rfl rfl rfl) rfl (fun hg => (eff_to (y := bA true) (eff_icmp rfl (ev_g hg rfl) rfl rfl) (by simp))) ?_
      refine aops_e (w0 rfl) rfl (eff_and rfl rfl rfl (fun h => h)) ?_
      refine aops_e (w0 rfl) rfl (eff_move rfl rfl) ?_
      refine aops_g (wT rfl rfl rfl rfl) rfl (fun hg => (eff_move rfl rfl)) ?_
      refine aops_g (wT rfl rfl rfl rfl) rfl (fun hg => (eff_move rfl rfl)) ?_
      refine aops_g (wT rfl rfl rfl rfl) rfl (fun hg => (eff_call [] rfl rfl (evs_cons (ev_g hg rfl) (evs_cons (ev_g hg rfl) evs_nil)) (c_sameX m1 m1 hms (sameT_iff.2 rfl)) List.nodup_nil)) ?_
      refine aops_e (w0 rfl) rfl (eff_and rfl rfl rfl (fun h => h)) ?_
      refine aops_e (w0 rfl) rfl (eff_assign rfl rfl) ?_
      refine aops_nil ?_
      refine awp_ret ?_
      exact retq rfl (res_tmp rfl res_nil) (gb rfl)

end Go.Sx
