/- The pools' reference; two pools together; walked. -/
import Derived.Test.YtdombpcfmjlnlaaSyLive5
import Derived.Test.YtdombpcfmjlnlaaSxPool3
import Derived.Test.YtdombpcfmjlnlaaSxGrow
set_option linter.unusedVariables false
set_option linter.unusedSimpArgs false
namespace Go.Sx
open Go Go.Proofs

theorem c_growN (n : Nat) (hn : n ≤ 1000000) : ACalls Try.prog 100 [.v (.slice none 0 0), iA n] [] (GP (fun q : Nat => .own q 1 0 0) (fun q => [(q, .rows 9 1 [])]) (fun _ => True)) := by
  refine acalls_of (n := 27) Try.func100 rfl (by decide +kernel) rfl rfl ?_
  refine awp_seq ?_
  refine awp_region ?_
  refine aops_e (w0 rfl) rfl (eff_assign rfl rfl) ?_
  refine aops_nil ?_
  refine awp_seq ?_
  refine awp_seq ?_
  refine awp_region ?_
  refine aops_e (w0 rfl) rfl (eff_move rfl rfl) ?_
  refine aops_e (w0 rfl) rfl (eff_icmp rfl rfl rfl rfl) ?_
  refine aops_nil ?_
  refine awp_cond rfl ?_ ?_
  · intro hc
    exfalso; simp at hc; omega
  · intro hc
    refine awp_skip ?_
    refine awp_seq ?_
    refine awp_seq ?_
    refine awp_region ?_
    refine aops_e (w0 rfl) rfl (eff_move rfl rfl) ?_
    refine aops_e (w0 rfl) rfl (eff_move rfl rfl) ?_
    refine aops_e (w0 rfl) rfl (eff_capNil rfl rfl) ?_
    refine aops_e (w0 rfl) rfl (eff_move rfl rfl) ?_
    refine aops_e (w0 rfl) rfl (eff_len rfl rfl rfl rfl) ?_
    refine aops_e (w0 rfl) rfl (eff_to (y := iA 0) (eff_arith rfl rfl rfl (arith_sub (by first | omega | (simp only [List.length_map]; omega)))) (rfl)) ?_
    refine aops_e (w0 rfl) rfl (eff_to (y := iA n) (eff_arith rfl rfl rfl (arith_sub (by first | omega | (simp only [List.length_map]; omega)))) (congrArg iA (by simp))) ?_
    refine aops_e (w0 rfl) rfl (eff_assign rfl rfl) ?_
    refine aops_nil ?_
    refine awp_seq ?_
    refine awp_region ?_
    refine aops_e (w0 rfl) rfl (eff_move rfl rfl) ?_
    refine aops_e (w0 rfl) rfl (eff_icmp rfl rfl rfl rfl) ?_
    refine aops_nil ?_
    refine awp_cond rfl ?_ ?_
    · intro hc
      have hn0 : 0 < n := by simp at hc; omega
      refine awp_region ?_
      refine aops_e (w0 rfl) rfl (eff_move rfl rfl) ?_
      refine aops_e (w0 rfl) rfl (eff_move rfl rfl) ?_
      refine aops_e (w0 rfl) rfl (eff_capNil rfl rfl) ?_
      refine aops_e (w0 rfl) rfl (eff_sliceNil rfl rfl rfl) ?_
      refine aops_e (w0 rfl) rfl (eff_move rfl rfl) ?_
      refine aops_appendZ (n := n) (w0 rfl) rfl rfl rfl rfl hn0 (by first | omega | (simp; omega) | (simp [maxLen]; omega) | (simp; done) | (simp [maxLen]; done)) (by first | omega | (simp; omega) | (simp [maxLen]; omega) | (simp; done) | (simp [maxLen]; done)) rfl (fun id1 => ?_)
      refine aops_e (w0 rfl) rfl (eff_move rfl rfl) ?_
      refine aops_e (w0 rfl) rfl (eff_len rfl rfl rfl rfl) ?_
      refine aops_e (w0 rfl) rfl (eff_sliceTo_own rfl rfl rfl (by first | omega | (simp only [List.length_map]; omega)) (by first | omega | (simp only [List.length_map]; omega))) ?_
      refine aops_e (w0 rfl) rfl (eff_assign rfl rfl) ?_
      refine aops_nil ?_
      refine awp_seq ?_
      refine awp_weak (weak_shrink (m := 0) 0 rfl) ?_
      refine awp_region ?_
      refine aops_e (w0 rfl) rfl (eff_move rfl rfl) ?_
      refine aops_e (w0 rfl) rfl (eff_assign rfl rfl) ?_
      refine aops_nil ?_
      refine awp_ret ?_
      exact retq_keep rfl (res_tmp rfl res_nil) (.cons_cons _ .slnil) (gp _ trivial rfl rfl)
    · intro hc
      refine awp_skip ?_
      refine awp_seq ?_
      refine awp_region ?_
      refine aops_e (w0 rfl) rfl (eff_move rfl rfl) ?_
      refine aops_n (w0 rfl) rfl (fun id => eff_nil id 9 1 (.inl rfl) rfl) (fun id2 => ?_)
      refine aops_nil ?_
      refine awp_ret ?_
      exact retq_keep rfl (res_tmp rfl res_nil) (.cons_cons _ .slnil) (gp _ trivial rfl rfl)

theorem flat_take {ss : List (List Str)} {i : Nat} (h : i < ss.length) : (ss.take (i + 1)).flatten = (ss.take i).flatten ++ ss[i] := by rw [take_snoc h, List.flatten_append]; simp
theorem flat_len {ss : List (List Str)} {i n : Nat} (h : ss.flatten.length ≤ n) : (ss.take i).flatten.length ≤ n := by
  have : ss.flatten = (ss.take i).flatten ++ (ss.drop i).flatten := by rw [← List.flatten_append, List.take_append_drop]
  rw [this, List.length_append] at h; omega

theorem c_concat (ss : List (List Str)) (hs : ss.length ≤ 1000) (hf : ss.flatten.length ≤ 100000) : ACalls Try.prog 60 [(.lst (ss.map fun l => [row1 sA l]))] [] (Gives (row1 sA ss.flatten)) := by
  refine acalls_of (n := 36) Try.func60 rfl (by decide +kernel) rfl rfl ?_
  refine awp_seq ?_
  refine awp_region ?_
  refine aops_e (w0 rfl) rfl (eff_assign rfl rfl) ?_
  refine aops_nil ?_
  refine awp_seq ?_
  refine awp_region ?_
  refine aops_e (w0 rfl) rfl (eff_assign rfl rfl) ?_
  refine aops_nil ?_
  refine awp_seq ?_
  refine awp_seq ?_
  refine awp_region ?_
  refine aops_e (w0 rfl) rfl (eff_move rfl rfl) ?_
  refine aops_e (w0 rfl) rfl (eff_len rfl rfl rfl rfl) ?_
  refine aops_e (w0 rfl) rfl (eff_move rfl rfl) ?_
  refine aops_nil ?_
  refine awp_block ?_
  refine awp_loopJ (α := Nat) (fun i => ⟨[(9, (.lst (ss.map fun l => [row1 sA l]))), (0, (.lst (ss.map fun l => [row1 sA l]))), (10, iA ss.length), (11, iA i), (3, iA (ss.take i).flatten.length)], [], [], 36⟩) (fun i => i ≤ ss.length) (fun i => ss.length - i) 0 (Nat.zero_le _) ?_ ?_
  · exact weak_pick [] ⟨rfl, rfl, (by show some (iA _) = some (iA _); simp), rfl, rfl, trivial⟩ rfl (by decide) rfl rfl
  rintro i hJ
  have hb := flat_len (i := i) hf
  have hb1 := flat_len (i := i + 1) hf
  refine awp_seq ?_
  refine awp_region ?_
  refine aops_e (w0 rfl) rfl (eff_icmp rfl rfl rfl rfl) ?_
  refine aops_nil ?_
  refine awp_seq ?_
  refine awp_cond rfl ?_ ?_
  · intro hc
    have hi : i < ss.length := by simpa using hc
    rw [flat_take hi, List.length_append] at hb1
    refine awp_skip ?_
    refine awp_seq ?_
    refine awp_block ?_
    refine awp_seq ?_
    refine awp_region ?_
    refine aops_e (w0 rfl) rfl (eff_indexAddr_lst rfl rfl rfl (len_map (fun _ => rfl)) (by first | omega | (simp only [List.length_map]; omega)) (by first | omega | (simp only [List.length_map]; omega))) ?_
    refine aops_e (w0 rfl) rfl (eff_to (y := row1 sA ss[i]) (eff_loadE rfl rfl (map_get (by first | assumption | omega)) ld_one) (rfl)) ?_
    refine aops_e (w0 rfl) rfl (eff_assign rfl rfl) ?_
    refine aops_nil ?_
    refine awp_seq ?_
    refine awp_region ?_
    refine aops_e (w0 rfl) rfl (eff_move rfl rfl) ?_
    refine aops_e (w0 rfl) rfl (eff_move rfl rfl) ?_
    refine aops_e (w0 rfl) rfl (eff_len rfl rfl rfl rfl) ?_
    refine aops_e (w0 rfl) rfl (eff_arith rfl rfl rfl (arith_add (by first | omega | (simp only [List.length_map]; omega)))) ?_
    refine aops_e (w0 rfl) rfl (eff_assign rfl rfl) ?_
    refine aops_nil ?_
    refine awp_seq ?_
    refine awp_region ?_
    refine aops_e (w0 rfl) rfl (eff_move rfl rfl) ?_
    refine aops_e (w0 rfl) rfl (eff_icmp rfl rfl rfl rfl) ?_
    refine aops_nil ?_
    refine awp_cond rfl ?_ ?_
    · intro hc
      exfalso; simp at hc; omega
    · intro hc
      refine awp_skip ?_
      refine awp_region ?_
      refine aops_e (w0 rfl) rfl (eff_arith rfl rfl rfl (arith_add (by first | omega | (simp only [List.length_map]; omega)))) ?_
      refine aops_e (w0 rfl) rfl (eff_move rfl rfl) ?_
      refine aops_nil ?_
      refine ⟨i + 1, hi, (by omega), ?_⟩
      exact weak_pick [] ⟨rfl, rfl, rfl, rfl, (by show some (iA _) = some (iA _); rw [flat_take hi, List.length_append]; simp only [List.length_map]; rfl), trivial⟩ rfl (by decide) rfl rfl
  · intro hc
    have hi : ¬ i < ss.length := by simpa using hc
    refine awp_exit ?_
    refine awp_seq ?_
    refine awp_region ?_
    refine aops_e (w0 rfl) rfl (eff_move rfl rfl) ?_
    refine aops_callP [] _ (w0 rfl) rfl rfl rfl rfl (.refl _) (c_growN (ss.take i).flatten.length (by omega)) (fun v1 hv1 => ?_)
    refine aops_e (w0 rfl) rfl (eff_assign rfl rfl) ?_
    refine aops_nil ?_
    refine awp_seq ?_
    refine awp_seq ?_
    refine awp_region ?_
    refine aops_e (w0 rfl) rfl (eff_move rfl rfl) ?_
    refine aops_e (w0 rfl) rfl (eff_len rfl rfl rfl rfl) ?_
    refine aops_e (w0 rfl) rfl (eff_move rfl rfl) ?_
    refine aops_nil ?_
    refine awp_block ?_
    refine awp_loopJ (α := Nat × Nat) (fun x => ⟨[(25, (.lst (ss.map fun l => [row1 sA l]))), (26, iA ss.length), (27, iA x.2), (6, .own x.1 1 0 ((ss.take x.2).flatten).length)], [(x.1, .rows 9 1 (((ss.take x.2).flatten).map fun x => [sA x]))], [], 36⟩) (fun x => x.2 ≤ ss.length) (fun x => ss.length - x.2) (v1, 0) (Nat.zero_le _) ?_ ?_
    · exact weak_pick [0] ⟨rfl, (by show some (iA _) = some (iA _); simp), rfl, rfl, trivial⟩ rfl (by decide) rfl rfl
    rintro x hJ
    have hb := flat_len (i := x.2) hf
    have hb1 := flat_len (i := x.2 + 1) hf
    refine awp_seq ?_
    refine awp_region ?_
    refine aops_e (w0 rfl) rfl (eff_icmp rfl rfl rfl rfl) ?_
    refine aops_nil ?_
    refine awp_seq ?_
    refine awp_cond rfl ?_ ?_
    · intro hc
      have hj : x.2 < ss.length := by simpa using hc
      rw [flat_take hj, List.length_append] at hb1
      refine awp_skip ?_
      refine awp_seq ?_
      refine awp_block ?_
      refine awp_seq ?_
      refine awp_region ?_
      refine aops_e (w0 rfl) rfl (eff_indexAddr_lst rfl rfl rfl (len_map (fun _ => rfl)) (by first | omega | (simp only [List.length_map]; omega)) (by first | omega | (simp only [List.length_map]; omega))) ?_
      refine aops_e (w0 rfl) rfl (eff_to (y := row1 sA ss[x.2]) (eff_loadE rfl rfl (map_get (by first | assumption | omega)) ld_one) (rfl)) ?_
      refine aops_e (w0 rfl) rfl (eff_assign rfl rfl) ?_
      refine aops_nil ?_
      refine awp_region ?_
      refine aops_e (w0 rfl) rfl (eff_move rfl rfl) ?_
      refine aops_e (w0 rfl) rfl (eff_move rfl rfl) ?_
      refine aops_append 0 (w0 rfl) rfl rfl rfl rfl (by rw [List.length_map]) rfl (⟨rfl, len_map (fun _ => rfl)⟩ : SlA _ 1 (row1 sA ss[x.2]) _) (by simp only [List.length_map]; omega) (by simp only [List.length_map, maxLen]; omega) (fun id2 => ?_)
      refine aops_e (w0 rfl) rfl (eff_assign rfl rfl) ?_
      refine aops_nil ?_
      refine awp_region ?_
      refine aops_e (w0 rfl) rfl (eff_arith rfl rfl rfl (arith_add (by first | omega | (simp only [List.length_map]; omega)))) ?_
      refine aops_e (w0 rfl) rfl (eff_move rfl rfl) ?_
      refine aops_nil ?_
      refine ⟨(id2, x.2 + 1), (by show x.2 + 1 ≤ _; omega), (by show ss.length - (x.2 + 1) < ss.length - x.2; omega), ?_⟩
      exact weak_pick [0] ⟨rfl, rfl, rfl, (by show some (AV.own _ _ _ _) = some (AV.own _ _ _ _); rw [flat_take hj, List.length_append, List.length_map]; first | done | rw [List.length_map]), trivial⟩ (by show some [(_, AObj.rows _ _ _)] = some [(_, AObj.rows _ _ _)]; rw [flat_take hj, List.map_append]) (by decide) rfl rfl
    · intro hc
      have hj : ¬ x.2 < ss.length := by simpa using hc
      have ef : ((ss.take x.2).flatten) = ss.flatten := by rw [List.take_of_length_le (by omega)]
      refine awp_exit ?_
      refine awp_seq ?_
      refine awp_region ?_
      refine aops_e (w0 rfl) rfl (eff_move rfl rfl) ?_
      refine aops_e (w0 rfl) rfl (eff_assign rfl rfl) ?_
      refine aops_nil ?_
      refine awp_ret ?_
      exact retq_frz 0 rfl rfl rfl rfl (by rw [List.length_map]) (by show row1 sA _ = AV.lst _; rw [ef]; rfl)

theorem c_with (l : List Str) (hl : l.length ≤ 100000) (s : Str) : ACalls Try.prog 59 [row1 sA l, sA s] [] (Gives (row1 sA (withF l s))) := by
  refine acalls_of (n := 49) Try.func59 rfl (by decide +kernel) rfl rfl ?_
  refine awp_seq ?_
  refine awp_region ?_
  refine aops_e (w0 rfl) rfl (eff_assign rfl rfl) ?_
  refine aops_nil ?_
  refine awp_seq ?_
  refine awp_region ?_
  refine aops_n (w0 rfl) rfl (fun id => eff_nil id 9 1 (.inl rfl) rfl) (fun id1 => ?_)
  refine aops_nil ?_
  refine awp_seq ?_
  refine awp_region ?_
  refine aops_e (w0 rfl) rfl (eff_assign rfl rfl) ?_
  refine aops_nil ?_
  refine awp_seq ?_
  refine awp_seq ?_
  refine awp_region ?_
  refine aops_e (w0 rfl) rfl (eff_assign rfl rfl) ?_
  refine aops_nil ?_
  refine awp_block ?_
  refine awp_loopJ (α := Nat × Nat) (fun x => ⟨[(7, iA x.2), (5, .own x.1 1 0 (wO l s x.2).length), (6, bA (wD l s x.2)), (0, row1 sA l), (1, sA s)], [(x.1, .rows 9 1 ((wO l s x.2).map fun x => [sA x]))], [], 49⟩) (fun x => x.2 ≤ l.length ∧ inL (l.take x.2) s = false) (fun x => l.length - x.2) (id1, 0) ⟨Nat.zero_le _, rfl⟩ ?_ ?_
  · exact weak_pick [0] ⟨rfl, rfl, rfl, rfl, rfl, trivial⟩ rfl (by decide) rfl rfl
  rintro x hJ
  have hb := wO_len l s x.2
  refine awp_seq ?_
  refine awp_seq ?_
  refine awp_region ?_
  refine aops_e (w0 rfl) rfl (eff_move rfl rfl) ?_
  refine aops_e (w0 rfl) rfl (eff_move rfl rfl) ?_
  refine aops_e (w0 rfl) rfl (eff_len rfl rfl rfl rfl) ?_
  refine aops_e (w0 rfl) rfl (eff_icmp rfl rfl rfl rfl) ?_
  refine aops_nil ?_
  refine awp_cond rfl ?_ ?_
  · intro hc
    have hi : x.2 < l.length := by simpa using hc
    refine awp_skip ?_
    refine awp_seq ?_
    refine awp_block ?_
    refine awp_seq ?_
    refine awp_seq ?_
    refine awp_region ?_
    refine aops_e (w0 rfl) rfl (eff_move rfl rfl) ?_
    refine aops_e (w0 rfl) rfl (eff_move rfl rfl) ?_
    refine aops_e (w0 rfl) rfl (eff_indexAddr_lst rfl rfl rfl (len_map (fun _ => rfl)) (by first | omega | (simp only [List.length_map]; omega)) (by first | omega | (simp only [List.length_map]; omega))) ?_
    refine aops_e (w0 rfl) rfl (eff_loadE rfl rfl (map_get (by first | assumption | omega)) ld_one) ?_
    refine aops_e (w0 rfl) rfl (eff_move rfl rfl) ?_
    refine aops_e (w0 rfl) rfl (eff_scmp rfl rfl rfl rfl) ?_
    refine aops_nil ?_
    refine awp_cond rfl ?_ ?_
    · intro hc
      have hin : inL l s = true := by have h1 : beqS l[x.2] s = true := hc; exact inL_mem.2 (beqS_iff.1 h1 ▸ List.getElem_mem hi)
      refine awp_seq ?_
      refine awp_region ?_
      refine aops_e (w0 rfl) rfl (eff_move rfl rfl) ?_
      refine aops_e (w0 rfl) rfl (eff_assign rfl rfl) ?_
      refine aops_nil ?_
      refine awp_ret ?_
      exact retq rfl (res_tmp rfl res_nil) (gvr (by unfold withF; rw [hin]; rfl))
    · intro hc
      have hne : beqS l[x.2] s = false := hc
      refine awp_skip ?_
      refine awp_seq ?_
      refine awp_seq ?_
      refine awp_region ?_
      refine aops_e (w0 rfl) rfl (eff_move rfl rfl) ?_
      refine aops_e (w0 rfl) rfl (eff_not rfl rfl) ?_
      refine aops_e (w0 rfl) rfl (eff_move rfl rfl) ?_
      refine aops_g (wT rfl rfl rfl rfl) rfl (fun hg => (eff_move rfl rfl)) ?_
      refine aops_g (wT rfl rfl rfl rfl) rfl (fun hg => (eff_move rfl rfl)) ?_
      refine aops_g (wT rfl rfl rfl rfl) rfl (fun hg => (eff_indexAddr_lst rfl (ev_g hg rfl) (ev_g hg rfl) (len_map (fun _ => rfl)) (by (try simp at hg) <;> first | omega | (simp only [List.length_map]; omega)) (by (try simp at hg) <;> first | omega | (simp only [List.length_map]; omega)))) ?_
      refine aops_g (wT rfl rfl rfl rfl) rfl (fun hg => (eff_loadE rfl (ev_g hg rfl) (map_getD (by (try simp at hg) <;> first | assumption | omega)) ld_one)) ?_
      refine aops_g (wT rfl rfl rfl rfl) rfl (fun hg => (eff_move rfl rfl)) ?_
      refine aops_g (wT rfl rfl rfl rfl) rfl (fun hg => (eff_scmp rfl (ev_g hg rfl) (ev_g hg rfl) rfl)) ?_
      refine aops_e (w0 rfl) rfl (eff_and rfl rfl rfl (fun h => h)) ?_
      refine aops_nil ?_
      refine awp_cond rfl ?_ ?_
      · intro hc
        have h1 : (!wD l s x.2 && ltS s l[x.2]) = true := by have h : (!wD l s x.2 && !(Op.bytesLess (l.getD x.2 default).toList s.toList || (l.getD x.2 default).toList == s.toList)) = true := hc; rw [leS_not, Bool.not_not, getD_eq hi] at h; exact h
        have h2 := wO_in hi (notT (andL h1)) (andR h1)
        have e := h2.1
        have ed := h2.2
        refine awp_seq ?_
        refine awp_region ?_
        refine aops_e (w0 rfl) rfl (eff_move rfl rfl) ?_
        refine aops_e (w0 rfl) rfl (eff_move rfl rfl) ?_
        refine aops_n (w0 rfl) rfl (fun id => eff_buildSlice id (ps := [(0, .tmp 32)]) rfl rfl rfl rfl rfl rfl rfl rfl) (fun id2 => ?_)
        refine aops_append 1 (w0 rfl) rfl rfl rfl rfl (by simp) rfl ⟨rfl, _, _, List.mem_of_getElem? (i := 0) rfl, by simp, rfl⟩ (by simp; omega) (by simp [maxLen]; omega) (fun id3 => ?_)
        refine aops_e (w0 rfl) rfl (eff_assign rfl rfl) ?_
        refine aops_nil ?_
        refine awp_region ?_
        refine aops_e (w0 rfl) rfl (eff_assign rfl rfl) ?_
        refine aops_nil ?_
        refine awp_region ?_
        refine aops_e (w0 rfl) rfl (eff_move rfl rfl) ?_
        refine aops_e (w0 rfl) rfl (eff_move rfl rfl) ?_
        refine aops_e (w0 rfl) rfl (eff_move rfl rfl) ?_
        refine aops_e (w0 rfl) rfl (eff_indexAddr_lst rfl rfl rfl (len_map (fun _ => rfl)) (by first | omega | (simp only [List.length_map]; omega)) (by first | omega | (simp only [List.length_map]; omega))) ?_
        refine aops_e (w0 rfl) rfl (eff_to (y := sA l[x.2]) (eff_loadE rfl rfl (map_get (by first | assumption | omega)) ld_one) (rfl)) ?_
        refine aops_n (w0 rfl) rfl (fun id => eff_buildSlice id (ps := [(0, .tmp 39)]) rfl rfl rfl rfl rfl rfl rfl rfl) (fun id4 => ?_)
        refine aops_append 2 (w0 rfl) rfl rfl rfl rfl (by simp) rfl ⟨rfl, _, _, List.mem_of_getElem? (i := 0) rfl, by simp, rfl⟩ (by simp; omega) (by simp [maxLen]; omega) (fun id5 => ?_)
        refine aops_e (w0 rfl) rfl (eff_assign rfl rfl) ?_
        refine aops_nil ?_
        refine awp_region ?_
        refine aops_e (w0 rfl) rfl (eff_move rfl rfl) ?_
        refine aops_e (w0 rfl) rfl (eff_arith rfl rfl rfl (arith_add (by first | omega | (simp only [List.length_map]; omega)))) ?_
        refine aops_e (w0 rfl) rfl (eff_assign rfl rfl) ?_
        refine aops_nil ?_
        refine ⟨(id5, x.2 + 1), ⟨by show x.2 + 1 ≤ _; omega, by show inL (l.take (x.2 + 1)) s = false; rw [inL_take hi, hJ.2, hne]; rfl⟩, (by show l.length - (x.2 + 1) < l.length - x.2; omega), ?_⟩
        exact weak_pick [2] ⟨rfl, (by show some (AV.own _ _ _ _) = some (AV.own _ _ _ _); rw [e]; first | (rw [List.map_append]; rfl) | (rw [List.map_append, List.map_append]; rfl) | (simp only [List.length_append, List.length_map]; rfl)), (by show some (bA _) = some (bA _); rw [ed]), rfl, rfl, trivial⟩ (by show some [(_, AObj.rows _ _ _)] = some [(_, AObj.rows _ _ _)]; rw [e]; first | (rw [List.map_append]; rfl) | (rw [List.map_append, List.map_append]; rfl) | (simp only [List.length_append, List.length_map]; rfl)) (by decide) rfl rfl
      · intro hc
        have h1 : (!wD l s x.2 && ltS s l[x.2]) = false := by have h : (!wD l s x.2 && !(Op.bytesLess (l.getD x.2 default).toList s.toList || (l.getD x.2 default).toList == s.toList)) = false := hc; rw [leS_not, Bool.not_not, getD_eq hi] at h; exact h
        have h2 := wO_by hi h1
        have e := h2.1
        have ed := h2.2
        refine awp_skip ?_
        refine awp_region ?_
        refine aops_e (w0 rfl) rfl (eff_move rfl rfl) ?_
        refine aops_e (w0 rfl) rfl (eff_move rfl rfl) ?_
        refine aops_e (w0 rfl) rfl (eff_move rfl rfl) ?_
        refine aops_e (w0 rfl) rfl (eff_indexAddr_lst rfl rfl rfl (len_map (fun _ => rfl)) (by first | omega | (simp only [List.length_map]; omega)) (by first | omega | (simp only [List.length_map]; omega))) ?_
        refine aops_e (w0 rfl) rfl (eff_to (y := sA l[x.2]) (eff_loadE rfl rfl (map_get (by first | assumption | omega)) ld_one) (rfl)) ?_
        refine aops_n (w0 rfl) rfl (fun id => eff_buildSlice id (ps := [(0, .tmp 39)]) rfl rfl rfl rfl rfl rfl rfl rfl) (fun id6 => ?_)
        refine aops_append 1 (w0 rfl) rfl rfl rfl rfl (by simp) rfl ⟨rfl, _, _, List.mem_of_getElem? (i := 0) rfl, by simp, rfl⟩ (by simp; omega) (by simp [maxLen]; omega) (fun id7 => ?_)
        refine aops_e (w0 rfl) rfl (eff_assign rfl rfl) ?_
        refine aops_nil ?_
        refine awp_region ?_
        refine aops_e (w0 rfl) rfl (eff_move rfl rfl) ?_
        refine aops_e (w0 rfl) rfl (eff_arith rfl rfl rfl (arith_add (by first | omega | (simp only [List.length_map]; omega)))) ?_
        refine aops_e (w0 rfl) rfl (eff_assign rfl rfl) ?_
        refine aops_nil ?_
        refine ⟨(id7, x.2 + 1), ⟨by show x.2 + 1 ≤ _; omega, by show inL (l.take (x.2 + 1)) s = false; rw [inL_take hi, hJ.2, hne]; rfl⟩, (by show l.length - (x.2 + 1) < l.length - x.2; omega), ?_⟩
        exact weak_pick [1] ⟨rfl, (by show some (AV.own _ _ _ _) = some (AV.own _ _ _ _); rw [e]; first | (rw [List.map_append]; rfl) | (rw [List.map_append, List.map_append]; rfl) | (simp only [List.length_append, List.length_map]; rfl)), (by show some (bA _) = some (bA _); rw [ed]), rfl, rfl, trivial⟩ (by show some [(_, AObj.rows _ _ _)] = some [(_, AObj.rows _ _ _)]; rw [e]; first | (rw [List.map_append]; rfl) | (rw [List.map_append, List.map_append]; rfl) | (simp only [List.length_append, List.length_map]; rfl)) (by decide) rfl rfl
  · intro hc
    have hi : ¬ x.2 < l.length := by simpa using hc
    refine awp_exit ?_
    refine awp_seq ?_
    refine awp_seq ?_
    refine awp_region ?_
    refine aops_e (w0 rfl) rfl (eff_move rfl rfl) ?_
    refine aops_e (w0 rfl) rfl (eff_not rfl rfl) ?_
    refine aops_nil ?_
    refine awp_cond rfl ?_ ?_
    · intro hc
      have ef := wO_end0 hi hJ.2 (notT hc)
      refine awp_region ?_
      refine aops_e (w0 rfl) rfl (eff_move rfl rfl) ?_
      refine aops_e (w0 rfl) rfl (eff_move rfl rfl) ?_
      refine aops_n (w0 rfl) rfl (fun id => eff_buildSlice id (ps := [(0, .tmp 45)]) rfl rfl rfl rfl rfl rfl rfl rfl) (fun id8 => ?_)
      refine aops_append 1 (w0 rfl) rfl rfl rfl rfl (by simp) rfl ⟨rfl, _, _, List.mem_of_getElem? (i := 0) rfl, by simp, rfl⟩ (by simp; omega) (by simp [maxLen]; omega) (fun id9 => ?_)
      refine aops_e (w0 rfl) rfl (eff_assign rfl rfl) ?_
      refine aops_nil ?_
      refine awp_seq ?_
      refine awp_region ?_
      refine aops_e (w0 rfl) rfl (eff_move rfl rfl) ?_
      refine aops_e (w0 rfl) rfl (eff_assign rfl rfl) ?_
      refine aops_nil ?_
      refine awp_ret ?_
      exact retq_frz 1 rfl rfl rfl rfl (by simp) (by rw [ef]; first | rfl | (show AV.lst _ = AV.lst _; rw [List.map_append]; rfl))
    · intro hc
      have ef := wO_end1 hi hJ.2 (notF hc)
      refine awp_skip ?_
      refine awp_seq ?_
      refine awp_region ?_
      refine aops_e (w0 rfl) rfl (eff_move rfl rfl) ?_
      refine aops_e (w0 rfl) rfl (eff_assign rfl rfl) ?_
      refine aops_nil ?_
      refine awp_ret ?_
      exact retq_frz 0 rfl rfl rfl rfl (by simp) (by rw [ef]; first | rfl | (show AV.lst _ = AV.lst _; rw [List.map_append]; rfl))

theorem c_refMake (l : List Str) (hl : l.length ≤ 100000) : ACalls Try.prog 19 [row1 sA l] [] (Gives (.tup [row1 sA (makeP l).1, iA (makeP l).2])) := by
  refine acalls_of (n := 35) Try.func19 rfl (by decide +kernel) rfl rfl ?_
  refine awp_seq ?_
  refine awp_region ?_
  refine aops_e (w0 rfl) rfl (eff_assign rfl rfl) ?_
  refine aops_e (w0 rfl) rfl (eff_assign rfl rfl) ?_
  refine aops_nil ?_
  refine awp_seq ?_
  refine awp_seq ?_
  refine awp_region ?_
  refine aops_e (w0 rfl) rfl (eff_assign rfl rfl) ?_
  refine aops_nil ?_
  refine awp_block ?_
  refine awp_loopJ (α := Nat) (fun i => ⟨[(4, iA i), (0, row1 sA l)], [], [], 35⟩) (fun i => i ≤ l.length ∧ (l.take i).any longS = false) (fun i => l.length - i) 0 ⟨Nat.zero_le _, rfl⟩ ?_ ?_
  · exact weak_pick [] ⟨rfl, rfl, trivial⟩ rfl (by decide) rfl rfl
  rintro i hJ
  refine awp_seq ?_
  refine awp_seq ?_
  refine awp_region ?_
  refine aops_e (w0 rfl) rfl (eff_move rfl rfl) ?_
  refine aops_e (w0 rfl) rfl (eff_move rfl rfl) ?_
  refine aops_e (w0 rfl) rfl (eff_len rfl rfl rfl rfl) ?_
  refine aops_e (w0 rfl) rfl (eff_icmp rfl rfl rfl rfl) ?_
  refine aops_nil ?_
  refine awp_cond rfl ?_ ?_
  · intro hc
    have hi : i < l.length := by simpa using hc
    refine awp_skip ?_
    refine awp_seq ?_
    refine awp_block ?_
    refine awp_seq ?_
    refine awp_region ?_
    refine aops_e (w0 rfl) rfl (eff_move rfl rfl) ?_
    refine aops_e (w0 rfl) rfl (eff_move rfl rfl) ?_
    refine aops_e (w0 rfl) rfl (eff_indexAddr_lst rfl rfl rfl (len_map (fun _ => rfl)) (by first | omega | (simp only [List.length_map]; omega)) (by first | omega | (simp only [List.length_map]; omega))) ?_
    refine aops_e (w0 rfl) rfl (eff_loadE rfl rfl (map_get (by first | assumption | omega)) ld_one) ?_
    refine aops_e (w0 rfl) rfl (eff_len rfl rfl rfl rfl) ?_
    refine aops_e (w0 rfl) rfl (eff_icmp rfl rfl rfl rfl) ?_
    refine aops_nil ?_
    refine awp_cond rfl ?_ ?_
    · intro hc
      have hlg : longS l[i] = true := by simp at hc; unfold longS; simp; omega
      have hm := makeP_long (List.any_eq_true.2 ⟨_, List.getElem_mem hi, hlg⟩)
      refine awp_seq ?_
      refine awp_region ?_
      refine aops_e (w0 rfl) rfl (eff_sub (y := .lst []) (eff_assign rfl rfl) .z) ?_
      refine aops_e (w0 rfl) rfl (eff_assign rfl rfl) ?_
      refine aops_nil ?_
      refine awp_ret ?_
      exact retq rfl (res_tmp rfl (res_tmp rfl res_nil)) (gvr (by rw [hm]; rfl))
    · intro hc
      have hlg : longS l[i] = false := by simp at hc; unfold longS; simp; omega
      refine awp_skip ?_
      refine awp_region ?_
      refine aops_e (w0 rfl) rfl (eff_move rfl rfl) ?_
      refine aops_e (w0 rfl) rfl (eff_arith rfl rfl rfl (arith_add (by first | omega | (simp only [List.length_map]; omega)))) ?_
      refine aops_e (w0 rfl) rfl (eff_assign rfl rfl) ?_
      refine aops_nil ?_
      refine ⟨i + 1, ⟨by omega, by rw [any_take hi, hJ.2, hlg]; rfl⟩, (by omega), ?_⟩
      exact weak_pick [] ⟨rfl, rfl, trivial⟩ rfl (by decide) rfl rfl
  · intro hc
    have hi : ¬ i < l.length := by simpa using hc
    have hlong : l.any longS = false := by have := hJ.2; rwa [List.take_of_length_le (by omega)] at this
    refine awp_exit ?_
    refine awp_seq ?_
    refine awp_region ?_
    refine aops_e (w0 rfl) rfl (eff_sub (y := .lst []) (eff_assign rfl rfl) .z) ?_
    refine aops_nil ?_
    refine awp_seq ?_
    refine awp_seq ?_
    refine awp_region ?_
    refine aops_e (w0 rfl) rfl (eff_assign rfl rfl) ?_
    refine aops_nil ?_
    refine awp_block ?_
    refine awp_loopJ (α := Nat) (fun i => ⟨[(6, iA i), (0, row1 sA l), (5, row1 sA (insF (l.take i)))], [], [], 35⟩) (fun i => i ≤ l.length ∧ (insF (l.take i)).length ≤ 1024) (fun i => l.length - i) 0 ⟨Nat.zero_le _, Nat.zero_le _⟩ ?_ ?_
    · exact weak_pick [] ⟨rfl, rfl, rfl, trivial⟩ rfl (by decide) rfl rfl
    rintro i hJ
    refine awp_seq ?_
    refine awp_seq ?_
    refine awp_region ?_
    refine aops_e (w0 rfl) rfl (eff_move rfl rfl) ?_
    refine aops_e (w0 rfl) rfl (eff_move rfl rfl) ?_
    refine aops_e (w0 rfl) rfl (eff_len rfl rfl rfl rfl) ?_
    refine aops_e (w0 rfl) rfl (eff_icmp rfl rfl rfl rfl) ?_
    refine aops_nil ?_
    refine awp_cond rfl ?_ ?_
    · intro hc
      have hi : i < l.length := by simpa using hc
      refine awp_skip ?_
      refine awp_seq ?_
      refine awp_block ?_
      refine awp_seq ?_
      refine awp_region ?_
      refine aops_e (w0 rfl) rfl (eff_move rfl rfl) ?_
      refine aops_e (w0 rfl) rfl (eff_move rfl rfl) ?_
      refine aops_e (w0 rfl) rfl (eff_move rfl rfl) ?_
      refine aops_e (w0 rfl) rfl (eff_indexAddr_lst rfl rfl rfl (len_map (fun _ => rfl)) (by first | omega | (simp only [List.length_map]; omega)) (by first | omega | (simp only [List.length_map]; omega))) ?_
      refine aops_e (w0 rfl) rfl (eff_loadE rfl rfl (map_get (by first | assumption | omega)) ld_one) ?_
      refine aops_e (w0 rfl) rfl (eff_call [] rfl rfl rfl (c_with (insF (l.take i)) (by omega) l[i]) List.nodup_nil) ?_
      refine aops_e (w0 rfl) rfl (eff_assign rfl rfl) ?_
      refine aops_nil ?_
      refine awp_seq ?_
      refine awp_region ?_
      refine aops_e (w0 rfl) rfl (eff_move rfl rfl) ?_
      refine aops_e (w0 rfl) rfl (eff_len rfl rfl rfl rfl) ?_
      refine aops_e (w0 rfl) rfl (eff_icmp rfl rfl rfl rfl) ?_
      refine aops_nil ?_
      refine awp_cond rfl ?_ ?_
      · intro hc
        have hm := makeP_big (l := l) (i := i + 1) (by rw [insF_take hi]; simp at hc; omega)
        refine awp_seq ?_
        refine awp_region ?_
        refine aops_e (w0 rfl) rfl (eff_sub (y := .lst []) (eff_assign rfl rfl) .z) ?_
        refine aops_e (w0 rfl) rfl (eff_assign rfl rfl) ?_
        refine aops_nil ?_
        refine awp_ret ?_
        exact retq rfl (res_tmp rfl (res_tmp rfl res_nil)) (gvr (by rw [hm]; rfl))
      · intro hc
        have hle : (withF (insF (l.take i)) l[i]).length ≤ 1024 := by simp at hc; omega
        refine awp_skip ?_
        refine awp_region ?_
        refine aops_e (w0 rfl) rfl (eff_move rfl rfl) ?_
        refine aops_e (w0 rfl) rfl (eff_arith rfl rfl rfl (arith_add (by first | omega | (simp only [List.length_map]; omega)))) ?_
        refine aops_e (w0 rfl) rfl (eff_assign rfl rfl) ?_
        refine aops_nil ?_
        refine ⟨i + 1, ⟨by omega, by rw [insF_take hi]; omega⟩, (by omega), ?_⟩
        exact weak_pick [] ⟨rfl, rfl, (by show some (row1 sA _) = some (row1 sA _); rw [insF_take hi]), trivial⟩ rfl (by decide) rfl rfl
    · intro hc
      have hi : ¬ i < l.length := by simpa using hc
      have hm := makeP_insF hlong (by have := hJ.2; rwa [List.take_of_length_le (by omega)] at this)
      refine awp_exit ?_
      refine awp_seq ?_
      refine awp_region ?_
      refine aops_e (w0 rfl) rfl (eff_move rfl rfl) ?_
      refine aops_e (w0 rfl) rfl (eff_assign rfl rfl) ?_
      refine aops_e (w0 rfl) rfl (eff_assign rfl rfl) ?_
      refine aops_nil ?_
      refine awp_ret ?_
      exact retq rfl (res_tmp rfl (res_tmp rfl res_nil)) (gvr (by rw [hm]; show AV.tup [row1 sA _, _] = _; rw [List.take_of_length_le (by omega)]))

theorem c_refRight (l : List Str) (hl : small l.length) : ACalls Try.prog 23 [row1 sA l] [] (Gives (bA (rightL l))) := by
  simp only [small] at hl
  refine acalls_of (n := 35) Try.func23 rfl (by decide +kernel) rfl rfl ?_
  refine awp_seq ?_
  refine awp_region ?_
  refine aops_e (w0 rfl) rfl (eff_assign rfl rfl) ?_
  refine aops_nil ?_
  refine awp_seq ?_
  refine awp_seq ?_
  refine awp_region ?_
  refine aops_e (w0 rfl) rfl (eff_move rfl rfl) ?_
  refine aops_e (w0 rfl) rfl (eff_len rfl rfl rfl rfl) ?_
  refine aops_e (w0 rfl) rfl (eff_icmp rfl rfl rfl rfl) ?_
  refine aops_nil ?_
  refine awp_cond rfl ?_ ?_
  · intro hc
    have hr := right_big (l := l) (by simp at hc; omega)
    refine awp_seq ?_
    refine awp_region ?_
    refine aops_e (w0 rfl) rfl (eff_assign rfl rfl) ?_
    refine aops_nil ?_
    refine awp_ret ?_
    exact retq rfl (res_tmp rfl res_nil) (gb hr.symm)
  · intro hc
    have h1 : l.length ≤ 1024 := by simp at hc; omega
    refine awp_skip ?_
    refine awp_seq ?_
    refine awp_seq ?_
    refine awp_region ?_
    refine aops_e (w0 rfl) rfl (eff_assign rfl rfl) ?_
    refine aops_nil ?_
    refine awp_block ?_
    refine awp_loopJ (α := Nat) (fun i => ⟨[(3, iA i), (0, row1 sA l)], [], [], 35⟩) (fun i => i ≤ l.length ∧ (l.take i).any longS = false ∧ ∀ k, k < i → 0 < k → gS l k = true) (fun i => l.length - i) 0 ⟨by omega, rfl, fun k h1 h2 => by omega⟩ ?_ ?_
    · exact weak_pick [] ⟨rfl, rfl, trivial⟩ rfl (by decide) rfl rfl
    rintro i hJ
    refine awp_seq ?_
    refine awp_seq ?_
    refine awp_region ?_
    refine aops_e (w0 rfl) rfl (eff_move rfl rfl) ?_
    refine aops_e (w0 rfl) rfl (eff_move rfl rfl) ?_
    refine aops_e (w0 rfl) rfl (eff_len rfl rfl rfl rfl) ?_
    refine aops_e (w0 rfl) rfl (eff_icmp rfl rfl rfl rfl) ?_
    refine aops_nil ?_
    refine awp_cond rfl ?_ ?_
    · intro hc
      have hi : i < l.length := by simpa using hc
      refine awp_skip ?_
      refine awp_seq ?_
      refine awp_block ?_
      refine awp_seq ?_
      refine awp_drawM [0, 0, 3, 7, 15, 31, 63, 127, 255, 511, 1023, 1023, 3071, 8191, 16383, 1023, 1023, 99327, 230399, 524287, 1048575, 2097151] 22 rfl (by kernel_rfl) ?_
      refine calm_e (w0 rfl) rfl (eff_move rfl rfl) ?_
      refine calm_e (w0 rfl) rfl (eff_move rfl rfl) ?_
      refine calm_e (w0 rfl) rfl (eff_indexAddr_lst rfl rfl rfl (len_map (fun _ => rfl)) (by first | omega | (simp only [List.length_map]; omega)) (by first | omega | (simp only [List.length_map]; omega))) ?_
      refine calm_e (w0 rfl) rfl (eff_loadE rfl rfl (map_get (by first | assumption | omega)) ld_one) ?_
      refine calm_e (w0 rfl) rfl (eff_len rfl rfl rfl rfl) ?_
      refine calm_e (w0 rfl) rfl (eff_icmp rfl rfl rfl rfl) ?_
      refine calm_e (w0 rfl) rfl (eff_move rfl rfl) ?_
      refine calm_g (wF rfl rfl rfl rfl) rfl (fun hg => (eff_move rfl rfl)) ?_
      refine calm_g (wF rfl rfl rfl rfl) rfl (fun hg => (eff_icmp rfl (ev_g hg rfl) rfl rfl)) ?_
      refine calm_g (wF rfl rfl rfl rfl) rfl (fun hg => (eff_move rfl (ev_g hg rfl))) ?_
      refine calm_g (wTg rfl rfl rfl rfl) rfl (fun hg => (eff_move rfl rfl)) ?_
      refine calm_g (wTg rfl rfl rfl rfl) rfl (fun hg => (eff_move rfl rfl)) ?_
      refine calm_g (wTg rfl rfl rfl rfl) rfl (fun hg => (eff_arith rfl (ev_g hg rfl) rfl (arith_sub (by first | omega | (simp only [List.length_map]; omega))))) ?_
      refine calm_g (wTg rfl rfl rfl rfl) rfl (fun hg => (eff_indexAddr_lst rfl (ev_g hg rfl) (ev_g hg rfl) (len_map (fun _ => rfl)) (by (try simp at hg) <;> first | omega | (simp only [List.length_map]; omega)) (by (try simp at hg) <;> first | omega | (simp only [List.length_map]; omega)))) ?_
      refine calm_g (wTg rfl rfl rfl rfl) rfl (fun hg => (eff_loadE rfl (ev_g hg rfl) (map_getD (by (try simp at hg) <;> first | assumption | omega)) ld_one)) ?_
      refine calm_g (wTg rfl rfl rfl rfl) rfl (fun hg => (eff_move rfl rfl)) ?_
      refine calm_g (wTg rfl rfl rfl rfl) rfl (fun hg => (eff_move rfl rfl)) ?_
      refine calm_g (wTg rfl rfl rfl rfl) rfl (fun hg => (eff_indexAddr_lst rfl (ev_g hg rfl) (ev_g hg rfl) (len_map (fun _ => rfl)) (by (try simp at hg) <;> first | omega | (simp only [List.length_map]; omega)) (by (try simp at hg) <;> first | omega | (simp only [List.length_map]; omega)))) ?_
      refine calm_g (wTg rfl rfl rfl rfl) rfl (fun hg => (eff_loadE rfl (ev_g hg rfl) (map_getD (by (try simp at hg) <;> first | assumption | omega)) ld_one)) ?_
      refine calm_g (wTg rfl rfl rfl rfl) rfl (fun hg => (eff_scmp rfl (ev_g hg rfl) (ev_g hg rfl) rfl)) ?_
      refine calm_g (wF rfl rfl rfl rfl) rfl (fun hg => (eff_and rfl (ev_g hg rfl) rfl (fun h => by first | (simp [h, hg]; done) | (simp_all; done)))) ?_
      refine calm_e (w0 rfl) rfl (eff_or rfl rfl rfl (fun h => by rw [h]; rfl)) ?_
      refine .done ?_
      refine aops_nil ?_
      refine awp_cond rfl ?_ ?_
      · intro hc
        have hr : rightL l = false := right_or hi hc
        refine awp_seq ?_
        refine awp_region ?_
        refine aops_e (w0 rfl) rfl (eff_assign rfl rfl) ?_
        refine aops_nil ?_
        refine awp_ret ?_
        exact retq rfl (res_tmp rfl res_nil) (gb hr.symm)
      · intro hc
        have q2 := right_on hi hc
        have hlg := q2.1
        have hgk := q2.2
        refine awp_skip ?_
        refine awp_region ?_
        refine aops_e (w0 rfl) rfl (eff_move rfl rfl) ?_
        refine aops_e (w0 rfl) rfl (eff_arith rfl rfl rfl (arith_add (by first | omega | (simp only [List.length_map]; omega)))) ?_
        refine aops_e (w0 rfl) rfl (eff_assign rfl rfl) ?_
        refine aops_nil ?_
        refine ⟨i + 1, ⟨by omega, by rw [any_take hi, hJ.2.1, hlg]; rfl, fun k h1 h2 => by rcases Nat.lt_succ_iff_lt_or_eq.1 h1 with h | h; exact hJ.2.2 k h h2; subst h; exact hgk h2⟩, (by omega), ?_⟩
        exact weak_pick [] ⟨rfl, rfl, trivial⟩ rfl (by decide) rfl rfl
    · intro hc
      have hi : ¬ i < l.length := by simpa using hc
      have hr := right_yes hi h1 hJ.2.1 hJ.2.2
      refine awp_exit ?_
      refine awp_seq ?_
      refine awp_region ?_
      refine aops_e (w0 rfl) rfl (eff_assign rfl rfl) ?_
      refine aops_nil ?_
      refine awp_ret ?_
      exact retq rfl (res_tmp rfl res_nil) (gb hr.symm)

theorem c_refFind (l : List Str) (hl : small l.length) (s : Str) : ACalls Try.prog 24 [row1 sA l, sA s] [] (Gives (iA (findL l s))) := by
  have hl2 := hl
  simp only [small] at hl2
  refine acalls_of (n := 23) Try.func24 rfl (by decide +kernel) rfl rfl ?_
  refine awp_seq ?_
  refine awp_region ?_
  refine aops_e (w0 rfl) rfl (eff_assign rfl rfl) ?_
  refine aops_nil ?_
  refine awp_seq ?_
  refine awp_seq ?_
  refine awp_region ?_
  refine aops_e (w0 rfl) rfl (eff_assign rfl rfl) ?_
  refine aops_nil ?_
  refine awp_block ?_
  refine awp_loopJ (α := Nat) (fun i => ⟨[(5, iA i), (0, row1 sA l), (1, sA s)], [], [], 23⟩) (fun i => i ≤ l.length ∧ ∀ k, k < i → l.getD k default ≠ s) (fun i => l.length - i) 0 ⟨by omega, fun k h => by omega⟩ ?_ ?_
  · exact weak_pick [] ⟨rfl, rfl, rfl, trivial⟩ rfl (by decide) rfl rfl
  rintro i hJ
  refine awp_seq ?_
  refine awp_seq ?_
  refine awp_region ?_
  refine aops_e (w0 rfl) rfl (eff_move rfl rfl) ?_
  refine aops_e (w0 rfl) rfl (eff_move rfl rfl) ?_
  refine aops_e (w0 rfl) rfl (eff_len rfl rfl rfl rfl) ?_
  refine aops_e (w0 rfl) rfl (eff_icmp rfl rfl rfl rfl) ?_
  refine aops_e (w0 rfl) rfl (eff_move rfl rfl) ?_
  refine aops_g (wT rfl rfl rfl rfl) rfl (fun hg => (eff_move rfl rfl)) ?_
  refine aops_g (wT rfl rfl rfl rfl) rfl (fun hg => (eff_call [] rfl rfl (evs_cons (ev_g hg rfl) evs_nil) (c_refRight l hl) List.nodup_nil)) ?_
  refine aops_e (w0 rfl) rfl (eff_and rfl rfl rfl (fun h => h)) ?_
  refine aops_nil ?_
  refine awp_cond rfl ?_ ?_
  · intro hc
    have hi : i < l.length := by have := andL hc; simpa using this
    have hr : rightL l = true := andR hc
    refine awp_skip ?_
    refine awp_seq ?_
    refine awp_block ?_
    refine awp_seq ?_
    refine awp_region ?_
    refine aops_e (w0 rfl) rfl (eff_move rfl rfl) ?_
    refine aops_e (w0 rfl) rfl (eff_move rfl rfl) ?_
    refine aops_e (w0 rfl) rfl (eff_indexAddr_lst rfl rfl rfl (len_map (fun _ => rfl)) (by first | omega | (simp only [List.length_map]; omega)) (by first | omega | (simp only [List.length_map]; omega))) ?_
    refine aops_e (w0 rfl) rfl (eff_loadE rfl rfl (map_get (by first | assumption | omega)) ld_one) ?_
    refine aops_e (w0 rfl) rfl (eff_move rfl rfl) ?_
    refine aops_e (w0 rfl) rfl (eff_scmp rfl rfl rfl rfl) ?_
    refine aops_nil ?_
    refine awp_cond rfl ?_ ?_
    · intro hc
      have hf := findL_first hr hi hc hJ.2
      refine awp_seq ?_
      refine awp_region ?_
      refine aops_e (w0 rfl) rfl (eff_move rfl rfl) ?_
      refine aops_e (w0 rfl) rfl (eff_assign rfl rfl) ?_
      refine aops_nil ?_
      refine awp_ret ?_
      exact retq rfl (res_tmp rfl res_nil) (gi hf.symm)
    · intro hc
      have hne : beqS l[i] s = false := hc
      refine awp_skip ?_
      refine awp_region ?_
      refine aops_e (w0 rfl) rfl (eff_move rfl rfl) ?_
      refine aops_e (w0 rfl) rfl (eff_arith rfl rfl rfl (arith_add (by first | omega | (simp only [List.length_map]; omega)))) ?_
      refine aops_e (w0 rfl) rfl (eff_assign rfl rfl) ?_
      refine aops_nil ?_
      refine ⟨i + 1, ⟨by omega, fun k h => by rcases Nat.lt_succ_iff_lt_or_eq.1 h with h | h; exact hJ.2 k h; subst h; rw [getD_eq hi]; exact beqS_no' hne⟩, (by omega), ?_⟩
      exact weak_pick [] ⟨rfl, rfl, rfl, trivial⟩ rfl (by decide) rfl rfl
  · intro hc
    have hno : ¬ i < l.length ∨ rightL l = false := by rcases Bool.and_eq_false_iff.1 hc with h | h; exact .inl (by simpa using h); exact .inr h
    refine awp_exit ?_
    refine awp_seq ?_
    refine awp_region ?_
    refine aops_e (w0 rfl) rfl (eff_assign rfl rfl) ?_
    refine aops_nil ?_
    refine awp_ret ?_
    exact retq rfl (res_tmp rfl res_nil) (gi (findL_none hno hJ.2).symm)

theorem c_pmerge (a b : List Str) (ha : a.length ≤ 2000) (hb : b.length ≤ 2000) : ACalls Try.prog 20 [row1 sA a, row1 sA b] [] (Gives (.tup [row1 sA (mergeP a b).1, iA (mergeP a b).2])) := by
  have has : small a.length := by unfold small; omega
  have hbs : small b.length := by unfold small; omega
  refine acalls_of (n := 21) Try.func20 rfl (by decide +kernel) rfl rfl ?_
  refine awp_seq ?_
  refine awp_region ?_
  refine aops_e (w0 rfl) rfl (eff_assign rfl rfl) ?_
  refine aops_e (w0 rfl) rfl (eff_assign rfl rfl) ?_
  refine aops_nil ?_
  refine awp_seq ?_
  refine awp_seq ?_
  refine awp_region ?_
  refine aops_e (w0 rfl) rfl (eff_move rfl rfl) ?_
  refine aops_e (w0 rfl) rfl (eff_call [] rfl rfl rfl (c_rightL a has) List.nodup_nil) ?_
  refine aops_e (w0 rfl) rfl (eff_not rfl rfl) ?_
  refine aops_e (w0 rfl) rfl (eff_move rfl rfl) ?_
  refine aops_g (wF rfl rfl rfl rfl) rfl (fun hg => (eff_move rfl rfl)) ?_
  refine aops_g (wF rfl rfl rfl rfl) rfl (fun hg => (eff_call [] rfl rfl (evs_cons (ev_g hg rfl) evs_nil) (c_rightL b hbs) List.nodup_nil)) ?_
  refine aops_g (wF rfl rfl rfl rfl) rfl (fun hg => (eff_not rfl (ev_g hg rfl))) ?_
  refine aops_e (w0 rfl) rfl (eff_or rfl rfl rfl (fun h => by rw [h]; rfl)) ?_
  refine aops_nil ?_
  refine awp_cond rfl ?_ ?_
  · intro hc
    have hm : mergeP a b = ([], 5) := by unfold mergeP; rw [hc]; rfl
    refine awp_seq ?_
    refine awp_region ?_
    refine aops_e (w0 rfl) rfl (eff_sub (y := .lst []) (eff_assign rfl rfl) .z) ?_
    refine aops_e (w0 rfl) rfl (eff_assign rfl rfl) ?_
    refine aops_nil ?_
    refine awp_ret ?_
    exact retq rfl (res_tmp rfl (res_tmp rfl res_nil)) (gvr (by rw [hm]; rfl))
  · intro hc
    have hm : mergeP a b = makeP (a ++ b) := by unfold mergeP; rw [hc]; rfl
    refine awp_skip ?_
    refine awp_seq ?_
    refine awp_region ?_
    refine aops_e (w0 rfl) rfl (eff_move rfl rfl) ?_
    refine aops_e (w0 rfl) rfl (eff_move rfl rfl) ?_
    refine aops_e (w0 rfl) rfl (eff_frz (es := _) (fun id => eff_buildSlice id (ps := [(0, .tmp 14), (1, .tmp 15)]) rfl rfl rfl rfl rfl rfl rfl rfl) rfl) ?_
    refine aops_e (w0 rfl) rfl (eff_to (y := row1 sA (a ++ b)) (eff_call [] rfl rfl rfl (c_concat [a, b] (by simp) (by simp; omega)) List.nodup_nil) (by simp)) ?_
    refine aops_e (w0 rfl) rfl (eff_call [] rfl rfl rfl (c_make (a ++ b) (by rw [List.length_append]; omega)) List.nodup_nil) ?_
    refine aops_e (w0 rfl) rfl (eff_extract rfl rfl rfl) ?_
    refine aops_e (w0 rfl) rfl (eff_extract rfl rfl rfl) ?_
    refine aops_e (w0 rfl) rfl (eff_assign rfl rfl) ?_
    refine aops_e (w0 rfl) rfl (eff_assign rfl rfl) ?_
    refine aops_nil ?_
    refine awp_ret ?_
    exact retq rfl (res_tmp rfl (res_tmp rfl res_nil)) (gvr (by rw [hm]; rfl))

theorem c_rmerge (a b : List Str) (ha : a.length ≤ 2000) (hb : b.length ≤ 2000) : ACalls Try.prog 21 [row1 sA a, row1 sA b] [] (Gives (.tup [row1 sA (mergeP a b).1, iA (mergeP a b).2])) := by
  have has : small a.length := by unfold small; omega
  have hbs : small b.length := by unfold small; omega
  refine acalls_of (n := 25) Try.func21 rfl (by decide +kernel) rfl rfl ?_
  refine awp_seq ?_
  refine awp_region ?_
  refine aops_e (w0 rfl) rfl (eff_assign rfl rfl) ?_
  refine aops_e (w0 rfl) rfl (eff_assign rfl rfl) ?_
  refine aops_nil ?_
  refine awp_seq ?_
  refine awp_seq ?_
  refine awp_region ?_
  refine aops_e (w0 rfl) rfl (eff_move rfl rfl) ?_
  refine aops_e (w0 rfl) rfl (eff_call [] rfl rfl rfl (c_refRight a has) List.nodup_nil) ?_
  refine aops_e (w0 rfl) rfl (eff_not rfl rfl) ?_
  refine aops_e (w0 rfl) rfl (eff_move rfl rfl) ?_
  refine aops_g (wF rfl rfl rfl rfl) rfl (fun hg => (eff_move rfl rfl)) ?_
  refine aops_g (wF rfl rfl rfl rfl) rfl (fun hg => (eff_call [] rfl rfl (evs_cons (ev_g hg rfl) evs_nil) (c_refRight b hbs) List.nodup_nil)) ?_
  refine aops_g (wF rfl rfl rfl rfl) rfl (fun hg => (eff_not rfl (ev_g hg rfl))) ?_
  refine aops_e (w0 rfl) rfl (eff_or rfl rfl rfl (fun h => by rw [h]; rfl)) ?_
  refine aops_nil ?_
  refine awp_cond rfl ?_ ?_
  · intro hc
    have hm : mergeP a b = ([], 5) := by unfold mergeP; rw [hc]; rfl
    refine awp_seq ?_
    refine awp_region ?_
    refine aops_e (w0 rfl) rfl (eff_sub (y := .lst []) (eff_assign rfl rfl) .z) ?_
    refine aops_e (w0 rfl) rfl (eff_assign rfl rfl) ?_
    refine aops_nil ?_
    refine awp_ret ?_
    exact retq rfl (res_tmp rfl (res_tmp rfl res_nil)) (gvr (by rw [hm]; rfl))
  · intro hc
    have hm : mergeP a b = makeP (a ++ b) := by unfold mergeP; rw [hc]; rfl
    refine awp_skip ?_
    refine awp_seq ?_
    refine awp_region ?_
    refine aops_n (w0 rfl) rfl (fun id => eff_nil id 9 1 (.inl rfl) rfl) (fun id1 => ?_)
    refine aops_nil ?_
    refine awp_seq ?_
    refine awp_region ?_
    refine aops_e (w0 rfl) rfl (eff_move rfl rfl) ?_
    refine aops_e (w0 rfl) rfl (eff_move rfl rfl) ?_
    refine aops_append 0 (w0 rfl) rfl rfl rfl rfl rfl rfl ⟨rfl, len_map (fun _ => rfl)⟩ (by simp; omega) (by simp [maxLen]; omega) (fun id2 => ?_)
    refine aops_e (w0 rfl) rfl (eff_assign rfl rfl) ?_
    refine aops_nil ?_
    refine awp_seq ?_
    refine awp_region ?_
    refine aops_e (w0 rfl) rfl (eff_move rfl rfl) ?_
    refine aops_e (w0 rfl) rfl (eff_move rfl rfl) ?_
    refine aops_append 0 (w0 rfl) rfl rfl rfl rfl (by simp) rfl ⟨rfl, len_map (fun _ => rfl)⟩ (by simp; omega) (by simp [maxLen]; omega) (fun id3 => ?_)
    refine aops_e (w0 rfl) rfl (eff_assign rfl rfl) ?_
    refine aops_nil ?_
    refine awp_seq ?_
    refine awp_weak (weak_frz 0 6 (T' := []) rfl rfl (by simp) trivial) ?_
    refine awp_region ?_
    refine aops_e (w0 rfl) rfl (eff_to (y := row1 sA (a ++ b)) (eff_move rfl rfl) (by show AV.lst _ = AV.lst _; simp)) ?_
    refine aops_e (w0 rfl) rfl (eff_call [] rfl rfl rfl (c_refMake (a ++ b) (by rw [List.length_append]; omega)) List.nodup_nil) ?_
    refine aops_e (w0 rfl) rfl (eff_extract rfl rfl rfl) ?_
    refine aops_e (w0 rfl) rfl (eff_extract rfl rfl rfl) ?_
    refine aops_e (w0 rfl) rfl (eff_assign rfl rfl) ?_
    refine aops_e (w0 rfl) rfl (eff_assign rfl rfl) ?_
    refine aops_nil ?_
    refine awp_ret ?_
    exact retq rfl (res_tmp rfl (res_tmp rfl res_nil)) (gvr (by rw [hm]; rfl))

theorem c_refMakeX (l : List Str) (hl : l.length ≤ 100000) {m : List Str} {e : Int} (h : makeP l = (m, e)) : ACalls Try.prog 19 [row1 sA l] [] (Gives (.tup [row1 sA m, iA e])) := by have := c_refMake l hl; rw [h] at this; exact this
theorem c_pmergeX (a b : List Str) (ha : a.length ≤ 2000) (hb : b.length ≤ 2000) {m : List Str} {e : Int} (h : mergeP a b = (m, e)) : ACalls Try.prog 20 [row1 sA a, row1 sA b] [] (Gives (.tup [row1 sA m, iA e])) := by have := c_pmerge a b ha hb; rw [h] at this; exact this
theorem c_rmergeX (a b : List Str) (ha : a.length ≤ 2000) (hb : b.length ≤ 2000) {m : List Str} {e : Int} (h : mergeP a b = (m, e)) : ACalls Try.prog 21 [row1 sA a, row1 sA b] [] (Gives (.tup [row1 sA m, iA e])) := by have := c_rmerge a b ha hb; rw [h] at this; exact this
theorem mergeP_len {a b m : List Str} {e : Int} (h : mergeP a b = (m, e)) {n : Nat} (hn : a.length + b.length ≤ n) : m.length ≤ n := by
  unfold mergeP at h
  split at h
  · cases h; simp
  · exact makeP_len h (by rw [List.length_append]; exact hn)

theorem c_poolMakes (a : List Str) (ha : small a.length) (b : List Str) (hb : small b.length) (s : Str) : ACalls Try.prog 5 [row1 sA a, row1 sA b, sA s] [] (Gives (bA true)) := by
  have h1 : (a.take 1100).length ≤ 1100 := by rw [List.length_take]; omega
  have h2 : (b.take 1100).length ≤ 1100 := by rw [List.length_take]; omega
  obtain ⟨m, e, hme⟩ : ∃ m e, makeP (a.take 1100) = (m, e) := ⟨_, _, rfl⟩
  have hml : m.length ≤ 1100 := makeP_len hme h1
  obtain ⟨m2, e2, hm2⟩ : ∃ m2 e2, mergeP m (b.take 1100) = (m2, e2) := ⟨_, _, rfl⟩
  have hml2 : m2.length ≤ 2200 := mergeP_len hm2 (by omega)
  have hms : small m.length := by unfold small; omega
  have hms2 : small m2.length := by unfold small; omega
  have hbs : small (b.take 1100).length := by unfold small; omega
  refine acalls_of (n := 87) Try.func5 rfl (by decide +kernel) rfl rfl ?_
  refine awp_seq ?_
  refine awp_region ?_
  refine aops_e (w0 rfl) rfl (eff_assign rfl rfl) ?_
  refine aops_nil ?_
  refine awp_seq ?_
  refine awp_region ?_
  refine aops_e (w0 rfl) rfl (eff_move rfl rfl) ?_
  refine aops_e (w0 rfl) rfl (eff_call [] rfl rfl rfl (c_few a ha) List.nodup_nil) ?_
  refine aops_e (w0 rfl) rfl (eff_move rfl rfl) ?_
  refine aops_e (w0 rfl) rfl (eff_call [] rfl rfl rfl (c_few b hb) List.nodup_nil) ?_
  refine aops_e (w0 rfl) rfl (eff_assign rfl rfl) ?_
  refine aops_e (w0 rfl) rfl (eff_assign rfl rfl) ?_
  refine aops_nil ?_
  refine awp_seq ?_
  refine awp_region ?_
  refine aops_e (w0 rfl) rfl (eff_move rfl rfl) ?_
  refine aops_e (w0 rfl) rfl (eff_call [] rfl rfl rfl (c_makeX (a.take 1100) (by omega) hme) List.nodup_nil) ?_
  refine aops_e (w0 rfl) rfl (eff_move rfl rfl) ?_
  refine aops_e (w0 rfl) rfl (eff_extract rfl rfl rfl) ?_
  refine aops_e (w0 rfl) rfl (eff_extract rfl rfl rfl) ?_
  refine aops_e (w0 rfl) rfl (eff_assign rfl rfl) ?_
  refine aops_e (w0 rfl) rfl (eff_assign rfl rfl) ?_
  refine aops_nil ?_
  refine awp_seq ?_
  refine awp_region ?_
  refine aops_e (w0 rfl) rfl (eff_move rfl rfl) ?_
  refine aops_e (w0 rfl) rfl (eff_call [] rfl rfl rfl (c_refMakeX (a.take 1100) (by omega) hme) List.nodup_nil) ?_
  refine aops_e (w0 rfl) rfl (eff_move rfl rfl) ?_
  refine aops_e (w0 rfl) rfl (eff_extract rfl rfl rfl) ?_
  refine aops_e (w0 rfl) rfl (eff_extract rfl rfl rfl) ?_
  refine aops_e (w0 rfl) rfl (eff_assign rfl rfl) ?_
  refine aops_e (w0 rfl) rfl (eff_assign rfl rfl) ?_
  refine aops_nil ?_
  refine awp_seq ?_
  refine awp_region ?_
  refine aops_e (w0 rfl) rfl (eff_move rfl rfl) ?_
  refine aops_e (w0 rfl) rfl (eff_move rfl rfl) ?_
  refine aops_e (w0 rfl) rfl (eff_call [] rfl rfl rfl (c_pmergeX m (b.take 1100) (by omega) (by omega) hm2) List.nodup_nil) ?_
  refine aops_e (w0 rfl) rfl (eff_move rfl rfl) ?_
  refine aops_e (w0 rfl) rfl (eff_extract rfl rfl rfl) ?_
  refine aops_e (w0 rfl) rfl (eff_extract rfl rfl rfl) ?_
  refine aops_e (w0 rfl) rfl (eff_assign rfl rfl) ?_
  refine aops_e (w0 rfl) rfl (eff_assign rfl rfl) ?_
  refine aops_nil ?_
  refine awp_seq ?_
  refine awp_region ?_
  refine aops_e (w0 rfl) rfl (eff_move rfl rfl) ?_
  refine aops_e (w0 rfl) rfl (eff_move rfl rfl) ?_
  refine aops_e (w0 rfl) rfl (eff_call [] rfl rfl rfl (c_rmergeX m (b.take 1100) (by omega) (by omega) hm2) List.nodup_nil) ?_
  refine aops_e (w0 rfl) rfl (eff_move rfl rfl) ?_
  refine aops_e (w0 rfl) rfl (eff_extract rfl rfl rfl) ?_
  refine aops_e (w0 rfl) rfl (eff_extract rfl rfl rfl) ?_
  refine aops_e (w0 rfl) rfl (eff_assign rfl rfl) ?_
  refine aops_e (w0 rfl) rfl (eff_assign rfl rfl) ?_
  refine aops_nil ?_
  refine awp_seq ?_
  refine awp_region ?_
  refine aops_e (w0 rfl) rfl (eff_call [] rfl rfl rfl c_live5 List.nodup_nil) ?_
  refine aops_e (w0 rfl) rfl (eff_move rfl rfl) ?_
  refine aops_g (wT rfl rfl rfl rfl) rfl (fun hg => (eff_move rfl rfl)) ?_
  refine aops_g (wT rfl rfl rfl rfl) rfl (fun hg => (eff_move rfl rfl)) ?_
  refine aops_g (wT rfl rfl rfl rfl) rfl (fun hg => (eff_to (y := bA true) (eff_icmp rfl (ev_g hg rfl) (ev_g hg rfl) rfl) (by simp))) ?_
  refine aops_e (w0 rfl) rfl (eff_and rfl rfl rfl (fun h => h)) ?_
  refine aops_e (w0 rfl) rfl (eff_move rfl rfl) ?_
  refine aops_g (wT rfl rfl rfl rfl) rfl (fun hg => (eff_move rfl rfl)) ?_
  refine aops_g (wT rfl rfl rfl rfl) rfl (fun hg => (eff_move rfl rfl)) ?_
  refine aops_g (wT rfl rfl rfl rfl) rfl (fun hg => (eff_call [] rfl rfl (evs_cons (ev_g hg rfl) (evs_cons (ev_g hg rfl) evs_nil)) (c_sameX m m hms (sameT_iff.2 rfl)) List.nodup_nil)) ?_
  refine aops_e (w0 rfl) rfl (eff_and rfl rfl rfl (fun h => h)) ?_
  refine aops_e (w0 rfl) rfl (eff_move rfl rfl) ?_
  refine aops_g (wT rfl rfl rfl rfl) rfl (fun hg => (eff_move rfl rfl)) ?_
  refine aops_g (wT rfl rfl rfl rfl) rfl (fun hg => (eff_call [] rfl rfl (evs_cons (ev_g hg rfl) evs_nil) (c_rightL (b.take 1100) hbs) List.nodup_nil)) ?_
  refine aops_g (wT rfl rfl rfl rfl) rfl (fun hg => (eff_move rfl rfl)) ?_
  refine aops_g (wT rfl rfl rfl rfl) rfl (fun hg => (eff_call [] rfl rfl (evs_cons (ev_g hg rfl) evs_nil) (c_refRight (b.take 1100) hbs) List.nodup_nil)) ?_
  refine aops_g (wT rfl rfl rfl rfl) rfl (fun hg => (eff_to (y := bA true) (eff_beq rfl (ev_g hg rfl) (ev_g hg rfl) rfl) (by simp))) ?_
  refine aops_e (w0 rfl) rfl (eff_and rfl rfl rfl (fun h => h)) ?_
  refine aops_e (w0 rfl) rfl (eff_move rfl rfl) ?_
  refine aops_g (wT rfl rfl rfl rfl) rfl (fun hg => (eff_move rfl rfl)) ?_
  refine aops_g (wT rfl rfl rfl rfl) rfl (fun hg => (eff_move rfl rfl)) ?_
  refine aops_g (wT rfl rfl rfl rfl) rfl (fun hg => (eff_call [] rfl rfl (evs_cons (ev_g hg rfl) (evs_cons (ev_g hg rfl) evs_nil)) (c_findL m hms s) List.nodup_nil)) ?_
  refine aops_g (wT rfl rfl rfl rfl) rfl (fun hg => (eff_move rfl rfl)) ?_
  refine aops_g (wT rfl rfl rfl rfl) rfl (fun hg => (eff_move rfl rfl)) ?_
  refine aops_g (wT rfl rfl rfl rfl) rfl (fun hg => (eff_call [] rfl rfl (evs_cons (ev_g hg rfl) (evs_cons (ev_g hg rfl) evs_nil)) (c_refFind m hms s) List.nodup_nil)) ?_
  refine aops_g (wT rfl rfl rfl rfl) rfl (fun hg => (eff_to (y := bA true) (eff_icmp rfl (ev_g hg rfl) (ev_g hg rfl) rfl) (by simp))) ?_
  refine aops_e (w0 rfl) rfl (eff_and rfl rfl rfl (fun h => h)) ?_
  refine aops_e (w0 rfl) rfl (eff_move rfl rfl) ?_
  refine aops_g (wT rfl rfl rfl rfl) rfl (fun hg => (eff_move rfl rfl)) ?_
  refine aops_g (wT rfl rfl rfl rfl) rfl (fun hg => (eff_move rfl rfl)) ?_
  refine aops_g (wT rfl rfl rfl rfl) rfl (fun hg => (eff_call [] rfl rfl (evs_cons (ev_g hg rfl) (evs_cons (ev_g hg rfl) evs_nil)) (c_findL (b.take 1100) hbs s) List.nodup_nil)) ?_
  refine aops_g (wT rfl rfl rfl rfl) rfl (fun hg => (eff_move rfl rfl)) ?_
  refine aops_g (wT rfl rfl rfl rfl) rfl (fun hg => (eff_move rfl rfl)) ?_
  refine aops_g (wT rfl rfl rfl rfl) rfl (fun hg => (eff_call [] rfl rfl (evs_cons (ev_g hg rfl) (evs_cons (ev_g hg rfl) evs_nil)) (c_refFind (b.take 1100) hbs s) List.nodup_nil)) ?_
  refine aops_g (wT rfl rfl rfl rfl) rfl (fun hg => (eff_to (y := bA true) (eff_icmp rfl (ev_g hg rfl) (ev_g hg rfl) rfl) (by simp))) ?_
  refine aops_e (w0 rfl) rfl (eff_and rfl rfl rfl (fun h => h)) ?_
  refine aops_e (w0 rfl) rfl (eff_move rfl rfl) ?_
  refine aops_g (wT rfl rfl rfl rfl) rfl (fun hg => (eff_move rfl rfl)) ?_
  refine aops_g (wT rfl rfl rfl rfl) rfl (fun hg => (eff_move rfl rfl)) ?_
  refine aops_g (wT rfl rfl rfl rfl) rfl (fun hg => (eff_to (y := bA true) (eff_icmp rfl (ev_g hg rfl) (ev_g hg rfl) rfl) (by simp))) ?_
  refine aops_e (w0 rfl) rfl (eff_and rfl rfl rfl (fun h => h)) ?_
  refine aops_e (w0 rfl) rfl (eff_move rfl rfl) ?_
  refine aops_g (wT rfl rfl rfl rfl) rfl (fun hg => (eff_move rfl rfl)) ?_
  refine aops_g (wT rfl rfl rfl rfl) rfl (fun hg => (eff_move rfl rfl)) ?_
  refine aops_g (wT rfl rfl rfl rfl) rfl (fun hg => (eff_call [] rfl rfl (evs_cons (ev_g hg rfl) (evs_cons (ev_g hg rfl) evs_nil)) (c_sameX m2 m2 hms2 (sameT_iff.2 rfl)) List.nodup_nil)) ?_
  refine aops_e (w0 rfl) rfl (eff_and rfl rfl rfl (fun h => h)) ?_
  refine aops_e (w0 rfl) rfl (eff_assign rfl rfl) ?_
  refine aops_nil ?_
  refine awp_ret ?_
  exact retq rfl (res_tmp rfl res_nil) (gb rfl)

end Go.Sx
