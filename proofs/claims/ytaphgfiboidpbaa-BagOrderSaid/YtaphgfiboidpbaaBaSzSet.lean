/- Layer 24, walked: sets of sites. -/
import Derived.Test.YtaphgfiboidpbaaBaSzSort2
import Derived.Test.YtaphgfiboidpbaaBaSxBagOps
import Derived.Test.YtaphgfiboidpbaaBaSxSets2
import Derived.Test.YtaphgfiboidpbaaBaSxCall2
set_option linter.unusedVariables false
set_option linter.unusedSimpArgs false
namespace Go.Sx
open Go Go.Proofs

theorem lt_ge {a b : Site} (h : decide (cmpS a b ≥ 0) = true) : sLt a b = false := by unfold sLt ltC; simpa using h
theorem lt_nge {a b : Site} (h : decide (cmpS a b ≥ 0) = false) : sLt a b = true := by unfold sLt ltC; simpa using h
theorem tp1 (i : Nat) : ((i : Int) - 1).toNat = i - 1 := by omega
theorem cmpS_dec (a b : Site) : (cmpS a b == 0) = decide (a = b) := by rw [Bool.eq_iff_iff]; simp only [beq_iff_eq, decide_eq_true_eq]; exact cmpS_zero
theorem eqSite' (a b : Site) : ceqs a.cells b.cells = eqG a b := eqSite a b
theorem siteD {l : List Site} {i : Nat} (h : i < l.length) : l.getD i default = l[i] := getDG h

theorem c_rises (l : List Site) (hl : small l.length) : ACalls Try.prog 31 [.lst (l.map Site.cells), .fn (.func 26) []] [] (Gives (bA (riseG sLt l))) := by
  simp only [small] at hl
  refine acalls_of (n := 28) Try.func31 rfl (by decide +kernel) rfl rfl ?_
  refine awp_seq ?_
  refine awp_region ?_
  refine aops_e (w0 rfl) rfl (eff_assign rfl rfl) ?_
  refine aops_nil ?_
  refine awp_seq ?_
  refine awp_seq ?_
  refine awp_region ?_
  refine aops_e (w0 rfl) rfl (eff_move rfl rfl) ?_
  refine aops_e (w0 rfl) rfl (eff_len rfl rfl rfl rfl) ?_
  refine aops_e (w0 rfl) rfl (eff_move rfl rfl) ?_
  refine aops_nil ?_
  refine awp_block ?_
  refine awp_loopJ (α := Nat) (fun i => ⟨[(8, iA i), (7, iA l.length), (0, .lst (l.map Site.cells)), (1, .fn (.func 26) [])], [], [], 28⟩) (fun i => i ≤ l.length ∧ ∀ k, k < i → 0 < k → sLt (l.getD (k - 1) default) (l.getD k default) = true) (fun i => l.length - i) 0 ⟨Nat.zero_le _, fun k h => by omega⟩ ?_ ?_
  · exact weak_pick [] ⟨rfl, (by show some (iA _) = some (iA _); simp), rfl, rfl, trivial⟩ rfl (by decide) rfl rfl
  rintro i hJ
  refine awp_seq ?_
  refine awp_region ?_
  refine aops_e (w0 rfl) rfl (eff_icmp rfl rfl rfl rfl) ?_
  refine aops_nil ?_
  refine awp_seq ?_
  refine awp_cond rfl ?_ ?_
  · intro hc
    have hi : i < l.length := by simpa using hc
    refine awp_skip ?_
    refine awp_seq ?_
    refine awp_block ?_
    refine awp_seq ?_
    refine awp_region ?_
    refine aops_e (w0 rfl) rfl (eff_move rfl rfl) ?_
    refine aops_e (w0 rfl) rfl (eff_assign rfl rfl) ?_
    refine aops_nil ?_
    refine awp_seq ?_
    refine awp_drawM [0, 1, 3, 7, 7, 7, 39, 119, 247, 7, 7, 1543, 3591, 8191, 16383, 32767] 16 rfl (by kernel_rfl) ?_
    refine calm_e (w0 rfl) rfl (eff_move rfl rfl) ?_
    refine calm_e (w0 rfl) rfl (eff_icmp rfl rfl rfl rfl) ?_
    refine calm_e (w0 rfl) rfl (eff_move rfl rfl) ?_
    refine calm_g (wT rfl rfl rfl rfl) rfl (fun hg => (eff_move rfl rfl)) ?_
    refine calm_g (wT rfl rfl rfl rfl) rfl (fun hg => (eff_move rfl rfl)) ?_
    refine calm_g (wT rfl rfl rfl rfl) rfl (fun hg => (eff_move rfl rfl)) ?_
    refine calm_g (wT rfl rfl rfl rfl) rfl (fun hg => (eff_arith rfl (ev_g hg rfl) rfl (arith_sub (by first | omega | (simp only [List.length_map]; omega))))) ?_
    refine calm_g (wT rfl rfl rfl rfl) rfl (fun hg => (eff_indexAddr_lst rfl (ev_g hg rfl) (ev_g hg rfl) (len_map (fun _ => rfl)) (by (try simp at hg) <;> first | omega | (simp only [List.length_map]; omega) | (simp only [List.length_map, List.length_drop]; omega)) (by (try simp at hg) <;> first | omega | (simp only [List.length_map]; omega) | (simp only [List.length_map, List.length_drop]; omega)))) ?_
    refine calm_g (wT rfl rfl rfl rfl) rfl (fun hg => (eff_loadE rfl (ev_g hg rfl) (map_getD (by (try simp at hg) <;> first | assumption | omega | (simp only [List.length_drop]; omega))) (ld_agg (Nat.le_of_ble_eq_true rfl)))) ?_
    refine calm_g (wT rfl rfl rfl rfl) rfl (fun hg => (eff_move rfl rfl)) ?_
    refine calm_g (wT rfl rfl rfl rfl) rfl (fun hg => (eff_move rfl rfl)) ?_
    refine calm_g (wT rfl rfl rfl rfl) rfl (fun hg => (eff_indexAddr_lst rfl (ev_g hg rfl) (ev_g hg rfl) (len_map (fun _ => rfl)) (by (try simp at hg) <;> first | omega | (simp only [List.length_map]; omega) | (simp only [List.length_map, List.length_drop]; omega)) (by (try simp at hg) <;> first | omega | (simp only [List.length_map]; omega) | (simp only [List.length_map, List.length_drop]; omega)))) ?_
    refine calm_g (wT rfl rfl rfl rfl) rfl (fun hg => (eff_loadE rfl (ev_g hg rfl) (map_getD (by (try simp at hg) <;> first | assumption | omega | (simp only [List.length_drop]; omega))) (ld_agg (Nat.le_of_ble_eq_true rfl)))) ?_
    refine calm_g (wT rfl rfl rfl rfl) rfl (fun hg => (eff_call [] rfl (ev_g hg rfl) (evs_cons (ev_g hg rfl) (evs_cons (ev_g hg rfl) evs_nil)) (c_cmpSite _ _) List.nodup_nil)) ?_
    refine calm_g (wT rfl rfl rfl rfl) rfl (fun hg => (eff_icmp rfl (ev_g hg rfl) rfl rfl)) ?_
    refine calm_e (w0 rfl) rfl (eff_and rfl rfl rfl (fun h => h)) ?_
    refine .done ?_
    refine aops_nil ?_
    refine awp_cond rfl ?_ ?_
    · intro hc
      have h0 : 0 < i := by have := andL hc; simpa using this
      have h1 : sLt (l.getD (i - 1) default) (l.getD i default) = false := by have h2 := lt_ge (andR hc); rw [tp1] at h2; exact h2
      refine awp_seq ?_
      refine awp_region ?_
      refine aops_e (w0 rfl) rfl (eff_assign rfl rfl) ?_
      refine aops_nil ?_
      refine awp_ret ?_
      exact retq rfl (res_tmp rfl res_nil) (gb (riseG_no hi h0 h1).symm)
    · intro hc
      have hn : i = 0 ∨ sLt (l.getD (i - 1) default) (l.getD i default) = true := by rcases Bool.and_eq_false_iff.1 hc with h | h; exact .inl (by simpa using h); exact .inr (by have h2 := lt_nge h; rw [tp1] at h2; exact h2)
      refine awp_skip ?_
      refine awp_region ?_
      refine aops_e (w0 rfl) rfl (eff_arith rfl rfl rfl (arith_add (by first | omega | (simp only [List.length_map]; omega)))) ?_
      refine aops_e (w0 rfl) rfl (eff_move rfl rfl) ?_
      refine aops_nil ?_
      refine ⟨i + 1, ⟨hi, fun k h1 h2 => by rcases Nat.lt_succ_iff_lt_or_eq.1 h1 with h | h; exact hJ.2 k h h2; rw [h]; exact hn.resolve_left (by omega)⟩, (by omega), ?_⟩
      exact weak_pick [] ⟨rfl, rfl, rfl, rfl, trivial⟩ rfl (by decide) rfl rfl
  · intro hc
    have hi : ¬ i < l.length := by simpa using hc
    refine awp_exit ?_
    refine awp_seq ?_
    refine awp_region ?_
    refine aops_e (w0 rfl) rfl (eff_assign rfl rfl) ?_
    refine aops_nil ?_
    refine awp_ret ?_
    exact retq rfl (res_tmp rfl res_nil) (gb (riseG_iff.2 (fun k hk h0 => hJ.2 k (by omega) h0)).symm)

theorem c_right (l : List Site) (hl : small l.length) : ACalls Try.prog 10 [.lst (l.map Site.cells)] [] (Gives (bA (riseG sLt l))) := by
  refine acalls_of (n := 5) Try.func10 rfl (by decide +kernel) rfl rfl ?_
  refine awp_seq ?_
  refine awp_region ?_
  refine aops_e (w0 rfl) rfl (eff_assign rfl rfl) ?_
  refine aops_nil ?_
  refine awp_seq ?_
  refine awp_region ?_
  refine aops_e (w0 rfl) rfl (eff_move rfl rfl) ?_
  refine aops_e (w0 rfl) rfl (eff_call [] rfl rfl rfl (c_rises l hl) List.nodup_nil) ?_
  refine aops_e (w0 rfl) rfl (eff_assign rfl rfl) ?_
  refine aops_nil ?_
  refine awp_ret ?_
  exact retq rfl (res_tmp rfl res_nil) (gb rfl)

theorem c_refRight (l : List Site) (hl : small l.length) : ACalls Try.prog 11 [.lst (l.map Site.cells)] [] (Gives (bA (riseG sLt l))) := by
  simp only [small] at hl
  refine acalls_of (n := 21) Try.func11 rfl (by decide +kernel) rfl rfl ?_
  refine awp_seq ?_
  refine awp_region ?_
  refine aops_e (w0 rfl) rfl (eff_assign rfl rfl) ?_
  refine aops_nil ?_
  refine awp_seq ?_
  refine awp_seq ?_
  refine awp_region ?_
  refine aops_e (w0 rfl) rfl (eff_assign rfl rfl) ?_
  refine aops_nil ?_
  refine awp_block ?_
  refine awp_loopJ (α := Nat) (fun i => ⟨[(3, iA i), (0, .lst (l.map Site.cells))], [], [], 21⟩) (fun i => 1 ≤ i ∧ ∀ k, k < i → 0 < k → k < l.length → sLt (l.getD (k - 1) default) (l.getD k default) = true) (fun i => l.length - i) 1 ⟨Nat.le_refl _, fun k h h2 => by omega⟩ ?_ ?_
  · exact weak_pick [] ⟨rfl, rfl, trivial⟩ rfl (by decide) rfl rfl
  rintro i hJ
  refine awp_seq ?_
  refine awp_seq ?_
  refine awp_region ?_
  refine aops_e (w0 rfl) rfl (eff_move rfl rfl) ?_
  refine aops_e (w0 rfl) rfl (eff_move rfl rfl) ?_
  refine aops_e (w0 rfl) rfl (eff_len rfl rfl rfl rfl) ?_
  refine aops_e (w0 rfl) rfl (eff_icmp rfl rfl rfl rfl) ?_
  refine aops_nil ?_
  refine awp_cond rfl ?_ ?_
  · intro hc
    have hi : i < l.length := by simpa using hc
    refine awp_skip ?_
    refine awp_seq ?_
    refine awp_block ?_
    refine awp_seq ?_
    refine awp_drawN 11 rfl (by kernel_rfl) ?_
    refine calm_e (w0 rfl) rfl (eff_move rfl rfl) ?_
    refine calm_e (w0 rfl) rfl (eff_move rfl rfl) ?_
    refine calm_e (w0 rfl) rfl (eff_arith rfl rfl rfl (arith_sub (by first | omega | (simp only [List.length_map]; omega)))) ?_
    refine calm_e (w0 rfl) rfl (eff_indexAddr_lst rfl rfl rfl (len_map (fun _ => rfl)) (by first | omega | (simp only [List.length_map]; omega) | (simp only [List.length_map, List.length_drop]; omega)) (by first | omega | (simp only [List.length_map]; omega) | (simp only [List.length_map, List.length_drop]; omega))) ?_
    refine calm_e (w0 rfl) rfl (eff_loadE rfl rfl (map_get (by first | assumption | omega | (simp only [List.length_drop]; omega))) (ld_agg (Nat.le_of_ble_eq_true rfl))) ?_
    refine calm_e (w0 rfl) rfl (eff_move rfl rfl) ?_
    refine calm_e (w0 rfl) rfl (eff_move rfl rfl) ?_
    refine calm_e (w0 rfl) rfl (eff_indexAddr_lst rfl rfl rfl (len_map (fun _ => rfl)) (by first | omega | (simp only [List.length_map]; omega) | (simp only [List.length_map, List.length_drop]; omega)) (by first | omega | (simp only [List.length_map]; omega) | (simp only [List.length_map, List.length_drop]; omega))) ?_
    refine calm_e (w0 rfl) rfl (eff_loadE rfl rfl (map_get (by first | assumption | omega | (simp only [List.length_drop]; omega))) (ld_agg (Nat.le_of_ble_eq_true rfl))) ?_
    refine calm_e (w0 rfl) rfl (eff_call [] rfl rfl rfl (c_refCmp _ _) List.nodup_nil) ?_
    refine calm_e (w0 rfl) rfl (eff_icmp rfl rfl rfl rfl) ?_
    refine .done ?_
    refine aops_nil ?_
    refine awp_cond rfl ?_ ?_
    · intro hc
      have h1 : sLt (l.getD (i - 1) default) (l.getD i default) = false := by rw [siteD hi, siteD (show i - 1 < l.length by omega)]; have h2 := lt_ge hc; simpa [tp1] using h2
      refine awp_seq ?_
      refine awp_region ?_
      refine aops_e (w0 rfl) rfl (eff_assign rfl rfl) ?_
      refine aops_nil ?_
      refine awp_ret ?_
      exact retq rfl (res_tmp rfl res_nil) (gb (riseG_no hi (by omega) h1).symm)
    · intro hc
      have hn : sLt (l.getD (i - 1) default) (l.getD i default) = true := by rw [siteD hi, siteD (show i - 1 < l.length by omega)]; have h2 := lt_nge hc; simpa [tp1] using h2
      refine awp_skip ?_
      refine awp_region ?_
      refine aops_e (w0 rfl) rfl (eff_move rfl rfl) ?_
      refine aops_e (w0 rfl) rfl (eff_arith rfl rfl rfl (arith_add (by first | omega | (simp only [List.length_map]; omega)))) ?_
      refine aops_e (w0 rfl) rfl (eff_assign rfl rfl) ?_
      refine aops_nil ?_
      refine ⟨i + 1, ⟨by omega, fun k h1 h2 h3 => by rcases Nat.lt_succ_iff_lt_or_eq.1 h1 with h | h; exact hJ.2 k h h2 h3; rw [h]; exact hn⟩, (by omega), ?_⟩
      exact weak_pick [] ⟨rfl, rfl, trivial⟩ rfl (by decide) rfl rfl
  · intro hc
    have hi : ¬ i < l.length := by simpa using hc
    refine awp_exit ?_
    refine awp_seq ?_
    refine awp_region ?_
    refine aops_e (w0 rfl) rfl (eff_assign rfl rfl) ?_
    refine aops_nil ?_
    refine awp_ret ?_
    exact retq rfl (res_tmp rfl res_nil) (gb (riseG_iff.2 (fun k hk h0 => hJ.2 k (by omega) h0 hk)).symm)

theorem c_same (a b : List Site) (hl : small a.length) (hb : small b.length) : ACalls Try.prog 12 [.lst (a.map Site.cells), .lst (b.map Site.cells)] [] (Gives (bA (decide (a = b)))) := by
  simp only [small] at hl hb
  refine acalls_of (n := 26) Try.func12 rfl (by decide +kernel) rfl rfl ?_
  refine awp_seq ?_
  refine awp_region ?_
  refine aops_e (w0 rfl) rfl (eff_assign rfl rfl) ?_
  refine aops_nil ?_
  refine awp_seq ?_
  refine awp_seq ?_
  refine awp_region ?_
  refine aops_e (w0 rfl) rfl (eff_move rfl rfl) ?_
  refine aops_e (w0 rfl) rfl (eff_len rfl rfl rfl rfl) ?_
  refine aops_e (w0 rfl) rfl (eff_move rfl rfl) ?_
  refine aops_e (w0 rfl) rfl (eff_len rfl rfl rfl rfl) ?_
  refine aops_e (w0 rfl) rfl (eff_icmp rfl rfl rfl rfl) ?_
  refine aops_nil ?_
  refine awp_cond rfl ?_ ?_
  · intro hc
    have hne : ¬ a.length = b.length := by simp at hc; omega
    refine awp_seq ?_
    refine awp_region ?_
    refine aops_e (w0 rfl) rfl (eff_assign rfl rfl) ?_
    refine aops_nil ?_
    refine awp_ret ?_
    exact retq rfl (res_tmp rfl res_nil) (gb (by symm; simp only [decide_eq_false_iff_not]; intro e; exact hne (by rw [e])))
  · intro hc
    have hne : a.length = b.length := by simp at hc; omega
    refine awp_skip ?_
    refine awp_seq ?_
    refine awp_seq ?_
    refine awp_region ?_
    refine aops_e (w0 rfl) rfl (eff_assign rfl rfl) ?_
    refine aops_nil ?_
    refine awp_block ?_
    refine awp_loopJ (α := Nat) (fun i => ⟨[(5, iA i), (0, .lst (a.map Site.cells)), (1, .lst (b.map Site.cells))], [], [], 26⟩) (fun i => i ≤ a.length ∧ a.take i = b.take i) (fun i => a.length - i) 0 ⟨Nat.zero_le _, rfl⟩ ?_ ?_
    · exact weak_pick [] ⟨rfl, rfl, rfl, trivial⟩ rfl (by decide) rfl rfl
    rintro i hJ
    refine awp_seq ?_
    refine awp_seq ?_
    refine awp_region ?_
    refine aops_e (w0 rfl) rfl (eff_move rfl rfl) ?_
    refine aops_e (w0 rfl) rfl (eff_move rfl rfl) ?_
    refine aops_e (w0 rfl) rfl (eff_len rfl rfl rfl rfl) ?_
    refine aops_e (w0 rfl) rfl (eff_icmp rfl rfl rfl rfl) ?_
    refine aops_nil ?_
    refine awp_cond rfl ?_ ?_
    · intro hc
      have hi : i < a.length := by simpa using hc
      refine awp_skip ?_
      refine awp_seq ?_
      refine awp_block ?_
      refine awp_seq ?_
      refine awp_drawN 9 rfl (by kernel_rfl) ?_
      refine calm_e (w0 rfl) rfl (eff_move rfl rfl) ?_
      refine calm_e (w0 rfl) rfl (eff_move rfl rfl) ?_
      refine calm_e (w0 rfl) rfl (eff_indexAddr_lst rfl rfl rfl (len_map (fun _ => rfl)) (by first | omega | (simp only [List.length_map]; omega) | (simp only [List.length_map, List.length_drop]; omega)) (by first | omega | (simp only [List.length_map]; omega) | (simp only [List.length_map, List.length_drop]; omega))) ?_
      refine calm_e (w0 rfl) rfl (eff_loadE rfl rfl (map_get (by first | assumption | omega | (simp only [List.length_drop]; omega))) (ld_agg (Nat.le_of_ble_eq_true rfl))) ?_
      refine calm_e (w0 rfl) rfl (eff_move rfl rfl) ?_
      refine calm_e (w0 rfl) rfl (eff_move rfl rfl) ?_
      refine calm_e (w0 rfl) rfl (eff_indexAddr_lst rfl rfl rfl (len_map (fun _ => rfl)) (by first | omega | (simp only [List.length_map]; omega) | (simp only [List.length_map, List.length_drop]; omega)) (by first | omega | (simp only [List.length_map]; omega) | (simp only [List.length_map, List.length_drop]; omega))) ?_
      refine calm_e (w0 rfl) rfl (eff_loadE rfl rfl (map_get (by first | assumption | omega | (simp only [List.length_drop]; omega))) (ld_agg (Nat.le_of_ble_eq_true rfl))) ?_
      refine calm_e (w0 rfl) rfl (eff_neq rfl rfl rfl rfl rfl) ?_
      refine .done ?_
      refine aops_nil ?_
      refine awp_cond rfl ?_ ?_
      · intro hc
        have hq : ¬ a[i] = b[i]'(by omega) := by have h : (!ceqs a[i].cells (b[i]'(by omega)).cells) = true := hc; rw [eqSite] at h; simpa using h
        refine awp_seq ?_
        refine awp_region ?_
        refine aops_e (w0 rfl) rfl (eff_assign rfl rfl) ?_
        refine aops_nil ?_
        refine awp_ret ?_
        exact retq rfl (res_tmp rfl res_nil) (gb (by symm; simp only [decide_eq_false_iff_not]; intro e; exact hq (by simp only [e])))
      · intro hc
        have hq : a[i] = b[i]'(by omega) := by have h : (!ceqs a[i].cells (b[i]'(by omega)).cells) = false := hc; rw [eqSite] at h; simpa using h
        refine awp_skip ?_
        refine awp_region ?_
        refine aops_e (w0 rfl) rfl (eff_move rfl rfl) ?_
        refine aops_e (w0 rfl) rfl (eff_arith rfl rfl rfl (arith_add (by first | omega | (simp only [List.length_map]; omega)))) ?_
        refine aops_e (w0 rfl) rfl (eff_assign rfl rfl) ?_
        refine aops_nil ?_
        refine ⟨i + 1, ⟨hi, by rw [List.take_succ_eq_append_getElem hi, List.take_succ_eq_append_getElem (show i < b.length by omega), hJ.2, hq]⟩, (by omega), ?_⟩
        exact weak_pick [] ⟨rfl, rfl, rfl, trivial⟩ rfl (by decide) rfl rfl
    · intro hc
      have hi : ¬ i < a.length := by simpa using hc
      refine awp_exit ?_
      refine awp_seq ?_
      refine awp_region ?_
      refine aops_e (w0 rfl) rfl (eff_assign rfl rfl) ?_
      refine aops_nil ?_
      refine awp_ret ?_
      exact retq rfl (res_tmp rfl res_nil) (gb (by symm; simp only [decide_eq_true_eq]; have h := hJ.2; rwa [List.take_of_length_le (by omega), List.take_of_length_le (by omega)] at h))

theorem c_refHas (l : List Site) (hl : small l.length) (s : Site) : ACalls Try.prog 20 [.lst (l.map Site.cells), s.av] [] (Gives (bA (hasG l s))) := by
  simp only [small] at hl
  refine acalls_of (n := 18) Try.func20 rfl (by decide +kernel) rfl rfl ?_
  refine awp_seq ?_
  refine awp_region ?_
  refine aops_n (w0 rfl) rfl (fun id => eff_box id rfl rfl rfl rfl rfl) (fun id1 => ?_)
  refine aops_e (w0 rfl) rfl (eff_assign rfl rfl) ?_
  refine aops_nil ?_
  refine awp_seq ?_
  refine awp_seq ?_
  refine awp_region ?_
  refine aops_e (w0 rfl) rfl (eff_assign rfl rfl) ?_
  refine aops_nil ?_
  refine awp_block ?_
  refine awp_loopJ (α := Nat) (fun i => ⟨[(5, iA i), (0, .lst (l.map Site.cells)), (3, .ptr id1 5 0 0)], [(id1, .rows 26 5 [s.cells])], [], 18⟩) (fun i => i ≤ l.length ∧ hasG (l.drop i) s = hasG l s) (fun i => l.length - i) 0 ⟨Nat.zero_le _, rfl⟩ ?_ ?_
  · exact weak_pick [0] ⟨rfl, rfl, rfl, trivial⟩ rfl (by decide) rfl rfl
  rintro i hJ
  refine awp_seq ?_
  refine awp_seq ?_
  refine awp_region ?_
  refine aops_e (w0 rfl) rfl (eff_move rfl rfl) ?_
  refine aops_e (w0 rfl) rfl (eff_move rfl rfl) ?_
  refine aops_e (w0 rfl) rfl (eff_len rfl rfl rfl rfl) ?_
  refine aops_e (w0 rfl) rfl (eff_icmp rfl rfl rfl rfl) ?_
  refine aops_nil ?_
  refine awp_cond rfl ?_ ?_
  · intro hc
    have hi : i < l.length := by simpa using hc
    refine awp_skip ?_
    refine awp_seq ?_
    refine awp_block ?_
    refine awp_seq ?_
    refine awp_drawN 6 rfl (by kernel_rfl) ?_
    refine calm_e (w0 rfl) rfl (eff_move rfl rfl) ?_
    refine calm_e (w0 rfl) rfl (eff_move rfl rfl) ?_
    refine calm_e (w0 rfl) rfl (eff_indexAddr_lst rfl rfl rfl (len_map (fun _ => rfl)) (by first | omega | (simp only [List.length_map]; omega) | (simp only [List.length_map, List.length_drop]; omega)) (by first | omega | (simp only [List.length_map]; omega) | (simp only [List.length_map, List.length_drop]; omega))) ?_
    refine calm_e (w0 rfl) rfl (eff_loadE rfl rfl (map_get (by first | assumption | omega | (simp only [List.length_drop]; omega))) (ld_agg (Nat.le_of_ble_eq_true rfl))) ?_
    refine calm_load_ptr 0 (w0 rfl) rfl rfl rfl rfl rfl (ld_agg (Nat.le_of_ble_eq_true rfl)) ?_
    refine calm_e (w0 rfl) rfl (eff_eql rfl rfl rfl rfl rfl) ?_
    refine .done ?_
    refine aops_nil ?_
    refine awp_cond rfl ?_ ?_
    · intro hc
      have hq : l[i] = s := by have h : ceqs l[i].cells s.cells = true := hc; rw [eqSite] at h; simpa using h
      refine awp_seq ?_
      refine awp_region ?_
      refine aops_e (w0 rfl) rfl (eff_assign rfl rfl) ?_
      refine aops_nil ?_
      refine awp_ret ?_
      exact retq rfl (res_tmp rfl res_nil) (gb (by rw [← hJ.2, drop_get hi, hasG_cons, decide_eq_true hq, Bool.true_or]))
    · intro hc
      have hq : ¬ l[i] = s := by have h : ceqs l[i].cells s.cells = false := hc; rw [eqSite] at h; simpa using h
      refine awp_skip ?_
      refine awp_region ?_
      refine aops_e (w0 rfl) rfl (eff_move rfl rfl) ?_
      refine aops_e (w0 rfl) rfl (eff_arith rfl rfl rfl (arith_add (by first | omega | (simp only [List.length_map]; omega)))) ?_
      refine aops_e (w0 rfl) rfl (eff_assign rfl rfl) ?_
      refine aops_nil ?_
      refine ⟨i + 1, ⟨hi, by rw [← hJ.2, drop_get hi, hasG_cons, decide_eq_false hq, Bool.false_or]⟩, (by omega), ?_⟩
      exact weak_pick [0] ⟨rfl, rfl, rfl, trivial⟩ rfl (by decide) rfl rfl
  · intro hc
    have hi : ¬ i < l.length := by simpa using hc
    refine awp_exit ?_
    refine awp_seq ?_
    refine awp_region ?_
    refine aops_e (w0 rfl) rfl (eff_assign rfl rfl) ?_
    refine aops_nil ?_
    refine awp_ret ?_
    exact retq rfl (res_tmp rfl res_nil) (gb (by rw [← hJ.2, drop_end hi]; rfl))

theorem c_refSub24 (a b : List Site) (hl : small a.length) (hb : small b.length) : ACalls Try.prog 22 [.lst (a.map Site.cells), .lst (b.map Site.cells)] [] (Gives (bA (a.all (hasG b)))) := by
  simp only [small] at hl
  refine acalls_of (n := 19) Try.func22 rfl (by decide +kernel) rfl rfl ?_
  refine awp_seq ?_
  refine awp_region ?_
  refine aops_e (w0 rfl) rfl (eff_assign rfl rfl) ?_
  refine aops_nil ?_
  refine awp_seq ?_
  refine awp_seq ?_
  refine awp_region ?_
  refine aops_e (w0 rfl) rfl (eff_assign rfl rfl) ?_
  refine aops_nil ?_
  refine awp_block ?_
  refine awp_loopJ (α := Nat) (fun i => ⟨[(5, iA i), (0, .lst (a.map Site.cells)), (1, .lst (b.map Site.cells))], [], [], 19⟩) (fun i => i ≤ a.length ∧ (a.drop i).all (hasG b) = a.all (hasG b)) (fun i => a.length - i) 0 ⟨Nat.zero_le _, rfl⟩ ?_ ?_
  · exact weak_pick [] ⟨rfl, rfl, rfl, trivial⟩ rfl (by decide) rfl rfl
  rintro i hJ
  refine awp_seq ?_
  refine awp_seq ?_
  refine awp_region ?_
  refine aops_e (w0 rfl) rfl (eff_move rfl rfl) ?_
  refine aops_e (w0 rfl) rfl (eff_move rfl rfl) ?_
  refine aops_e (w0 rfl) rfl (eff_len rfl rfl rfl rfl) ?_
  refine aops_e (w0 rfl) rfl (eff_icmp rfl rfl rfl rfl) ?_
  refine aops_nil ?_
  refine awp_cond rfl ?_ ?_
  · intro hc
    have hi : i < a.length := by simpa using hc
    refine awp_skip ?_
    refine awp_seq ?_
    refine awp_block ?_
    refine awp_seq ?_
    refine awp_region ?_
    refine aops_e (w0 rfl) rfl (eff_move rfl rfl) ?_
    refine aops_e (w0 rfl) rfl (eff_move rfl rfl) ?_
    refine aops_e (w0 rfl) rfl (eff_move rfl rfl) ?_
    refine aops_e (w0 rfl) rfl (eff_indexAddr_lst rfl rfl rfl (len_map (fun _ => rfl)) (by first | omega | (simp only [List.length_map]; omega) | (simp only [List.length_map, List.length_drop]; omega)) (by first | omega | (simp only [List.length_map]; omega) | (simp only [List.length_map, List.length_drop]; omega))) ?_
    refine aops_e (w0 rfl) rfl (eff_loadE rfl rfl (map_get (by first | assumption | omega | (simp only [List.length_drop]; omega))) (ld_agg (Nat.le_of_ble_eq_true rfl))) ?_
    refine aops_e (w0 rfl) rfl (eff_call [] rfl rfl rfl (c_refHas b hb _) List.nodup_nil) ?_
    refine aops_e (w0 rfl) rfl (eff_not rfl rfl) ?_
    refine aops_nil ?_
    refine awp_cond rfl ?_ ?_
    · intro hc
      have hq : hasG b a[i] = false := notT hc
      refine awp_seq ?_
      refine awp_region ?_
      refine aops_e (w0 rfl) rfl (eff_assign rfl rfl) ?_
      refine aops_nil ?_
      refine awp_ret ?_
      exact retq rfl (res_tmp rfl res_nil) (gb (by rw [← hJ.2, drop_get hi, List.all_cons, hq, Bool.false_and]))
    · intro hc
      have hq : hasG b a[i] = true := notF hc
      refine awp_skip ?_
      refine awp_region ?_
      refine aops_e (w0 rfl) rfl (eff_move rfl rfl) ?_
      refine aops_e (w0 rfl) rfl (eff_arith rfl rfl rfl (arith_add (by first | omega | (simp only [List.length_map]; omega)))) ?_
      refine aops_e (w0 rfl) rfl (eff_assign rfl rfl) ?_
      refine aops_nil ?_
      refine ⟨i + 1, ⟨hi, by rw [← hJ.2, drop_get hi, List.all_cons, hq, Bool.true_and]⟩, (by omega), ?_⟩
      exact weak_pick [] ⟨rfl, rfl, rfl, trivial⟩ rfl (by decide) rfl rfl
  · intro hc
    have hi : ¬ i < a.length := by simpa using hc
    refine awp_exit ?_
    refine awp_seq ?_
    refine awp_region ?_
    refine aops_e (w0 rfl) rfl (eff_assign rfl rfl) ?_
    refine aops_nil ?_
    refine awp_ret ?_
    exact retq rfl (res_tmp rfl res_nil) (gb (by rw [← hJ.2, drop_end hi]; rfl))

theorem c_few (l : List Site) (hl : small l.length) : ACalls Try.prog 8 [.lst (l.map Site.cells)] [] (Gives (.lst ((l.take 40).map Site.cells))) := by
  simp only [small] at hl
  refine acalls_of (n := 9) Try.func8 rfl (by decide +kernel) rfl rfl ?_
  refine awp_seq ?_
  refine awp_region ?_
  refine aops_e (w0 rfl) rfl (eff_assign rfl rfl) ?_
  refine aops_nil ?_
  refine awp_seq ?_
  refine awp_seq ?_
  refine awp_region ?_
  refine aops_e (w0 rfl) rfl (eff_move rfl rfl) ?_
  refine aops_e (w0 rfl) rfl (eff_len rfl rfl rfl rfl) ?_
  refine aops_e (w0 rfl) rfl (eff_icmp rfl rfl rfl rfl) ?_
  refine aops_nil ?_
  refine awp_cond rfl ?_ ?_
  · intro hc
    have h40 : 40 < l.length := by simp at hc; omega
    refine awp_region ?_
    refine aops_e (w0 rfl) rfl (eff_move rfl rfl) ?_
    refine aops_e (w0 rfl) rfl (eff_to (y := .lst ((l.take 40).map Site.cells)) (eff_sliceTo_lst rfl rfl rfl (by first | omega | (simp only [List.length_map]; omega) | (simp only [List.length_map, List.length_drop]; omega)) (by first | omega | (simp only [List.length_map]; omega) | (simp only [List.length_map, List.length_drop]; omega))) (congrArg AV.lst (by rw [List.map_take]; rfl))) ?_
    refine aops_e (w0 rfl) rfl (eff_assign rfl rfl) ?_
    refine aops_nil ?_
    refine awp_seq ?_
    refine awp_region ?_
    refine aops_e (w0 rfl) rfl (eff_move rfl rfl) ?_
    refine aops_e (w0 rfl) rfl (eff_assign rfl rfl) ?_
    refine aops_nil ?_
    refine awp_ret ?_
    exact retq rfl (res_tmp rfl res_nil) (gvr (by first | rfl | (rw [List.take_of_length_le (by omega)]; rfl)))
  · intro hc
    have h40 : ¬ 40 < l.length := by simp at hc; omega
    refine awp_skip ?_
    refine awp_seq ?_
    refine awp_region ?_
    refine aops_e (w0 rfl) rfl (eff_move rfl rfl) ?_
    refine aops_e (w0 rfl) rfl (eff_assign rfl rfl) ?_
    refine aops_nil ?_
    refine awp_ret ?_
    exact retq rfl (res_tmp rfl res_nil) (gvr (by first | rfl | (rw [List.take_of_length_le (by omega)]; rfl)))

theorem c_site (n : Int) : ACalls Try.prog 30 [iA n] [] (Gives (Site.av ⟨⟨⟨#[65]⟩, ⟨#[109]⟩, ⟨#[40, 41, 86]⟩⟩, n, ⟨#[65]⟩⟩)) := by
  refine acalls_of (n := 6) Try.func30 rfl (by decide +kernel) rfl rfl ?_
  refine awp_seq ?_
  refine awp_region ?_
  refine aops_n (w0 rfl) rfl (fun id => eff_alloc id rfl rfl rfl) (fun id1 => ?_)
  refine aops_nil ?_
  refine awp_seq ?_
  refine awp_region ?_
  refine aops_e (w0 rfl) rfl (eff_build rfl rfl rfl) ?_
  refine aops_e (w0 rfl) rfl (eff_move rfl rfl) ?_
  refine aops_e (w0 rfl) rfl (eff_build rfl rfl rfl) ?_
  refine aops_store 0 (w0 rfl) rfl rfl rfl rfl rfl rfl rfl rfl rfl ?_
  refine aops_nil ?_
  refine awp_ret ?_
  exact retq rfl (res_cell 0 rfl rfl rfl (ld_agg (Nat.le_of_ble_eq_true rfl)) res_nil) (gvr rfl)

theorem c_index (l : List Site) (hl : small l.length) (s : Site) : ACalls Try.prog 54 [.lst (l.map Site.cells), s.av] [] (Gives (iA (idxFrom (eqG s) l 0))) := by
  simp only [small] at hl
  refine acalls_of (n := 19) Try.func54 rfl (by decide +kernel) rfl rfl ?_
  refine awp_seq ?_
  refine awp_region ?_
  refine aops_n (w0 rfl) rfl (fun id => eff_box id rfl rfl rfl rfl rfl) (fun id1 => ?_)
  refine aops_e (w0 rfl) rfl (eff_assign rfl rfl) ?_
  refine aops_nil ?_
  refine awp_seq ?_
  refine awp_seq ?_
  refine awp_region ?_
  refine aops_e (w0 rfl) rfl (eff_move rfl rfl) ?_
  refine aops_e (w0 rfl) rfl (eff_len rfl rfl rfl rfl) ?_
  refine aops_e (w0 rfl) rfl (eff_move rfl rfl) ?_
  refine aops_nil ?_
  refine awp_block ?_
  refine awp_loopJ (α := Nat) (fun i => ⟨[(8, iA i), (7, iA l.length), (0, .lst (l.map Site.cells)), (3, .ptr id1 5 0 0)], [(id1, .rows 26 5 [s.cells])], [], 19⟩) (fun i => i ≤ l.length ∧ idxFrom (eqG s) (l.drop i) i = idxFrom (eqG s) l 0) (fun i => l.length - i) 0 ⟨Nat.zero_le _, rfl⟩ ?_ ?_
  · exact weak_pick [0] ⟨rfl, (by show some (iA _) = some (iA _); simp), rfl, rfl, trivial⟩ rfl (by decide) rfl rfl
  rintro i hJ
  refine awp_seq ?_
  refine awp_region ?_
  refine aops_e (w0 rfl) rfl (eff_icmp rfl rfl rfl rfl) ?_
  refine aops_nil ?_
  refine awp_seq ?_
  refine awp_cond rfl ?_ ?_
  · intro hc
    have hi : i < l.length := by simpa using hc
    refine awp_skip ?_
    refine awp_seq ?_
    refine awp_block ?_
    refine awp_seq ?_
    refine awp_region ?_
    refine aops_e (w0 rfl) rfl (eff_move rfl rfl) ?_
    refine aops_e (w0 rfl) rfl (eff_assign rfl rfl) ?_
    refine aops_nil ?_
    refine awp_seq ?_
    refine awp_drawN 6 rfl (by kernel_rfl) ?_
    refine calm_load_ptr 0 (w0 rfl) rfl rfl rfl rfl rfl (ld_agg (Nat.le_of_ble_eq_true rfl)) ?_
    refine calm_e (w0 rfl) rfl (eff_move rfl rfl) ?_
    refine calm_e (w0 rfl) rfl (eff_move rfl rfl) ?_
    refine calm_e (w0 rfl) rfl (eff_indexAddr_lst rfl rfl rfl (len_map (fun _ => rfl)) (by first | omega | (simp only [List.length_map]; omega) | (simp only [List.length_map, List.length_drop]; omega)) (by first | omega | (simp only [List.length_map]; omega) | (simp only [List.length_map, List.length_drop]; omega))) ?_
    refine calm_e (w0 rfl) rfl (eff_loadE rfl rfl (map_get (by first | assumption | omega | (simp only [List.length_drop]; omega))) (ld_agg (Nat.le_of_ble_eq_true rfl))) ?_
    refine calm_e (w0 rfl) rfl (eff_eql rfl rfl rfl rfl rfl) ?_
    refine .done ?_
    refine aops_nil ?_
    refine awp_cond rfl ?_ ?_
    · intro hc
      have hq : eqG s l[i] = true := by rw [← eqSite']; exact hc
      refine awp_seq ?_
      refine awp_region ?_
      refine aops_e (w0 rfl) rfl (eff_move rfl rfl) ?_
      refine aops_e (w0 rfl) rfl (eff_assign rfl rfl) ?_
      refine aops_nil ?_
      refine awp_ret ?_
      exact retq rfl (res_tmp rfl res_nil) (gi (by rw [← hJ.2, drop_get hi]; simp only [idxFrom]; rw [if_pos hq]))
    · intro hc
      have hq : eqG s l[i] = false := by rw [← eqSite']; exact hc
      refine awp_skip ?_
      refine awp_region ?_
      refine aops_e (w0 rfl) rfl (eff_arith rfl rfl rfl (arith_add (by first | omega | (simp only [List.length_map]; omega)))) ?_
      refine aops_e (w0 rfl) rfl (eff_move rfl rfl) ?_
      refine aops_nil ?_
      refine ⟨i + 1, ⟨hi, by rw [← hJ.2, drop_get hi]; simp only [idxFrom]; rw [if_neg (by rw [hq]; simp)]⟩, (by omega), ?_⟩
      exact weak_pick [0] ⟨rfl, rfl, rfl, rfl, trivial⟩ rfl (by decide) rfl rfl
  · intro hc
    have hi : ¬ i < l.length := by simpa using hc
    refine awp_exit ?_
    refine awp_seq ?_
    refine awp_region ?_
    refine aops_e (w0 rfl) rfl (eff_assign rfl rfl) ?_
    refine aops_nil ?_
    refine awp_ret ?_
    exact retq rfl (res_tmp rfl res_nil) (gi (by rw [← hJ.2, drop_end hi]; rfl))

theorem any_has (l : List Site) (s : Site) : l.any (eqG s) = hasG l s := by unfold hasG; congr 1; funext x; unfold eqG; rw [Bool.eq_iff_iff]; simp only [decide_eq_true_eq]; exact eq_comm

theorem c_contains (l : List Site) (hl : small l.length) (s : Site) : ACalls Try.prog 34 [.lst (l.map Site.cells), s.av] [] (Gives (bA (hasG l s))) := by
  refine acalls_of (n := 9) Try.func34 rfl (by decide +kernel) rfl rfl ?_
  refine awp_seq ?_
  refine awp_region ?_
  refine aops_n (w0 rfl) rfl (fun id => eff_box id rfl rfl rfl rfl rfl) (fun id1 => ?_)
  refine aops_e (w0 rfl) rfl (eff_assign rfl rfl) ?_
  refine aops_nil ?_
  refine awp_seq ?_
  refine awp_region ?_
  refine aops_e (w0 rfl) rfl (eff_move rfl rfl) ?_
  refine aops_load_ptr 0 (w0 rfl) rfl rfl rfl rfl rfl (ld_agg (Nat.le_of_ble_eq_true rfl)) ?_
  refine aops_e (w0 rfl) rfl (eff_call [] rfl rfl rfl (c_index l hl s) List.nodup_nil) ?_
  refine aops_e (w0 rfl) rfl (eff_icmp rfl rfl rfl rfl) ?_
  refine aops_e (w0 rfl) rfl (eff_assign rfl rfl) ?_
  refine aops_nil ?_
  refine awp_ret ?_
  exact retq rfl (res_tmp rfl res_nil) (gb ((idx_any _ _).trans (any_has l s)))

theorem c_clone (l : List Site) (hl : l.length ≤ 1000000000) : ACalls Try.prog 50 [.lst (l.map Site.cells)] [] (GP (fun q : Nat => .own q 5 0 (l).length) (fun q => [(q, .rows 26 5 ((l).map Site.cells))]) (fun _ => True)) := by
  refine acalls_of (n := 8) Try.func50 rfl (by decide +kernel) rfl rfl ?_
  refine awp_seq ?_
  refine awp_region ?_
  refine aops_n (w0 rfl) rfl (fun id => eff_nil id 26 5 (.inl rfl) rfl) (fun id1 => ?_)
  refine aops_nil ?_
  refine awp_seq ?_
  refine awp_seq ?_
  refine awp_region ?_
  refine aops_e (w0 rfl) rfl (eff_move rfl rfl) ?_
  refine aops_isNil (w0 rfl) rfl rfl rfl (fun bn hbn => ?_)
  refine aops_nil ?_
  refine awp_cond rfl ?_ ?_
  · intro hc
    have e0 : l = [] := by have := hbn hc; simpa using this
    subst e0
    refine awp_seq ?_
    refine awp_region ?_
    refine aops_n (w0 rfl) rfl (fun id => eff_nil id 26 5 (.inl rfl) rfl) (fun id2 => ?_)
    refine aops_nil ?_
    refine awp_ret ?_
    exact retq_keep rfl (res_tmp rfl res_nil) (.cons_cons _ (.cons _ .slnil)) (gp _ trivial rfl rfl)
  · intro hc
    refine awp_skip ?_
    refine awp_seq ?_
    refine awp_region ?_
    refine aops_n (w0 rfl) rfl (fun id => eff_buildSlice id (ps := []) rfl rfl rfl rfl rfl rfl rfl rfl) (fun id3 => ?_)
    refine aops_e (w0 rfl) rfl (eff_move rfl rfl) ?_
    refine aops_append 0 (w0 rfl) rfl rfl rfl rfl rfl rfl ⟨rfl, len_map (fun _ => rfl)⟩ (by first | omega | (simp; omega) | (simp [maxLen]; omega) | (simp; done) | (simp [maxLen]; done)) (by first | omega | (simp; omega) | (simp [maxLen]; omega) | (simp; done) | (simp [maxLen]; done)) (fun id4 => ?_)
    refine aops_e (w0 rfl) rfl (eff_assign rfl rfl) ?_
    refine aops_nil ?_
    refine awp_ret ?_
    exact retq_keep rfl (res_tmp rfl res_nil) (.cons_cons _ (.cons _ .slnil)) (gp id4 trivial (by show AV.own _ _ _ _ = AV.own _ _ _ _; simp) (by show [(_, AObj.rows _ _ _)] = [(_, AObj.rows _ _ _)]; simp))

theorem c_setFn (i1 : Nat) (a b : Site) : ACalls Try.prog 53 [a.av, b.av, .ptr i1 1 0 0] [(i1, .rows 54 1 [[.fn (.func 26) []]])] (GivesH (bA (eqG a b)) [(i1, .rows 54 1 [[.fn (.func 26) []]])]) := by
  refine acalls_of (n := 11) Try.func53 rfl (by decide +kernel) rfl rfl ?_
  refine awp_seq ?_
  refine awp_region ?_
  refine aops_n (w0 rfl) rfl (fun id => eff_box id rfl rfl rfl rfl rfl) (fun id1 => ?_)
  refine aops_n (w0 rfl) rfl (fun id => eff_box id rfl rfl rfl rfl rfl) (fun id2 => ?_)
  refine aops_e (w0 rfl) rfl (eff_assign rfl rfl) ?_
  refine aops_nil ?_
  refine awp_seq ?_
  refine awp_region ?_
  refine aops_load_ptr 2 (w0 rfl) rfl rfl rfl rfl rfl ld_one ?_
  refine aops_load_ptr 1 (w0 rfl) rfl rfl rfl rfl rfl (ld_agg (Nat.le_of_ble_eq_true rfl)) ?_
  refine aops_load_ptr 0 (w0 rfl) rfl rfl rfl rfl rfl (ld_agg (Nat.le_of_ble_eq_true rfl)) ?_
  refine aops_e (w0 rfl) rfl (eff_call [] rfl rfl rfl (c_cmpSite a b) List.nodup_nil) ?_
  refine aops_e (w0 rfl) rfl (eff_icmp rfl rfl rfl rfl) ?_
  refine aops_e (w0 rfl) rfl (eff_assign rfl rfl) ?_
  refine aops_nil ?_
  refine awp_ret ?_
  exact retq_keep rfl (res_tmp rfl res_nil) (.cons _ (.cons _ (.refl _))) (gvH (congrArg bA (cmpS_dec a b)))

instance : ZV Try.prog 26 (.agg #[.string ⟨#[]⟩, .string ⟨#[]⟩, .string ⟨#[]⟩, .int .i64 0, .string ⟨#[]⟩]) := ⟨by kernel_rfl⟩

theorem c_compactF (q i1 n : Nat) (l : List Site) (hn : l.length = n) (hN : n ≤ 140737488355328) : ACalls Try.prog 52 [.own q 5 0 n, .fn (.func 53) [.ptr i1 1 0 0]] [(q, .rows 26 5 (l.map Site.cells)), (i1, .rows 54 1 [[.fn (.func 26) []]])] (GP (fun m : List Site => .own q 5 0 m.length) (fun m => [(q, .rows 26 5 (m.map Site.cells)), (i1, .rows 54 1 [[.fn (.func 26) []]])]) (fun m => m = cptNG l l.length)) := by
  refine acalls_of (n := 66) Try.func52 rfl (by decide +kernel) rfl rfl ?_
  refine awp_seq ?_
  refine awp_region ?_
  refine aops_e (w0 rfl) rfl (eff_assign rfl rfl) ?_
  refine aops_nil ?_
  refine awp_seq ?_
  refine awp_seq ?_
  refine awp_region ?_
  refine aops_e (w0 rfl) rfl (eff_move rfl rfl) ?_
  refine aops_e (w0 rfl) rfl (eff_len rfl rfl rfl rfl) ?_
  refine aops_e (w0 rfl) rfl (eff_icmp rfl rfl rfl rfl) ?_
  refine aops_nil ?_
  refine awp_cond rfl ?_ ?_
  · intro hc
    have hlt : n < 2 := by simp at hc; omega
    refine awp_seq ?_
    refine awp_region ?_
    refine aops_e (w0 rfl) rfl (eff_move rfl rfl) ?_
    refine aops_e (w0 rfl) rfl (eff_assign rfl rfl) ?_
    refine aops_nil ?_
    refine awp_ret ?_
    exact retq_keep rfl (res_tmp rfl res_nil) (.cons_cons _ (.cons_cons _ .slnil)) (gp l (by rw [cptNG_take (Nat.le_refl _) (fun k h1 h2 => by omega), List.take_length]) (by rw [hn]; rfl) rfl)
  · intro hc
    have hlt : ¬ n < 2 := by simp at hc; omega
    refine awp_skip ?_
    refine awp_seq ?_
    refine awp_seq ?_
    refine awp_region ?_
    refine aops_e (w0 rfl) rfl (eff_assign rfl rfl) ?_
    refine aops_nil ?_
    refine awp_block ?_
    refine awp_loopJ (α := Nat) (fun x => ⟨[(5, iA x), (0, .own q 5 0 n), (1, .fn (.func 53) [.ptr i1 1 0 0])], [(q, .rows 26 5 (l.map Site.cells)), (i1, .rows 54 1 [[.fn (.func 26) []]])], [], 66⟩) (fun x => 1 ≤ x ∧ x ≤ n ∧ ∀ i, 0 < i → i < x → cptSG l i = true) (fun x => n - x) 1 ⟨Nat.le_refl _, by omega, fun i h1 h2 => by omega⟩ ?_ ?_
    · exact weak_pick [0, 1] ⟨rfl, rfl, rfl, trivial⟩ rfl (by decide) rfl rfl
    rintro x hJ
    refine awp_seq ?_
    refine awp_seq ?_
    refine awp_region ?_
    refine aops_e (w0 rfl) rfl (eff_move rfl rfl) ?_
    refine aops_e (w0 rfl) rfl (eff_move rfl rfl) ?_
    refine aops_e (w0 rfl) rfl (eff_len rfl rfl rfl rfl) ?_
    refine aops_e (w0 rfl) rfl (eff_icmp rfl rfl rfl rfl) ?_
    refine aops_nil ?_
    refine awp_cond rfl ?_ ?_
    · intro hc
      have hx : x < n := by simpa using hc
      refine awp_skip ?_
      refine awp_seq ?_
      refine awp_block ?_
      refine awp_seq ?_
      refine awp_drawN 10 rfl (by kernel_rfl) ?_
      refine calm_e (w0 rfl) rfl (eff_move rfl rfl) ?_
      refine calm_e (w0 rfl) rfl (eff_move rfl rfl) ?_
      refine calm_e (w0 rfl) rfl (eff_move rfl rfl) ?_
      refine calm_e (w0 rfl) rfl (eff_indexAddr_ownN x rfl rfl rfl (by first | omega | (simp only [List.length_map]; omega) | (simp only [List.length_map, List.length_drop]; omega)) (by first | omega | (simp only [List.length_map]; omega) | (simp only [List.length_map, List.length_drop]; omega)) (by omega)) ?_
      refine calm_load_ptr 0 (w0 rfl) rfl rfl rfl rfl (own_getC (by first | assumption | omega | (simp only [List.length_drop]; omega))) (ld_aggC rfl) ?_
      refine calm_e (w0 rfl) rfl (eff_move rfl rfl) ?_
      refine calm_e (w0 rfl) rfl (eff_move rfl rfl) ?_
      refine calm_e (w0 rfl) rfl (eff_arith rfl rfl rfl (arith_sub (by first | omega | (simp only [List.length_map]; omega)))) ?_
      refine calm_e (w0 rfl) rfl (eff_indexAddr_ownN (x - 1) rfl rfl rfl (by first | omega | (simp only [List.length_map]; omega) | (simp only [List.length_map, List.length_drop]; omega)) (by first | omega | (simp only [List.length_map]; omega) | (simp only [List.length_map, List.length_drop]; omega)) (by omega)) ?_
      refine calm_load_ptr 0 (w0 rfl) rfl rfl rfl rfl (own_getC (by first | assumption | omega | (simp only [List.length_drop]; omega))) (ld_aggC rfl) ?_
      refine .done ?_
      refine aops_callG [_] _ (w0 rfl) rfl rfl rfl rfl (perm_get (k := 1) rfl) (c_setFn i1 _ _) ?_
      refine aops_nil ?_
      refine awp_cond rfl ?_ ?_
      · intro hc
        have hq : eqG (l.getD x default) (l.getD (x - 1) default) = true := hc
        refine awp_seq ?_
        refine awp_region ?_
        refine aops_e (w0 rfl) rfl (eff_move rfl rfl) ?_
        refine aops_e (w0 rfl) rfl (eff_move rfl rfl) ?_
        refine aops_e (w0 rfl) rfl (eff_to (y := .own q 5 x (n - x)) (eff_sliceFrom_own rfl rfl rfl (by first | omega | (simp only [List.length_map]; omega) | (simp only [List.length_map, List.length_drop]; omega)) (by first | omega | (simp only [List.length_map]; omega) | (simp only [List.length_map, List.length_drop]; omega))) ((by simp))) ?_
        refine aops_e (w0 rfl) rfl (eff_assign rfl rfl) ?_
        refine aops_nil ?_
        refine awp_seq ?_
        refine awp_seq ?_
        refine awp_region ?_
        refine aops_e (w0 rfl) rfl (eff_assign rfl rfl) ?_
        refine aops_nil ?_
        refine awp_block ?_
        refine awp_loopJ (α := List Site × Nat × Nat) (fun z => ⟨[(5, iA z.2.1), (7, iA z.2.2), (6, .own q 5 x (n - x)), (0, .own q 5 0 n), (1, .fn (.func 53) [.ptr i1 1 0 0])], [(q, .rows 26 5 (z.1.map Site.cells)), (i1, .rows 54 1 [[.fn (.func 26) []]])], [], 66⟩) (fun z => CptJG l x z.1 z.2.1 z.2.2) (fun z => n - x - z.2.2) (l, x, 1) (CptJG.start hJ.1 (by omega) hJ.2.2 hq) ?_ ?_
        · exact weak_pick [0, 1] ⟨rfl, rfl, rfl, rfl, rfl, trivial⟩ rfl (by decide) rfl rfl
        rintro z hJ1
        have hm1 := hJ1.h1
        have hm2 := hJ1.h2
        have hm3 := hJ1.h3
        have hm4 := hJ1.h4
        have hml := hJ1.hl
        refine awp_seq ?_
        refine awp_seq ?_
        refine awp_region ?_
        refine aops_e (w0 rfl) rfl (eff_move rfl rfl) ?_
        refine aops_e (w0 rfl) rfl (eff_move rfl rfl) ?_
        refine aops_e (w0 rfl) rfl (eff_len rfl rfl rfl rfl) ?_
        refine aops_e (w0 rfl) rfl (eff_icmp rfl rfl rfl rfl) ?_
        refine aops_nil ?_
        refine awp_cond rfl ?_ ?_
        · intro hc
          have hj : z.2.2 < l.length - x := by simp at hc; omega
          refine awp_skip ?_
          refine awp_seq ?_
          refine awp_block ?_
          refine awp_seq ?_
          refine awp_drawN 10 rfl (by kernel_rfl) ?_
          refine calm_e (w0 rfl) rfl (eff_move rfl rfl) ?_
          refine calm_e (w0 rfl) rfl (eff_move rfl rfl) ?_
          refine calm_e (w0 rfl) rfl (eff_move rfl rfl) ?_
          refine calm_e (w0 rfl) rfl (eff_indexAddr_ownN (x + z.2.2) rfl rfl rfl (by first | omega | (simp only [List.length_map]; omega) | (simp only [List.length_map, List.length_drop]; omega)) (by first | omega | (simp only [List.length_map]; omega) | (simp only [List.length_map, List.length_drop]; omega)) (by omega)) ?_
          refine calm_load_ptr 0 (w0 rfl) rfl rfl rfl rfl (own_getC (by first | assumption | omega | (simp only [List.length_drop]; omega))) (ld_aggC rfl) ?_
          refine calm_e (w0 rfl) rfl (eff_move rfl rfl) ?_
          refine calm_e (w0 rfl) rfl (eff_move rfl rfl) ?_
          refine calm_e (w0 rfl) rfl (eff_arith rfl rfl rfl (arith_sub (by first | omega | (simp only [List.length_map]; omega)))) ?_
          refine calm_e (w0 rfl) rfl (eff_indexAddr_ownN (x + (z.2.2 - 1)) rfl rfl rfl (by first | omega | (simp only [List.length_map]; omega) | (simp only [List.length_map, List.length_drop]; omega)) (by first | omega | (simp only [List.length_map]; omega) | (simp only [List.length_map, List.length_drop]; omega)) (by omega)) ?_
          refine calm_load_ptr 0 (w0 rfl) rfl rfl rfl rfl (own_getC (by first | assumption | omega | (simp only [List.length_drop]; omega))) (ld_aggC rfl) ?_
          refine .done ?_
          refine aops_callG [_] _ (w0 rfl) rfl rfl rfl rfl (perm_get (k := 1) rfl) (c_setFn i1 _ _) ?_
          refine aops_e (w0 rfl) rfl (eff_not rfl rfl) ?_
          refine aops_nil ?_
          refine awp_cond rfl ?_ ?_
          · intro hc
            have hv : (!eqG (z.1.getD (x + z.2.2) default) (z.1.getD (x + (z.2.2 - 1)) default)) = true := hc
            refine awp_seq ?_
            refine awp_region ?_
            refine aops_e (w0 rfl) rfl (eff_move rfl rfl) ?_
            refine aops_e (w0 rfl) rfl (eff_move rfl rfl) ?_
            refine aops_e (w0 rfl) rfl (eff_move rfl rfl) ?_
            refine aops_e (w0 rfl) rfl (eff_move rfl rfl) ?_
            refine aops_e (w0 rfl) rfl (eff_indexAddr_ownN (x + z.2.2) rfl rfl rfl (by first | omega | (simp only [List.length_map]; omega) | (simp only [List.length_map, List.length_drop]; omega)) (by first | omega | (simp only [List.length_map]; omega) | (simp only [List.length_map, List.length_drop]; omega)) (by omega)) ?_
            refine aops_load_ptr 0 (w0 rfl) rfl rfl rfl rfl (own_getC (by first | assumption | omega | (simp only [List.length_drop]; omega))) (ld_aggC rfl) ?_
            refine aops_e (w0 rfl) rfl (eff_indexAddr_ownN z.2.1 rfl rfl rfl (by first | omega | (simp only [List.length_map]; omega) | (simp only [List.length_map, List.length_drop]; omega)) (by first | omega | (simp only [List.length_map]; omega) | (simp only [List.length_map, List.length_drop]; omega)) (by omega)) ?_
            refine aops_storeC (f := Site.cells) 0 (fun _ => rfl) (fun _ => rfl) (w0 rfl) rfl rfl rfl rfl (by first | omega | (simp; omega)) rfl ?_
            refine aops_nil ?_
            refine awp_region ?_
            refine aops_e (w0 rfl) rfl (eff_move rfl rfl) ?_
            refine aops_e (w0 rfl) rfl (eff_arith rfl rfl rfl (arith_add (by first | omega | (simp only [List.length_map]; omega)))) ?_
            refine aops_e (w0 rfl) rfl (eff_assign rfl rfl) ?_
            refine aops_nil ?_
            refine awp_region ?_
            refine aops_e (w0 rfl) rfl (eff_move rfl rfl) ?_
            refine aops_e (w0 rfl) rfl (eff_arith rfl rfl rfl (arith_add (by first | omega | (simp only [List.length_map]; omega)))) ?_
            refine aops_e (w0 rfl) rfl (eff_assign rfl rfl) ?_
            refine aops_nil ?_
            refine ⟨(z.1.set z.2.1 (z.1.getD (x + z.2.2) default), z.2.1 + 1, z.2.2 + 1), (hJ1.put hj hv), (by (try simp only) <;> omega), ?_⟩
            exact weak_pick [0, 1] ⟨rfl, rfl, rfl, rfl, rfl, trivial⟩ rfl (by decide) rfl rfl
          · intro hc
            have hv : eqG (z.1.getD (x + z.2.2) default) (z.1.getD (x + (z.2.2 - 1)) default) = true := notF hc
            refine awp_skip ?_
            refine awp_region ?_
            refine aops_e (w0 rfl) rfl (eff_move rfl rfl) ?_
            refine aops_e (w0 rfl) rfl (eff_arith rfl rfl rfl (arith_add (by first | omega | (simp only [List.length_map]; omega)))) ?_
            refine aops_e (w0 rfl) rfl (eff_assign rfl rfl) ?_
            refine aops_nil ?_
            refine ⟨(z.1, z.2.1, z.2.2 + 1), (hJ1.keep hj hv), (by (try simp only) <;> omega), ?_⟩
            exact weak_pick [0, 1] ⟨rfl, rfl, rfl, rfl, rfl, trivial⟩ rfl (by decide) rfl rfl
        · intro hc
          have hj : ¬ z.2.2 < l.length - x := by simp at hc; omega
          have hfin := hJ1.fin (by omega) hj
          refine awp_exit ?_
          refine awp_seq ?_
          refine awp_region ?_
          refine aops_e (w0 rfl) rfl (eff_move rfl rfl) ?_
          refine aops_e (w0 rfl) rfl (eff_move rfl rfl) ?_
          refine aops_e (w0 rfl) rfl (eff_to (y := .own q 5 z.2.1 (n - z.2.1)) (eff_sliceFrom_own rfl rfl rfl (by first | omega | (simp only [List.length_map]; omega) | (simp only [List.length_map, List.length_drop]; omega)) (by first | omega | (simp only [List.length_map]; omega) | (simp only [List.length_map, List.length_drop]; omega))) ((by simp))) ?_
          refine aops_clearC (n := 5) 0 rfl (by decide) (w0 rfl) rfl rfl rfl rfl ?_
          refine aops_nil ?_
          refine awp_seq ?_
          refine awp_region ?_
          refine aops_e (w0 rfl) rfl (eff_move rfl rfl) ?_
          refine aops_e (w0 rfl) rfl (eff_move rfl rfl) ?_
          refine aops_e (w0 rfl) rfl (eff_to (y := .own q 5 0 z.2.1) (eff_sliceTo_own rfl rfl rfl (by first | omega | (simp only [List.length_map]; omega) | (simp only [List.length_map, List.length_drop]; omega)) (by first | omega | (simp only [List.length_map]; omega) | (simp only [List.length_map, List.length_drop]; omega))) ((by simp))) ?_
          refine aops_e (w0 rfl) rfl (eff_assign rfl rfl) ?_
          refine aops_nil ?_
          refine awp_ret ?_
          exact retq_keep rfl (res_tmp rfl res_nil) (.cons_cons _ (.cons_cons _ .slnil)) (gp (z.1.take z.2.1) hfin.1 (by show AV.own q 5 0 _ = AV.own q 5 0 _; rw [List.length_take]; congr 1; omega) (by show [(_, AObj.rows _ _ _), _] = [(_, AObj.rows _ _ _), _]; rw [List.map_take]))
      · intro hc
        have hv : cptSG l x = true := by unfold cptSG; rw [show eqG (l.getD x default) (l.getD (x - 1) default) = false from hc]; rfl
        refine awp_skip ?_
        refine awp_region ?_
        refine aops_e (w0 rfl) rfl (eff_move rfl rfl) ?_
        refine aops_e (w0 rfl) rfl (eff_arith rfl rfl rfl (arith_add (by first | omega | (simp only [List.length_map]; omega)))) ?_
        refine aops_e (w0 rfl) rfl (eff_assign rfl rfl) ?_
        refine aops_nil ?_
        refine ⟨(x + 1), ⟨by omega, by omega, fun i h1 h2 => by rcases Nat.lt_succ_iff_lt_or_eq.1 h2 with h | h; exact hJ.2.2 i h1 h; rw [h]; exact hv⟩, (by omega), ?_⟩
        exact weak_pick [0, 1] ⟨rfl, rfl, rfl, trivial⟩ rfl (by decide) rfl rfl
    · intro hc
      have hx : ¬ x < n := by simpa using hc
      refine awp_exit ?_
      refine awp_seq ?_
      refine awp_region ?_
      refine aops_e (w0 rfl) rfl (eff_move rfl rfl) ?_
      refine aops_e (w0 rfl) rfl (eff_assign rfl rfl) ?_
      refine aops_nil ?_
      refine awp_ret ?_
      exact retq_keep rfl (res_tmp rfl res_nil) (.cons_cons _ (.cons_cons _ .slnil)) (gp l (by rw [cptNG_take (Nat.le_refl _) (fun k h1 h2 => hJ.2.2 k h1 (by omega)), List.take_length]) (by rw [hn]; rfl) rfl)

theorem c_set (l : List Site) (hl : l.length ≤ 1000000)  : ACalls Try.prog 32 [.lst (l.map Site.cells), .fn (.func 26) []] [] (GP (fun q : Nat => .own q 5 0 ((risG sLt l)).length) (fun q => [(q, .rows 26 5 (((risG sLt l)).map Site.cells))]) (fun _ => True)) := by
  have hls : small l.length := by unfold small; omega
  refine acalls_of (n := 18) Try.func32 rfl (by decide +kernel) rfl rfl ?_
  refine awp_seq ?_
  refine awp_region ?_
  refine aops_n (w0 rfl) rfl (fun id => eff_box id rfl rfl rfl rfl rfl) (fun id1 => ?_)
  refine aops_e (w0 rfl) rfl (eff_assign rfl rfl) ?_
  refine aops_nil ?_
  refine awp_seq ?_
  refine awp_region ?_
  refine aops_e (w0 rfl) rfl (eff_move rfl rfl) ?_
  refine aops_callP [] _ (w0 rfl) rfl rfl rfl rfl (.refl _) (c_clone l (by omega)) (fun v2 hv2 => ?_)
  refine aops_e (w0 rfl) rfl (eff_assign rfl rfl) ?_
  refine aops_nil ?_
  refine awp_seq ?_
  refine awp_seq ?_
  refine awp_region ?_
  refine aops_e (w0 rfl) rfl (eff_move rfl rfl) ?_
  refine aops_load_ptr 1 (w0 rfl) rfl rfl rfl rfl rfl ld_one ?_
  refine aops_lend 0 (w0 rfl) rfl rfl rfl rfl rfl (.lend (by simp) (.keep .nil)) (c_rises l hls) rfl ?_
  refine aops_nil ?_
  refine awp_cond rfl ?_ ?_
  · intro hc
    have hr : riseG sLt l = true := hc
    refine awp_seq ?_
    refine awp_region ?_
    refine aops_e (w0 rfl) rfl (eff_move rfl rfl) ?_
    refine aops_e (w0 rfl) rfl (eff_assign rfl rfl) ?_
    refine aops_nil ?_
    refine awp_ret ?_
    exact retq_keep rfl (res_tmp rfl res_nil) (.cons_cons _ (.cons _ .slnil)) (gp v2 trivial (by show AV.own _ _ _ _ = AV.own _ _ _ _; rw [← riseG_ris sLtT hr]) (by rw [← riseG_ris sLtT hr]))
  · intro hc
    refine awp_skip ?_
    refine awp_seq ?_
    refine awp_region ?_
    refine aops_e (w0 rfl) rfl (eff_move rfl rfl) ?_
    refine aops_load_ptr 1 (w0 rfl) rfl rfl rfl rfl rfl ld_one ?_
    refine aops_callP [_] _ (w0 rfl) rfl rfl rfl rfl (perm_get (k := 0) rfl) (c_sortF v2 l.length l rfl (by omega)) (fun v3 hv3 => ?_)
    refine aops_nil ?_
    refine awp_seq ?_
    refine awp_region ?_
    refine aops_e (w0 rfl) rfl (eff_move rfl rfl) ?_
    refine aops_e (w0 rfl) rfl (eff_makeFunc rfl rfl) ?_
    refine aops_callP [_, _] _ (w0 rfl) rfl rfl rfl rfl (perm_get2 (k := 0) (j := 0) rfl rfl) (c_compactF v2 id1 l.length v3 hv3.1.length_eq (by omega)) (fun v4 hv4 => ?_)
    refine aops_e (w0 rfl) rfl (eff_assign rfl rfl) ?_
    refine aops_nil ?_
    refine awp_ret ?_
    exact retq_keep rfl (res_tmp rfl res_nil) (.cons_cons _ (.cons _ .slnil)) (gp v2 trivial (by show AV.own _ _ _ _ = AV.own _ _ _ _; rw [(hv4.trans (cptNG_ris sLtT hv3.1 (by rw [hv3.1.length_eq]; exact hv3.2)))]) (by show [(_, AObj.rows _ _ _)] = [(_, AObj.rows _ _ _)]; rw [(hv4.trans (cptNG_ris sLtT hv3.1 (by rw [hv3.1.length_eq]; exact hv3.2)))]))

theorem c_of (l : List Site) (hl : l.length ≤ 1000000)  : ACalls Try.prog 13 [.lst (l.map Site.cells)] [] (GP (fun q : Nat => .own q 5 0 ((risG sLt l)).length) (fun q => [(q, .rows 26 5 (((risG sLt l)).map Site.cells))]) (fun _ => True)) := by
  refine acalls_of (n := 5) Try.func13 rfl (by decide +kernel) rfl rfl ?_
  refine awp_seq ?_
  refine awp_region ?_
  refine aops_e (w0 rfl) rfl (eff_assign rfl rfl) ?_
  refine aops_nil ?_
  refine awp_seq ?_
  refine awp_region ?_
  refine aops_e (w0 rfl) rfl (eff_move rfl rfl) ?_
  refine aops_callP [] _ (w0 rfl) rfl rfl rfl rfl (.refl _) (c_set l hl) (fun v1 hv1 => ?_)
  refine aops_e (w0 rfl) rfl (eff_assign rfl rfl) ?_
  refine aops_nil ?_
  refine awp_ret ?_
  exact retq_keep rfl (res_tmp rfl res_nil) (.cons_cons _ .slnil) (gp _ trivial rfl rfl)

theorem c_ofL (l : List Site) (hl : l.length ≤ 1000000) : ACalls Try.prog 13 [.lst (l.map Site.cells)] [] (Gives (.lst ((risG sLt l).map Site.cells))) := acalls_frzD (c_of l hl)

theorem c_both (a b : List Site) (hl : a.length ≤ 1000000) (hb : b.length ≤ 1000000) : ACalls Try.prog 33 [.lst (a.map Site.cells), .lst (b.map Site.cells), .fn (.func 26) []] [] (Gives (.lst ((mrgG sLt a b).map Site.cells))) := by
  refine acalls_of (n := 50) Try.func33 rfl (by decide +kernel) rfl rfl ?_
  refine awp_seq ?_
  refine awp_region ?_
  refine aops_e (w0 rfl) rfl (eff_assign rfl rfl) ?_
  refine aops_nil ?_
  refine awp_seq ?_
  refine awp_region ?_
  refine aops_n (w0 rfl) rfl (fun id => eff_nil id 26 5 (.inl rfl) rfl) (fun id1 => ?_)
  refine aops_nil ?_
  refine awp_seq ?_
  refine awp_block ?_
  refine awp_loopJ (α := Nat × List Site × Nat × Nat) (fun x => ⟨[(7, .own x.1 5 0 x.2.1.length), (0, .lst ((a.drop x.2.2.1).map Site.cells)), (1, .lst ((b.drop x.2.2.2).map Site.cells)), (2, .fn (.func 26) [])], [(x.1, .rows 26 5 (x.2.1.map Site.cells))], [], 50⟩) (fun x => MrgJ sLt a b x.2.1 x.2.2.1 x.2.2.2) (fun x => (a.length - x.2.2.1) + (b.length - x.2.2.2)) (id1, [], 0, 0) (MrgJ.start a b) ?_ ?_
  · exact weak_pick [0] ⟨rfl, rfl, rfl, rfl, trivial⟩ rfl (by decide) rfl rfl
  rintro x hJ
  have g1 := hJ.h1
  have g2 := hJ.h2
  have g3 := hJ.h3
  refine awp_seq ?_
  refine awp_seq ?_
  refine awp_region ?_
  refine aops_e (w0 rfl) rfl (eff_move rfl rfl) ?_
  refine aops_e (w0 rfl) rfl (eff_len rfl rfl rfl rfl) ?_
  refine aops_e (w0 rfl) rfl (eff_icmp rfl rfl rfl rfl) ?_
  refine aops_e (w0 rfl) rfl (eff_move rfl rfl) ?_
  refine aops_g (wT rfl rfl rfl rfl) rfl (fun hg => (eff_move rfl rfl)) ?_
  refine aops_g (wT rfl rfl rfl rfl) rfl (fun hg => (eff_len rfl (ev_g hg rfl) rfl rfl)) ?_
  refine aops_g (wT rfl rfl rfl rfl) rfl (fun hg => (eff_icmp rfl (ev_g hg rfl) rfl rfl)) ?_
  refine aops_e (w0 rfl) rfl (eff_and rfl rfl rfl (fun h => h)) ?_
  refine aops_nil ?_
  refine awp_cond rfl ?_ ?_
  · intro hc
    have hi : x.2.2.1 < a.length := by have := andL hc; simp at this; omega
    have hj : x.2.2.2 < b.length := by have := andR hc; simp at this; omega
    have ea : ∀ h, (a.drop x.2.2.1)[(0 : Int).toNat]'h = a.getD x.2.2.1 default := fun h => by rw [siteD hi]; simp
    have eb : ∀ h, (b.drop x.2.2.2)[(0 : Int).toNat]'h = b.getD x.2.2.2 default := fun h => by rw [siteD hj]; simp
    refine awp_skip ?_
    refine awp_block ?_
    refine awp_seq ?_
    refine awp_drawN 9 rfl (by kernel_rfl) ?_
    refine calm_e (w0 rfl) rfl (eff_move rfl rfl) ?_
    refine calm_e (w0 rfl) rfl (eff_move rfl rfl) ?_
    refine calm_e (w0 rfl) rfl (eff_indexAddr_lst rfl rfl rfl (len_map (fun _ => rfl)) (by first | omega | (simp only [List.length_map]; omega) | (simp only [List.length_map, List.length_drop]; omega)) (by first | omega | (simp only [List.length_map]; omega) | (simp only [List.length_map, List.length_drop]; omega))) ?_
    refine calm_e (w0 rfl) rfl (eff_loadE rfl rfl (map_get (by first | assumption | omega | (simp only [List.length_drop]; omega))) (ld_agg (Nat.le_of_ble_eq_true rfl))) ?_
    refine calm_e (w0 rfl) rfl (eff_move rfl rfl) ?_
    refine calm_e (w0 rfl) rfl (eff_indexAddr_lst rfl rfl rfl (len_map (fun _ => rfl)) (by first | omega | (simp only [List.length_map]; omega) | (simp only [List.length_map, List.length_drop]; omega)) (by first | omega | (simp only [List.length_map]; omega) | (simp only [List.length_map, List.length_drop]; omega))) ?_
    refine calm_e (w0 rfl) rfl (eff_loadE rfl rfl (map_get (by first | assumption | omega | (simp only [List.length_drop]; omega))) (ld_agg (Nat.le_of_ble_eq_true rfl))) ?_
    refine calm_e (w0 rfl) rfl (eff_call [] rfl rfl rfl (c_cmpSite _ _) List.nodup_nil) ?_
    refine calm_e (w0 rfl) rfl (eff_assign rfl rfl) ?_
    refine .done ?_
    refine aops_nil ?_
    refine awp_seq ?_
    refine awp_seq ?_
    refine awp_region ?_
    refine aops_e (w0 rfl) rfl (eff_move rfl rfl) ?_
    refine aops_e (w0 rfl) rfl (eff_icmp rfl rfl rfl rfl) ?_
    refine aops_nil ?_
    refine awp_cond rfl ?_ ?_
    · intro hc
      have h4 : cmpS (a.getD x.2.2.1 default) (b.getD x.2.2.2 default) ≤ 0 := by have h := of_decide_eq_true hc; rw [ea, eb] at h; exact h
      refine awp_drawV [0, 0, 2, 6, 14, 31, 0, 64, 63, 511] [5] [4] rfl (by kernel_rfl) ?_
      refine vcalm_e (w0 rfl) rfl (eff_move rfl rfl) rfl ?_
      refine vcalm_e (w0 rfl) rfl (eff_move rfl rfl) rfl ?_
      refine vcalm_e (w0 rfl) rfl (eff_indexAddr_lst rfl rfl rfl (len_map (fun _ => rfl)) (by first | omega | (simp only [List.length_map]; omega) | (simp only [List.length_map, List.length_drop]; omega)) (by first | omega | (simp only [List.length_map]; omega) | (simp only [List.length_map, List.length_drop]; omega))) rfl ?_
      refine vcalm_e (w0 rfl) rfl (eff_loadE rfl rfl (map_get (by first | assumption | omega | (simp only [List.length_drop]; omega))) (ld_agg (Nat.le_of_ble_eq_true rfl))) rfl ?_
      refine vcalm_n (w0 rfl) rfl (fun id => eff_buildSlice id (ps := [(0, .tmp 30)]) rfl rfl rfl rfl rfl rfl rfl rfl) rfl rfl (fun id2 => ?_)
      refine vcalm_append 1 [] (w0 rfl) rfl rfl rfl rfl (by simp) rfl ⟨rfl, _, _, List.mem_of_getElem? (i := 0) rfl, by simp, rfl⟩ (by first | omega | (simp; omega) | (simp [maxLen]; omega) | (simp; done) | (simp [maxLen]; done)) (by first | omega | (simp; omega) | (simp [maxLen]; omega) | (simp; done) | (simp [maxLen]; done)) rfl (fun _ => trivial) (fun id3 => ?_)
      refine vcalm_e (w0 rfl) rfl (eff_move rfl rfl) rfl ?_
      refine vcalm_e (w0 rfl) rfl (eff_to (y := .lst ((a.drop (x.2.2.1 + 1)).map Site.cells)) (eff_sliceFrom_lst rfl rfl rfl (len_map (fun _ => rfl)) (by first | omega | (simp only [List.length_map]; omega) | (simp only [List.length_map, List.length_drop]; omega)) (by first | omega | (simp only [List.length_map]; omega) | (simp only [List.length_map, List.length_drop]; omega))) (congrArg AV.lst (by rw [← List.map_drop, List.drop_drop]; rfl))) rfl ?_
      refine vcalm_e (w0 rfl) rfl (eff_assign rfl rfl) rfl ?_
      refine vcalm_e (w0 rfl) rfl (eff_assign rfl rfl) rfl ?_
      refine .done ?_
      refine awp_seq ?_
      refine awp_region ?_
      refine aops_e (w0 rfl) rfl (eff_move rfl rfl) ?_
      refine aops_e (w0 rfl) rfl (eff_icmp rfl rfl rfl rfl) ?_
      refine aops_nil ?_
      refine awp_cond rfl ?_ ?_
      · intro hc
        have h7 : cmpS (a.getD x.2.2.1 default) (b.getD x.2.2.2 default) ≥ 0 := by have h := of_decide_eq_true hc; rw [ea, eb] at h; exact h
        refine awp_region ?_
        refine aops_e (w0 rfl) rfl (eff_move rfl rfl) ?_
        refine aops_e (w0 rfl) rfl (eff_to (y := .lst ((b.drop (x.2.2.2 + 1)).map Site.cells)) (eff_sliceFrom_lst rfl rfl rfl (len_map (fun _ => rfl)) (by first | omega | (simp only [List.length_map]; omega) | (simp only [List.length_map, List.length_drop]; omega)) (by first | omega | (simp only [List.length_map]; omega) | (simp only [List.length_map, List.length_drop]; omega))) (congrArg AV.lst (by rw [← List.map_drop, List.drop_drop]; rfl))) ?_
        refine aops_e (w0 rfl) rfl (eff_assign rfl rfl) ?_
        refine aops_nil ?_
        refine ⟨(id3, x.2.1 ++ [a.getD x.2.2.1 default], x.2.2.1 + 1, x.2.2.2 + 1), (hJ.eq sLtT hi hj (cmpS_eq (by omega))), (by simp only; omega), ?_⟩
        exact weak_pick [1] ⟨(by show some (AV.own _ _ _ _) = some (AV.own _ _ _ _); simp), rfl, rfl, rfl, trivial⟩ (by show some [(_, AObj.rows _ _ _)] = some [(_, AObj.rows _ _ _)]; simp [List.getElem?_eq_getElem hi, List.getElem?_eq_getElem hj]; rfl) (by decide) rfl rfl
      · intro hc
        have h7 : ¬ cmpS (a.getD x.2.2.1 default) (b.getD x.2.2.2 default) ≥ 0 := by have h := of_decide_eq_false hc; rw [ea, eb] at h; exact h
        refine awp_skip ?_
        refine ⟨(id3, x.2.1 ++ [a.getD x.2.2.1 default], x.2.2.1 + 1, x.2.2.2), (hJ.lo sLtT hi hj (decide_eq_true (by omega))), (by simp only; omega), ?_⟩
        exact weak_pick [1] ⟨(by show some (AV.own _ _ _ _) = some (AV.own _ _ _ _); simp), rfl, rfl, rfl, trivial⟩ (by show some [(_, AObj.rows _ _ _)] = some [(_, AObj.rows _ _ _)]; simp [List.getElem?_eq_getElem hi, List.getElem?_eq_getElem hj]; rfl) (by decide) rfl rfl
    · intro hc
      have h4 : ¬ cmpS (a.getD x.2.2.1 default) (b.getD x.2.2.2 default) ≤ 0 := by have h := of_decide_eq_false hc; rw [ea, eb] at h; exact h
      have h4' := cmpS_pre.anti (a.getD x.2.2.1 default) (b.getD x.2.2.2 default)
      refine awp_region ?_
      refine aops_e (w0 rfl) rfl (eff_move rfl rfl) ?_
      refine aops_e (w0 rfl) rfl (eff_move rfl rfl) ?_
      refine aops_e (w0 rfl) rfl (eff_indexAddr_lst rfl rfl rfl (len_map (fun _ => rfl)) (by first | omega | (simp only [List.length_map]; omega) | (simp only [List.length_map, List.length_drop]; omega)) (by first | omega | (simp only [List.length_map]; omega) | (simp only [List.length_map, List.length_drop]; omega))) ?_
      refine aops_e (w0 rfl) rfl (eff_loadE rfl rfl (map_get (by first | assumption | omega | (simp only [List.length_drop]; omega))) (ld_agg (Nat.le_of_ble_eq_true rfl))) ?_
      refine aops_n (w0 rfl) rfl (fun id => eff_buildSlice id (ps := [(0, .tmp 38)]) rfl rfl rfl rfl rfl rfl rfl rfl) (fun id4 => ?_)
      refine aops_append 1 (w0 rfl) rfl rfl rfl rfl (by simp) rfl ⟨rfl, _, _, List.mem_of_getElem? (i := 0) rfl, by simp, rfl⟩ (by first | omega | (simp; omega) | (simp [maxLen]; omega) | (simp; done) | (simp [maxLen]; done)) (by first | omega | (simp; omega) | (simp [maxLen]; omega) | (simp; done) | (simp [maxLen]; done)) (fun id5 => ?_)
      refine aops_e (w0 rfl) rfl (eff_assign rfl rfl) ?_
      refine aops_nil ?_
      refine awp_seq ?_
      refine awp_region ?_
      refine aops_e (w0 rfl) rfl (eff_move rfl rfl) ?_
      refine aops_e (w0 rfl) rfl (eff_icmp rfl rfl rfl rfl) ?_
      refine aops_nil ?_
      refine awp_cond rfl ?_ ?_
      · intro hc
        have h7 : cmpS (a.getD x.2.2.1 default) (b.getD x.2.2.2 default) ≥ 0 := by have h := of_decide_eq_true hc; rw [ea, eb] at h; exact h
        refine awp_region ?_
        refine aops_e (w0 rfl) rfl (eff_move rfl rfl) ?_
        refine aops_e (w0 rfl) rfl (eff_to (y := .lst ((b.drop (x.2.2.2 + 1)).map Site.cells)) (eff_sliceFrom_lst rfl rfl rfl (len_map (fun _ => rfl)) (by first | omega | (simp only [List.length_map]; omega) | (simp only [List.length_map, List.length_drop]; omega)) (by first | omega | (simp only [List.length_map]; omega) | (simp only [List.length_map, List.length_drop]; omega))) (congrArg AV.lst (by rw [← List.map_drop, List.drop_drop]; rfl))) ?_
        refine aops_e (w0 rfl) rfl (eff_assign rfl rfl) ?_
        refine aops_nil ?_
        refine ⟨(id5, x.2.1 ++ [b.getD x.2.2.2 default], x.2.2.1, x.2.2.2 + 1), (hJ.hi sLtT hi hj (decide_eq_false (by omega)) (decide_eq_true (by omega))), (by simp only; omega), ?_⟩
        exact weak_pick [1] ⟨(by show some (AV.own _ _ _ _) = some (AV.own _ _ _ _); simp), rfl, rfl, rfl, trivial⟩ (by show some [(_, AObj.rows _ _ _)] = some [(_, AObj.rows _ _ _)]; simp [List.getElem?_eq_getElem hi, List.getElem?_eq_getElem hj]; rfl) (by decide) rfl rfl
      · intro hc
        exfalso
        have h := of_decide_eq_false hc
        rw [ea, eb] at h
        omega
  · intro hc
    have hno : ¬ (x.2.2.1 < a.length ∧ x.2.2.2 < b.length) := by rcases Bool.and_eq_false_iff.1 hc with h | h <;> simp at h <;> omega
    refine awp_exit ?_
    refine awp_seq ?_
    refine awp_region ?_
    refine aops_e (w0 rfl) rfl (eff_move rfl rfl) ?_
    refine aops_e (w0 rfl) rfl (eff_move rfl rfl) ?_
    refine aops_append 0 (w0 rfl) rfl rfl rfl rfl (by simp) rfl ⟨rfl, len_map (fun _ => rfl)⟩ (by first | omega | (simp; omega) | (simp only [maxLen, List.length_append, List.length_map, List.length_drop, List.length_cons, List.length_nil]; omega)) (by first | omega | (simp; omega) | (simp only [maxLen, List.length_append, List.length_map, List.length_drop, List.length_cons, List.length_nil]; omega)) (fun id6 => ?_)
    refine aops_e (w0 rfl) rfl (eff_move rfl rfl) ?_
    refine aops_append 0 (w0 rfl) rfl rfl rfl rfl (by simp) rfl ⟨rfl, len_map (fun _ => rfl)⟩ (by first | omega | (simp; omega) | (simp only [maxLen, List.length_append, List.length_map, List.length_drop, List.length_cons, List.length_nil]; omega)) (by first | omega | (simp; omega) | (simp only [maxLen, List.length_append, List.length_map, List.length_drop, List.length_cons, List.length_nil]; omega)) (fun id7 => ?_)
    refine aops_e (w0 rfl) rfl (eff_assign rfl rfl) ?_
    refine aops_nil ?_
    refine awp_ret ?_
    exact retq_frz 0 rfl rfl rfl rfl (by simp; omega) (congrArg AV.lst (by rw [← hJ.fin hno]; simp))

theorem c_union (a b : List Site) (hl : a.length ≤ 1000000) (hb : b.length ≤ 1000000) : ACalls Try.prog 17 [.lst (a.map Site.cells), .lst (b.map Site.cells)] [] (Gives (.lst ((risG sLt (a ++ b)).map Site.cells))) := by
  have ha2 := risG_len (lt := sLt) a
  have hb2 := risG_len (lt := sLt) b
  refine acalls_of (n := 10) Try.func17 rfl (by decide +kernel) rfl rfl ?_
  refine awp_seq ?_
  refine awp_region ?_
  refine aops_e (w0 rfl) rfl (eff_assign rfl rfl) ?_
  refine aops_nil ?_
  refine awp_seq ?_
  refine awp_region ?_
  refine aops_e (w0 rfl) rfl (eff_move rfl rfl) ?_
  refine aops_e (w0 rfl) rfl (eff_call [] rfl rfl rfl (c_ofL a hl) List.nodup_nil) ?_
  refine aops_e (w0 rfl) rfl (eff_move rfl rfl) ?_
  refine aops_e (w0 rfl) rfl (eff_call [] rfl rfl rfl (c_ofL b hb) List.nodup_nil) ?_
  refine aops_e (w0 rfl) rfl (eff_call [] rfl rfl rfl (c_both (risG sLt a) (risG sLt b) (by omega) (by omega)) List.nodup_nil) ?_
  refine aops_e (w0 rfl) rfl (eff_assign rfl rfl) ?_
  refine aops_nil ?_
  refine awp_ret ?_
  exact retq rfl (res_tmp rfl res_nil) (gvr (by rw [← mrgG_ris sLtT]; rfl))

theorem c_put (l : List Site) (hl : l.length ≤ 1000000) (s : Site) : ACalls Try.prog 15 [.lst (l.map Site.cells), s.av] [] (Gives (.lst ((risG sLt (l ++ [s])).map Site.cells))) := by
  refine acalls_of (n := 9) Try.func15 rfl (by decide +kernel) rfl rfl ?_
  refine awp_seq ?_
  refine awp_region ?_
  refine aops_n (w0 rfl) rfl (fun id => eff_box id rfl rfl rfl rfl rfl) (fun id1 => ?_)
  refine aops_e (w0 rfl) rfl (eff_assign rfl rfl) ?_
  refine aops_nil ?_
  refine awp_seq ?_
  refine awp_region ?_
  refine aops_e (w0 rfl) rfl (eff_move rfl rfl) ?_
  refine aops_load_ptr 0 (w0 rfl) rfl rfl rfl rfl rfl (ld_agg (Nat.le_of_ble_eq_true rfl)) ?_
  refine aops_e (w0 rfl) rfl (eff_frz (es := [s.cells]) (fun id => eff_buildSlice id (ps := [(0, .tmp 6)]) rfl rfl rfl rfl rfl rfl rfl rfl) rfl) ?_
  refine aops_e (w0 rfl) rfl (eff_call [] rfl rfl rfl (c_union l [s] hl (by simp)) List.nodup_nil) ?_
  refine aops_e (w0 rfl) rfl (eff_assign rfl rfl) ?_
  refine aops_nil ?_
  refine awp_ret ?_
  exact retq rfl (res_tmp rfl res_nil) (gvr rfl)

theorem c_refOf (l : List Site) (hl : l.length ≤ 1000000) : ACalls Try.prog 14 [.lst (l.map Site.cells)] [] (Gives (.lst ((risG sLt l).map Site.cells))) := by
  have hdl := ddG_len l
  refine acalls_of (n := 70) Try.func14 rfl (by decide +kernel) rfl rfl ?_
  refine awp_seq ?_
  refine awp_region ?_
  refine aops_e (w0 rfl) rfl (eff_assign rfl rfl) ?_
  refine aops_nil ?_
  refine awp_seq ?_
  refine awp_region ?_
  refine aops_n (w0 rfl) rfl (fun id => eff_nil id 26 5 (.inl rfl) rfl) (fun id1 => ?_)
  refine aops_nil ?_
  refine awp_seq ?_
  refine awp_seq ?_
  refine awp_region ?_
  refine aops_e (w0 rfl) rfl (eff_assign rfl rfl) ?_
  refine aops_nil ?_
  refine awp_block ?_
  refine awp_loopJ (α := Nat × Nat) (fun x => ⟨[(4, iA x.2), (3, .own x.1 5 0 (ddG (l.take x.2)).length), (0, .lst (l.map Site.cells))], [(x.1, .rows 26 5 ((ddG (l.take x.2)).map Site.cells))], [], 70⟩) (fun x => x.2 ≤ l.length) (fun x => l.length - x.2) (id1, 0) (Nat.zero_le _) ?_ ?_
  · exact weak_pick [0] ⟨rfl, rfl, rfl, trivial⟩ rfl (by decide) rfl rfl
  rintro x hJ
  have hdt := ddG_len (l.take x.2)
  rw [List.length_take] at hdt
  have hos : small (ddG (l.take x.2)).length := by unfold small; omega
  refine awp_seq ?_
  refine awp_seq ?_
  refine awp_region ?_
  refine aops_e (w0 rfl) rfl (eff_move rfl rfl) ?_
  refine aops_e (w0 rfl) rfl (eff_move rfl rfl) ?_
  refine aops_e (w0 rfl) rfl (eff_len rfl rfl rfl rfl) ?_
  refine aops_e (w0 rfl) rfl (eff_icmp rfl rfl rfl rfl) ?_
  refine aops_nil ?_
  refine awp_cond rfl ?_ ?_
  · intro hc
    have hx : x.2 < l.length := by simpa using hc
    refine awp_skip ?_
    refine awp_seq ?_
    refine awp_block ?_
    refine awp_seq ?_
    refine awp_region ?_
    refine aops_e (w0 rfl) rfl (eff_move rfl rfl) ?_
    refine aops_e (w0 rfl) rfl (eff_move rfl rfl) ?_
    refine aops_e (w0 rfl) rfl (eff_move rfl rfl) ?_
    refine aops_e (w0 rfl) rfl (eff_indexAddr_lst rfl rfl rfl (len_map (fun _ => rfl)) (by first | omega | (simp only [List.length_map]; omega) | (simp only [List.length_map, List.length_drop]; omega)) (by first | omega | (simp only [List.length_map]; omega) | (simp only [List.length_map, List.length_drop]; omega))) ?_
    refine aops_e (w0 rfl) rfl (eff_loadE rfl rfl (map_get (by first | assumption | omega | (simp only [List.length_drop]; omega))) (ld_agg (Nat.le_of_ble_eq_true rfl))) ?_
    refine aops_lend 0 (w0 rfl) rfl rfl rfl rfl rfl (.lend (by simp) (.keep .nil)) (c_refHas (ddG (l.take x.2)) hos _) rfl ?_
    refine aops_e (w0 rfl) rfl (eff_not rfl rfl) ?_
    refine aops_nil ?_
    refine awp_cond rfl ?_ ?_
    · intro hc
      have hin : hasG (ddG (l.take x.2)) l[x.2] = false := notT hc
      have e : ddG (l.take (x.2 + 1)) = (ddG (l.take x.2)) ++ [l[x.2]] := by rw [ddG_take hx, ddO, hin]; rfl
      refine awp_region ?_
      refine aops_e (w0 rfl) rfl (eff_move rfl rfl) ?_
      refine aops_e (w0 rfl) rfl (eff_move rfl rfl) ?_
      refine aops_e (w0 rfl) rfl (eff_move rfl rfl) ?_
      refine aops_e (w0 rfl) rfl (eff_indexAddr_lst rfl rfl rfl (len_map (fun _ => rfl)) (by first | omega | (simp only [List.length_map]; omega) | (simp only [List.length_map, List.length_drop]; omega)) (by first | omega | (simp only [List.length_map]; omega) | (simp only [List.length_map, List.length_drop]; omega))) ?_
      refine aops_e (w0 rfl) rfl (eff_loadE rfl rfl (map_get (by first | assumption | omega | (simp only [List.length_drop]; omega))) (ld_agg (Nat.le_of_ble_eq_true rfl))) ?_
      refine aops_n (w0 rfl) rfl (fun id => eff_buildSlice id (ps := [(0, .tmp 25)]) rfl rfl rfl rfl rfl rfl rfl rfl) (fun id2 => ?_)
      refine aops_append 1 (w0 rfl) rfl rfl rfl rfl (by simp) rfl ⟨rfl, _, _, List.mem_of_getElem? (i := 0) rfl, by simp, rfl⟩ (by first | omega | (simp; omega) | (simp [maxLen]; omega) | (simp; done) | (simp [maxLen]; done)) (by first | omega | (simp; omega) | (simp [maxLen]; omega) | (simp; done) | (simp [maxLen]; done)) (fun id3 => ?_)
      refine aops_e (w0 rfl) rfl (eff_assign rfl rfl) ?_
      refine aops_nil ?_
      refine awp_region ?_
      refine aops_e (w0 rfl) rfl (eff_move rfl rfl) ?_
      refine aops_e (w0 rfl) rfl (eff_arith rfl rfl rfl (arith_add (by first | omega | (simp only [List.length_map]; omega)))) ?_
      refine aops_e (w0 rfl) rfl (eff_assign rfl rfl) ?_
      refine aops_nil ?_
      refine ⟨(id3, x.2 + 1), (by show x.2 + 1 ≤ l.length; omega), (by show l.length - (x.2 + 1) < l.length - x.2; omega), ?_⟩
      exact weak_pick [1] ⟨rfl, (by show some (AV.own _ _ _ _) = some (AV.own _ _ _ _); first | (rw [e]; done) | (rw [e]; simp; done) | (rw [e]; simp; rfl)), rfl, trivial⟩ (by show some [(_, AObj.rows _ _ _)] = some [(_, AObj.rows _ _ _)]; first | (rw [e]; done) | (rw [e]; simp; done) | (rw [e]; simp; rfl)) (by decide) rfl rfl
    · intro hc
      have hin : hasG (ddG (l.take x.2)) l[x.2] = true := notF hc
      have e : ddG (l.take (x.2 + 1)) = (ddG (l.take x.2)) := by rw [ddG_take hx, ddO, hin]; rfl
      refine awp_skip ?_
      refine awp_region ?_
      refine aops_e (w0 rfl) rfl (eff_move rfl rfl) ?_
      refine aops_e (w0 rfl) rfl (eff_arith rfl rfl rfl (arith_add (by first | omega | (simp only [List.length_map]; omega)))) ?_
      refine aops_e (w0 rfl) rfl (eff_assign rfl rfl) ?_
      refine aops_nil ?_
      refine ⟨(x.1, x.2 + 1), (by show x.2 + 1 ≤ l.length; omega), (by show l.length - (x.2 + 1) < l.length - x.2; omega), ?_⟩
      exact weak_pick [0] ⟨rfl, (by show some (AV.own _ _ _ _) = some (AV.own _ _ _ _); first | (rw [e]; done) | (rw [e]; simp; done) | (rw [e]; simp; rfl)), rfl, trivial⟩ (by show some [(_, AObj.rows _ _ _)] = some [(_, AObj.rows _ _ _)]; first | (rw [e]; done) | (rw [e]; simp; done) | (rw [e]; simp; rfl)) (by decide) rfl rfl
  · intro hc
    have hx : ¬ x.2 < l.length := by simpa using hc
    have e0 : (ddG (l.take x.2)) = ddG l := by rw [List.take_of_length_le (by omega)]
    refine awp_exit ?_
    refine awp_seq ?_
    refine awp_seq ?_
    refine awp_region ?_
    refine aops_e (w0 rfl) rfl (eff_assign rfl rfl) ?_
    refine aops_nil ?_
    refine awp_block ?_
    refine awp_loopJ (α := List Site × Nat) (fun y => ⟨[(5, iA y.2), (3, .own x.1 5 0 y.1.length)], [(x.1, .rows 26 5 (y.1.map Site.cells))], [], 70⟩) (fun y => 1 ≤ y.2 ∧ y.1.length = (ddG l).length ∧ outG sLt ((ddG l).length - y.2) y.2 y.1 = risG sLt l) (fun y => (ddG l).length - y.2) (ddG l, 1) ⟨Nat.le_refl _, rfl, rfl⟩ ?_ ?_
    · exact weak_pick [0] ⟨rfl, (by show some (AV.own _ _ _ _) = some (AV.own _ _ _ _); rw [e0]), trivial⟩ (by show some [(_, AObj.rows _ _ _)] = some [(_, AObj.rows _ _ _)]; rw [e0]) (by decide) rfl rfl
    rintro y hJ1
    refine awp_seq ?_
    refine awp_seq ?_
    refine awp_region ?_
    refine aops_e (w0 rfl) rfl (eff_move rfl rfl) ?_
    refine aops_e (w0 rfl) rfl (eff_move rfl rfl) ?_
    refine aops_e (w0 rfl) rfl (eff_len rfl rfl rfl rfl) ?_
    refine aops_e (w0 rfl) rfl (eff_icmp rfl rfl rfl rfl) ?_
    refine aops_nil ?_
    refine awp_cond rfl ?_ ?_
    · intro hc
      have hy : y.2 < y.1.length := by simpa using hc
      refine awp_skip ?_
      refine awp_seq ?_
      refine awp_block ?_
      refine awp_seq ?_
      refine awp_region ?_
      refine aops_e (w0 rfl) rfl (eff_move rfl rfl) ?_
      refine aops_e (w0 rfl) rfl (eff_assign rfl rfl) ?_
      refine aops_nil ?_
      refine awp_block ?_
      refine awp_loopJ (α := List Site × Nat) (fun z => ⟨[(6, iA z.2), (3, .own x.1 5 0 z.1.length), (5, iA y.2)], [(x.1, .rows 26 5 (z.1.map Site.cells))], [], 70⟩) (fun z => z.2 ≤ y.2 ∧ z.1.length = y.1.length ∧ insG sLt z.2 z.1 = insG sLt y.2 y.1) (fun z => z.2) (y.1, y.2) ⟨Nat.le_refl _, rfl, rfl⟩ ?_ ?_
      · exact weak_pick [0] ⟨rfl, rfl, rfl, trivial⟩ rfl (by decide) rfl rfl
      rintro z hJ2
      refine awp_seq ?_
      refine awp_seq ?_
      refine awp_drawM [0, 1, 3, 7, 7, 31, 63, 7, 7, 263, 903, 1927, 4095, 8191, 16383] 15 rfl (by kernel_rfl) ?_
      refine calm_e (w0 rfl) rfl (eff_move rfl rfl) ?_
      refine calm_e (w0 rfl) rfl (eff_icmp rfl rfl rfl rfl) ?_
      refine calm_e (w0 rfl) rfl (eff_move rfl rfl) ?_
      refine calm_g (wT rfl rfl rfl rfl) rfl (fun hg => (eff_move rfl rfl)) ?_
      refine calm_g (wT rfl rfl rfl rfl) rfl (fun hg => (eff_move rfl rfl)) ?_
      refine calm_g (wT rfl rfl rfl rfl) rfl (fun hg => (eff_indexAddr_ownN z.2 rfl (ev_g hg rfl) (ev_g hg rfl) (by (try simp at hg) <;> first | omega | (simp only [List.length_map]; omega) | (simp only [List.length_map, List.length_drop]; omega)) (by (try simp at hg) <;> first | omega | (simp only [List.length_map]; omega) | (simp only [List.length_map, List.length_drop]; omega)) (by omega))) ?_
      refine calm_gloadC (f := Site.cells) 0 (wT rfl rfl rfl rfl) rfl rfl (fun hg => (ev_g hg rfl)) rfl (fun hg => by (try simp at hg) <;> (first | assumption | omega | (simp only [List.length_drop]; omega))) (fun _ => ld_aggC rfl) ?_
      refine calm_g (wT rfl rfl rfl rfl) rfl (fun hg => (eff_move rfl rfl)) ?_
      refine calm_g (wT rfl rfl rfl rfl) rfl (fun hg => (eff_move rfl rfl)) ?_
      refine calm_g (wT rfl rfl rfl rfl) rfl (fun hg => (eff_arith rfl (ev_g hg rfl) rfl (arith_sub (by first | omega | (simp only [List.length_map]; omega))))) ?_
      refine calm_g (wT rfl rfl rfl rfl) rfl (fun hg => (eff_indexAddr_ownN (z.2 - 1) rfl (ev_g hg rfl) (ev_g hg rfl) (by (try simp at hg) <;> first | omega | (simp only [List.length_map]; omega) | (simp only [List.length_map, List.length_drop]; omega)) (by (try simp at hg) <;> first | omega | (simp only [List.length_map]; omega) | (simp only [List.length_map, List.length_drop]; omega)) (by omega))) ?_
      refine calm_gloadC (f := Site.cells) 0 (wT rfl rfl rfl rfl) rfl rfl (fun hg => (ev_g hg rfl)) rfl (fun hg => by (try simp at hg) <;> (first | assumption | omega | (simp only [List.length_drop]; omega))) (fun _ => ld_aggC rfl) ?_
      refine calm_g (wT rfl rfl rfl rfl) rfl (fun hg => (eff_call [] rfl rfl (evs_cons (ev_g hg rfl) (evs_cons (ev_g hg rfl) evs_nil)) (c_refCmp _ _) List.nodup_nil)) ?_
      refine calm_g (wT rfl rfl rfl rfl) rfl (fun hg => (eff_icmp rfl (ev_g hg rfl) rfl rfl)) ?_
      refine calm_e (w0 rfl) rfl (eff_and rfl rfl rfl (fun h => h)) ?_
      refine .done ?_
      refine aops_nil ?_
      refine awp_cond rfl ?_ ?_
      · intro hc
        have hk : 0 < z.2 := by simp at hc; omega
        have hsw := insG_swap (lt := sLt) hk (by have := andR hc; exact this)
        refine awp_skip ?_
        refine awp_seq ?_
        refine awp_block ?_
        refine awp_seq ?_
        refine awp_region ?_
        refine aops_e (w0 rfl) rfl (eff_move rfl rfl) ?_
        refine aops_e (w0 rfl) rfl (eff_move rfl rfl) ?_
        refine aops_e (w0 rfl) rfl (eff_indexAddr_ownN z.2 rfl rfl rfl (by first | omega | (simp only [List.length_map]; omega) | (simp only [List.length_map, List.length_drop]; omega)) (by first | omega | (simp only [List.length_map]; omega) | (simp only [List.length_map, List.length_drop]; omega)) (by omega)) ?_
        refine aops_load_ptr 0 (w0 rfl) rfl rfl rfl rfl (own_getC (by first | assumption | omega | (simp only [List.length_drop]; omega))) (ld_aggC rfl) ?_
        refine aops_n (w0 rfl) rfl (fun id => eff_alloc id rfl rfl rfl) (fun id4 => ?_)
        refine aops_store 0 (w0 rfl) rfl rfl rfl rfl rfl rfl rfl rfl rfl ?_
        refine aops_nil ?_
        refine awp_seq ?_
        refine awp_region ?_
        refine aops_e (w0 rfl) rfl (eff_move rfl rfl) ?_
        refine aops_e (w0 rfl) rfl (eff_move rfl rfl) ?_
        refine aops_e (w0 rfl) rfl (eff_move rfl rfl) ?_
        refine aops_e (w0 rfl) rfl (eff_move rfl rfl) ?_
        refine aops_e (w0 rfl) rfl (eff_arith rfl rfl rfl (arith_sub (by first | omega | (simp only [List.length_map]; omega)))) ?_
        refine aops_e (w0 rfl) rfl (eff_indexAddr_ownN (z.2 - 1) rfl rfl rfl (by first | omega | (simp only [List.length_map]; omega) | (simp only [List.length_map, List.length_drop]; omega)) (by first | omega | (simp only [List.length_map]; omega) | (simp only [List.length_map, List.length_drop]; omega)) (by omega)) ?_
        refine aops_load_ptr 1 (w0 rfl) rfl rfl rfl rfl (own_getC (by first | assumption | omega | (simp only [List.length_drop]; omega))) (ld_aggC rfl) ?_
        refine aops_e (w0 rfl) rfl (eff_indexAddr_ownN z.2 rfl rfl rfl (by first | omega | (simp only [List.length_map]; omega) | (simp only [List.length_map, List.length_drop]; omega)) (by first | omega | (simp only [List.length_map]; omega) | (simp only [List.length_map, List.length_drop]; omega)) (by omega)) ?_
        refine aops_storeC (f := Site.cells) 1 (fun _ => rfl) (fun _ => rfl) (w0 rfl) rfl rfl rfl rfl (by first | omega | (simp; omega)) rfl ?_
        refine aops_nil ?_
        refine awp_region ?_
        refine aops_e (w0 rfl) rfl (eff_move rfl rfl) ?_
        refine aops_e (w0 rfl) rfl (eff_move rfl rfl) ?_
        refine aops_e (w0 rfl) rfl (eff_arith rfl rfl rfl (arith_sub (by first | omega | (simp only [List.length_map]; omega)))) ?_
        refine aops_load_ptr 0 (w0 rfl) rfl rfl rfl rfl rfl (ld_to (y := Site.av (z.1.getD z.2 default)) (ld_agg (Nat.le_of_ble_eq_true rfl)) (rfl)) ?_
        refine aops_e (w0 rfl) rfl (eff_indexAddr_ownN (z.2 - 1) rfl rfl rfl (by first | omega | (simp only [List.length_map]; omega) | (simp only [List.length_map, List.length_drop]; omega)) (by first | omega | (simp only [List.length_map]; omega) | (simp only [List.length_map, List.length_drop]; omega)) (by omega)) ?_
        refine aops_storeC (f := Site.cells) 1 (fun _ => rfl) (fun _ => rfl) (w0 rfl) rfl rfl rfl rfl (by first | omega | (simp; omega)) rfl ?_
        refine aops_nil ?_
        refine awp_region ?_
        refine aops_e (w0 rfl) rfl (eff_move rfl rfl) ?_
        refine aops_e (w0 rfl) rfl (eff_arith rfl rfl rfl (arith_sub (by first | omega | (simp only [List.length_map]; omega)))) ?_
        refine aops_e (w0 rfl) rfl (eff_assign rfl rfl) ?_
        refine aops_nil ?_
        refine ⟨((z.1.set z.2 (z.1.getD (z.2 - 1) default)).set (z.2 - 1) (z.1.getD z.2 default), z.2 - 1), ⟨by show z.2 - 1 ≤ y.2; omega, by simp; omega, hsw.symm.trans hJ2.2.2⟩, (by show z.2 - 1 < z.2; omega), ?_⟩
        exact weak_pick [1] ⟨(congrArg (fun n => some (iA n)) (by omega)), (by show some (AV.own _ _ _ _) = some (AV.own _ _ _ _); simp), rfl, trivial⟩ rfl (by decide) rfl rfl
      · intro hc
        have hst : z.1 = insG sLt y.2 y.1 := by rw [← hJ2.2.2]; refine (insG_stop ?_).symm; rcases Bool.and_eq_false_iff.1 hc with h | h; exact .inl (by simp at h; omega); exact .inr h
        refine awp_exit ?_
        refine awp_region ?_
        refine aops_e (w0 rfl) rfl (eff_move rfl rfl) ?_
        refine aops_e (w0 rfl) rfl (eff_arith rfl rfl rfl (arith_add (by first | omega | (simp only [List.length_map]; omega)))) ?_
        refine aops_e (w0 rfl) rfl (eff_assign rfl rfl) ?_
        refine aops_nil ?_
        refine ⟨(z.1, y.2 + 1), ⟨by show 1 ≤ y.2 + 1; omega, by show z.1.length = _; omega, by show outG sLt ((ddG l).length - (y.2 + 1)) (y.2 + 1) z.1 = _; rw [hst, ← outG_step (by omega)]; exact hJ1.2.2⟩, (by show (ddG l).length - (y.2 + 1) < (ddG l).length - y.2; omega), ?_⟩
        exact weak_pick [0] ⟨rfl, rfl, trivial⟩ rfl (by decide) rfl rfl
    · intro hc
      have hy : ¬ y.2 < y.1.length := by simpa using hc
      have hfin : y.1 = risG sLt l := by have := hJ1.2.2; rwa [show (ddG l).length - y.2 = 0 from by omega] at this
      refine awp_exit ?_
      refine awp_seq ?_
      refine awp_region ?_
      refine aops_e (w0 rfl) rfl (eff_move rfl rfl) ?_
      refine aops_e (w0 rfl) rfl (eff_assign rfl rfl) ?_
      refine aops_nil ?_
      refine awp_ret ?_
      exact retq_frz 0 rfl rfl rfl rfl (by simp) (by rw [← hfin])

theorem c_refUnion (a b : List Site) (hl : a.length ≤ 500000) (hb : b.length ≤ 500000) : ACalls Try.prog 18 [.lst (a.map Site.cells), .lst (b.map Site.cells)] [] (Gives (.lst ((risG sLt (a ++ b)).map Site.cells))) := by
  refine acalls_of (n := 14) Try.func18 rfl (by decide +kernel) rfl rfl ?_
  refine awp_seq ?_
  refine awp_region ?_
  refine aops_e (w0 rfl) rfl (eff_assign rfl rfl) ?_
  refine aops_nil ?_
  refine awp_seq ?_
  refine awp_region ?_
  refine aops_n (w0 rfl) rfl (fun id => eff_nil id 26 5 (.inl rfl) rfl) (fun id1 => ?_)
  refine aops_nil ?_
  refine awp_seq ?_
  refine awp_region ?_
  refine aops_e (w0 rfl) rfl (eff_move rfl rfl) ?_
  refine aops_e (w0 rfl) rfl (eff_move rfl rfl) ?_
  refine aops_append 0 (w0 rfl) rfl rfl rfl rfl (by simp) rfl ⟨rfl, len_map (fun _ => rfl)⟩ (by first | omega | (simp; omega) | (simp only [maxLen, List.length_append, List.length_map, List.length_drop, List.length_cons, List.length_nil]; omega)) (by first | omega | (simp; omega) | (simp only [maxLen, List.length_append, List.length_map, List.length_drop, List.length_cons, List.length_nil]; omega)) (fun id2 => ?_)
  refine aops_e (w0 rfl) rfl (eff_assign rfl rfl) ?_
  refine aops_nil ?_
  refine awp_seq ?_
  refine awp_region ?_
  refine aops_e (w0 rfl) rfl (eff_move rfl rfl) ?_
  refine aops_e (w0 rfl) rfl (eff_move rfl rfl) ?_
  refine aops_append 0 (w0 rfl) rfl rfl rfl rfl (by simp) rfl ⟨rfl, len_map (fun _ => rfl)⟩ (by first | omega | (simp; omega) | (simp only [maxLen, List.length_append, List.length_map, List.length_drop, List.length_cons, List.length_nil]; omega)) (by first | omega | (simp; omega) | (simp only [maxLen, List.length_append, List.length_map, List.length_drop, List.length_cons, List.length_nil]; omega)) (fun id3 => ?_)
  refine aops_e (w0 rfl) rfl (eff_assign rfl rfl) ?_
  refine aops_nil ?_
  refine awp_seq ?_
  refine awp_weak (weak_frz 0 5 (T' := []) rfl rfl (by simp) trivial) ?_
  refine awp_region ?_
  refine aops_e (w0 rfl) rfl (eff_to (y := .lst ((a ++ b).map Site.cells)) (eff_move rfl rfl) (congrArg AV.lst (by simp))) ?_
  refine aops_e (w0 rfl) rfl (eff_call [] rfl rfl rfl (c_refOf (a ++ b) (by simp; omega)) List.nodup_nil) ?_
  refine aops_e (w0 rfl) rfl (eff_assign rfl rfl) ?_
  refine aops_nil ?_
  refine awp_ret ?_
  exact retq rfl (res_tmp rfl res_nil) (gvr rfl)

theorem c_refPut (l : List Site) (hl : l.length ≤ 500000) (s : Site) : ACalls Try.prog 16 [.lst (l.map Site.cells), s.av] [] (Gives (.lst ((risG sLt (l ++ [s])).map Site.cells))) := by
  refine acalls_of (n := 9) Try.func16 rfl (by decide +kernel) rfl rfl ?_
  refine awp_seq ?_
  refine awp_region ?_
  refine aops_n (w0 rfl) rfl (fun id => eff_box id rfl rfl rfl rfl rfl) (fun id1 => ?_)
  refine aops_e (w0 rfl) rfl (eff_assign rfl rfl) ?_
  refine aops_nil ?_
  refine awp_seq ?_
  refine awp_region ?_
  refine aops_e (w0 rfl) rfl (eff_move rfl rfl) ?_
  refine aops_load_ptr 0 (w0 rfl) rfl rfl rfl rfl rfl (ld_agg (Nat.le_of_ble_eq_true rfl)) ?_
  refine aops_e (w0 rfl) rfl (eff_frz (es := [s.cells]) (fun id => eff_buildSlice id (ps := [(0, .tmp 6)]) rfl rfl rfl rfl rfl rfl rfl rfl) rfl) ?_
  refine aops_e (w0 rfl) rfl (eff_call [] rfl rfl rfl (c_refUnion l [s] hl (by simp)) List.nodup_nil) ?_
  refine aops_e (w0 rfl) rfl (eff_assign rfl rfl) ?_
  refine aops_nil ?_
  refine awp_ret ?_
  exact retq rfl (res_tmp rfl res_nil) (gvr rfl)

theorem c_binF (l : List Site) (hl : small l.length) (s : Site) (hr : riseG sLt l = true) : ACalls Try.prog 35 [.lst (l.map Site.cells), s.av, .fn (.func 26) []] [] (GSome (fun i : Nat => .tup [iA i, bA (hasG l s)]) (fun _ => True)) := by
  simp only [small] at hl
  refine acalls_of (n := 49) Try.func35 rfl (by decide +kernel) rfl rfl ?_
  refine awp_seq ?_
  refine awp_region ?_
  refine aops_n (w0 rfl) rfl (fun id => eff_box id rfl rfl rfl rfl rfl) (fun id1 => ?_)
  refine aops_e (w0 rfl) rfl (eff_assign rfl rfl) ?_
  refine aops_e (w0 rfl) rfl (eff_assign rfl rfl) ?_
  refine aops_nil ?_
  refine awp_seq ?_
  refine awp_region ?_
  refine aops_e (w0 rfl) rfl (eff_move rfl rfl) ?_
  refine aops_e (w0 rfl) rfl (eff_len rfl rfl rfl rfl) ?_
  refine aops_e (w0 rfl) rfl (eff_assign rfl rfl) ?_
  refine aops_nil ?_
  refine awp_seq ?_
  refine awp_region ?_
  refine aops_e (w0 rfl) rfl (eff_move rfl rfl) ?_
  refine aops_e (w0 rfl) rfl (eff_assign rfl rfl) ?_
  refine aops_e (w0 rfl) rfl (eff_assign rfl rfl) ?_
  refine aops_nil ?_
  refine awp_seq ?_
  refine awp_block ?_
  refine awp_loopJ (α := Nat × Nat) (fun x => ⟨[(9, iA x.1), (10, iA x.2), (8, iA l.length), (0, .lst (l.map Site.cells)), (2, .fn (.func 26) []), (4, .ptr id1 5 0 0)], [(id1, .rows 26 5 [s.cells])], [], 49⟩) (fun x => x.1 ≤ x.2 ∧ x.2 ≤ l.length ∧ (∀ k, k < x.1 → sLt (l.getD k default) s = true) ∧ (∀ k, x.2 ≤ k → k < l.length → sLt (l.getD k default) s = false)) (fun x => x.2 - x.1) (0, l.length) ⟨Nat.zero_le _, Nat.le_refl _, fun k h => by omega, fun k h1 h2 => by omega⟩ ?_ ?_
  · exact weak_pick [0] ⟨rfl, (by show some (iA _) = some (iA _); simp), (by show some (iA _) = some (iA _); simp), rfl, rfl, rfl, trivial⟩ rfl (by decide) rfl rfl
  rintro x hJ
  refine awp_seq ?_
  refine awp_seq ?_
  refine awp_region ?_
  refine aops_e (w0 rfl) rfl (eff_move rfl rfl) ?_
  refine aops_e (w0 rfl) rfl (eff_move rfl rfl) ?_
  refine aops_e (w0 rfl) rfl (eff_icmp rfl rfl rfl rfl) ?_
  refine aops_nil ?_
  refine awp_cond rfl ?_ ?_
  · intro hc
    have hx : x.1 < x.2 := by simpa using hc
    have h1 := hJ.2.1
    have hmid : (x.1 + x.2) / 2 < l.length := by omega
    refine awp_skip ?_
    refine awp_block ?_
    refine awp_seq ?_
    refine awp_region ?_
    refine aops_e (w0 rfl) rfl (eff_move rfl rfl) ?_
    refine aops_e (w0 rfl) rfl (eff_move rfl rfl) ?_
    refine aops_e (w0 rfl) rfl (eff_arith rfl rfl rfl (arith_add (by first | omega | (simp only [List.length_map]; omega)))) ?_
    refine aops_e (w0 rfl) rfl (eff_to (y := xA (x.1 + x.2 : Nat)) (eff_convInt rfl rfl) (congrArg xA (by rw [u64_wrap (by omega)]; omega))) ?_
    refine aops_e (w0 rfl) rfl (eff_to (y := xA ((x.1 + x.2) / 2 : Nat)) (eff_shr rfl rfl rfl (by decide)) (congrArg xA (shrN (x.1 + x.2) 1 (by decide)))) ?_
    refine aops_e (w0 rfl) rfl (eff_to (y := iA ((x.1 + x.2) / 2 : Nat)) (eff_convInt rfl rfl) (congrArg iA (i64_wrap (by omega)))) ?_
    refine aops_e (w0 rfl) rfl (eff_assign rfl rfl) ?_
    refine aops_nil ?_
    refine awp_seq ?_
    refine awp_drawN 8 rfl (by kernel_rfl) ?_
    refine calm_e (w0 rfl) rfl (eff_move rfl rfl) ?_
    refine calm_e (w0 rfl) rfl (eff_move rfl rfl) ?_
    refine calm_e (w0 rfl) rfl (eff_move rfl rfl) ?_
    refine calm_e (w0 rfl) rfl (eff_indexAddr_lst rfl rfl rfl (len_map (fun _ => rfl)) (by first | omega | (simp only [List.length_map]; omega) | (simp only [List.length_map, List.length_drop]; omega)) (by first | omega | (simp only [List.length_map]; omega) | (simp only [List.length_map, List.length_drop]; omega))) ?_
    refine calm_e (w0 rfl) rfl (eff_loadE rfl rfl (map_get (by first | assumption | omega | (simp only [List.length_drop]; omega))) (ld_agg (Nat.le_of_ble_eq_true rfl))) ?_
    refine calm_load_ptr 0 (w0 rfl) rfl rfl rfl rfl rfl (ld_agg (Nat.le_of_ble_eq_true rfl)) ?_
    refine calm_e (w0 rfl) rfl (eff_call [] rfl rfl rfl (c_cmpSite _ _) List.nodup_nil) ?_
    refine calm_e (w0 rfl) rfl (eff_icmp rfl rfl rfl rfl) ?_
    refine .done ?_
    refine aops_nil ?_
    refine awp_cond rfl ?_ ?_
    · intro hc
      have hm : sLt (l.getD ((x.1 + x.2) / 2) default) s = true := by rw [siteD hmid]; exact hc
      have hlo : ∀ k, k ≤ (x.1 + x.2) / 2 → sLt (l.getD k default) s = true := fun k h => by rcases Nat.lt_or_eq_of_le h with h | h; exact ltT_trans sLtT (riseG_lt sLtT hr _ _ h hmid) hm; rw [h]; exact hm
      refine awp_region ?_
      refine aops_e (w0 rfl) rfl (eff_move rfl rfl) ?_
      refine aops_e (w0 rfl) rfl (eff_arith rfl rfl rfl (arith_add (by first | omega | (simp only [List.length_map]; omega)))) ?_
      refine aops_e (w0 rfl) rfl (eff_assign rfl rfl) ?_
      refine aops_nil ?_
      refine ⟨((x.1 + x.2) / 2 + 1, x.2), ⟨by simp only; omega, hJ.2.1, fun k h => hlo k (by simp only at h; omega), hJ.2.2.2⟩, (by (try simp only) <;> omega), ?_⟩
      exact weak_pick [0] ⟨rfl, rfl, rfl, rfl, rfl, rfl, trivial⟩ rfl (by decide) rfl rfl
    · intro hc
      have hm : sLt (l.getD ((x.1 + x.2) / 2) default) s = false := by rw [siteD hmid]; exact hc
      have hhi : ∀ k, (x.1 + x.2) / 2 ≤ k → k < l.length → sLt (l.getD k default) s = false := fun k h h2 => by rcases Nat.lt_or_eq_of_le h with h | h; exact sLtT.ok.tr _ _ _ hm (sLtT.ok.asy _ _ (riseG_lt sLtT hr _ _ h h2)); rw [← h]; exact hm
      refine awp_region ?_
      refine aops_e (w0 rfl) rfl (eff_move rfl rfl) ?_
      refine aops_e (w0 rfl) rfl (eff_assign rfl rfl) ?_
      refine aops_nil ?_
      refine ⟨(x.1, (x.1 + x.2) / 2), ⟨by simp only; omega, by simp only; omega, hJ.2.2.1, fun k h1 h2 => hhi k h1 h2⟩, (by (try simp only) <;> omega), ?_⟩
      exact weak_pick [0] ⟨rfl, rfl, rfl, rfl, rfl, rfl, trivial⟩ rfl (by decide) rfl rfl
  · intro hc
    have hx : ¬ x.1 < x.2 := by simpa using hc
    have h0 := hJ.1
    refine awp_exit ?_
    refine awp_seq ?_
    refine awp_drawM [0, 0, 0, 6, 14, 30, 30, 30, 222, 478, 30, 2046, 4094, 8190, 4095, 32767] 16 rfl (by kernel_rfl) ?_
    refine calm_e (w0 rfl) rfl (eff_move rfl rfl) ?_
    refine calm_e (w0 rfl) rfl (eff_move rfl rfl) ?_
    refine calm_e (w0 rfl) rfl (eff_move rfl rfl) ?_
    refine calm_e (w0 rfl) rfl (eff_icmp rfl rfl rfl rfl) ?_
    refine calm_e (w0 rfl) rfl (eff_move rfl rfl) ?_
    refine calm_g (wT rfl rfl rfl rfl) rfl (fun hg => (eff_move rfl rfl)) ?_
    refine calm_g (wT rfl rfl rfl rfl) rfl (fun hg => (eff_move rfl rfl)) ?_
    refine calm_g (wT rfl rfl rfl rfl) rfl (fun hg => (eff_move rfl rfl)) ?_
    refine calm_g (wT rfl rfl rfl rfl) rfl (fun hg => (eff_indexAddr_lst rfl (ev_g hg rfl) (ev_g hg rfl) (len_map (fun _ => rfl)) (by (try simp at hg) <;> first | omega | (simp only [List.length_map]; omega) | (simp only [List.length_map, List.length_drop]; omega)) (by (try simp at hg) <;> first | omega | (simp only [List.length_map]; omega) | (simp only [List.length_map, List.length_drop]; omega)))) ?_
    refine calm_g (wT rfl rfl rfl rfl) rfl (fun hg => (eff_loadE rfl (ev_g hg rfl) (map_getD (by (try simp at hg) <;> first | assumption | omega | (simp only [List.length_drop]; omega))) (ld_agg (Nat.le_of_ble_eq_true rfl)))) ?_
    refine calm_gload 0 (wT rfl rfl rfl rfl) rfl rfl (fun hg => rfl) rfl rfl (ld_agg (Nat.le_of_ble_eq_true rfl)) ?_
    refine calm_g (wT rfl rfl rfl rfl) rfl (fun hg => (eff_call [] rfl (ev_g hg rfl) (evs_cons (ev_g hg rfl) (evs_cons (ev_g hg rfl) evs_nil)) (c_cmpSite _ _) List.nodup_nil)) ?_
    refine calm_g (wT rfl rfl rfl rfl) rfl (fun hg => (eff_icmp rfl (ev_g hg rfl) rfl rfl)) ?_
    refine calm_e (w0 rfl) rfl (eff_and rfl rfl rfl (fun h => h)) ?_
    refine calm_e (w0 rfl) rfl (eff_assign rfl rfl) ?_
    refine calm_e (w0 rfl) rfl (eff_assign rfl rfl) ?_
    refine .done ?_
    refine aops_nil ?_
    refine awp_ret ?_
    exact retq rfl (res_tmp rfl (res_tmp rfl res_nil)) (gsome x.1 trivial (by rw [← bin_has sLtT hr hJ.2.2.1 (fun k h1 h2 => hJ.2.2.2 k (by omega) h2)]; show AV.tup [iA x.1, bA _] = AV.tup [iA x.1, bA _]; rw [Int.toNat_natCast, cmpS_dec, show decide ((x.1 : Int) < (l.length : Int)) = decide (x.1 < l.length) by simp]))

theorem c_has (l : List Site) (hl : small l.length) (s : Site) : ACalls Try.prog 19 [.lst (l.map Site.cells), s.av] [] (Gives (bA (hasG l s))) := by
  refine acalls_of (n := 20) Try.func19 rfl (by decide +kernel) rfl rfl ?_
  refine awp_seq ?_
  refine awp_region ?_
  refine aops_n (w0 rfl) rfl (fun id => eff_box id rfl rfl rfl rfl rfl) (fun id1 => ?_)
  refine aops_e (w0 rfl) rfl (eff_assign rfl rfl) ?_
  refine aops_nil ?_
  refine awp_seq ?_
  refine awp_seq ?_
  refine awp_region ?_
  refine aops_e (w0 rfl) rfl (eff_move rfl rfl) ?_
  refine aops_e (w0 rfl) rfl (eff_call [] rfl rfl rfl (c_right l hl) List.nodup_nil) ?_
  refine aops_e (w0 rfl) rfl (eff_not rfl rfl) ?_
  refine aops_nil ?_
  refine awp_cond rfl ?_ ?_
  · intro hc
    refine awp_seq ?_
    refine awp_region ?_
    refine aops_e (w0 rfl) rfl (eff_move rfl rfl) ?_
    refine aops_load_ptr 0 (w0 rfl) rfl rfl rfl rfl rfl (ld_agg (Nat.le_of_ble_eq_true rfl)) ?_
    refine aops_e (w0 rfl) rfl (eff_call [] rfl rfl rfl (c_contains l hl s) List.nodup_nil) ?_
    refine aops_e (w0 rfl) rfl (eff_assign rfl rfl) ?_
    refine aops_nil ?_
    refine awp_ret ?_
    exact retq rfl (res_tmp rfl res_nil) (gb rfl)
  · intro hc
    have hr : riseG sLt l = true := notF hc
    refine awp_skip ?_
    refine awp_seq ?_
    refine awp_region ?_
    refine aops_e (w0 rfl) rfl (eff_move rfl rfl) ?_
    refine aops_load_ptr 0 (w0 rfl) rfl rfl rfl rfl rfl (ld_agg (Nat.le_of_ble_eq_true rfl)) ?_
    refine aops_callS (w0 rfl) rfl rfl rfl rfl (c_binF l hl s hr) (fun v2 hv2 => ?_)
    refine aops_e (w0 rfl) rfl (eff_move rfl rfl) ?_
    refine aops_e (w0 rfl) rfl (eff_extract rfl rfl rfl) ?_
    refine aops_e (w0 rfl) rfl (eff_extract rfl rfl rfl) ?_
    refine aops_e (w0 rfl) rfl (eff_assign rfl rfl) ?_
    refine aops_e (w0 rfl) rfl (eff_assign rfl rfl) ?_
    refine aops_nil ?_
    refine awp_seq ?_
    refine awp_region ?_
    refine aops_e (w0 rfl) rfl (eff_move rfl rfl) ?_
    refine aops_e (w0 rfl) rfl (eff_assign rfl rfl) ?_
    refine aops_nil ?_
    refine awp_ret ?_
    exact retq rfl (res_tmp rfl res_nil) (gb rfl)

theorem c_idxG (l : List Site) (hl : small l.length) (g : Nat) (caps : List AV) (Hc : AHeap) (f : Site → Bool) (hg : ∀ s, s ∈ l → ACalls Try.prog g (s.av :: caps) Hc (GivesH (bA (f s)) Hc)) : ACalls Try.prog 55 [.lst (l.map Site.cells), .fn (.func g) caps] Hc (GivesH (iA (idxFrom f l 0)) Hc) := by
  simp only [small] at hl
  refine acalls_of (n := 19) Try.func55 rfl (by decide +kernel) rfl rfl ?_
  refine awp_seq ?_
  refine awp_region ?_
  refine aops_e (w0 rfl) rfl (eff_assign rfl rfl) ?_
  refine aops_nil ?_
  refine awp_seq ?_
  refine awp_seq ?_
  refine awp_region ?_
  refine aops_e (w0 rfl) rfl (eff_move rfl rfl) ?_
  refine aops_e (w0 rfl) rfl (eff_len rfl rfl rfl rfl) ?_
  refine aops_e (w0 rfl) rfl (eff_move rfl rfl) ?_
  refine aops_nil ?_
  refine awp_block ?_
  refine awp_loopJ (α := Nat) (fun i => ⟨[(8, iA i), (0, .lst (l.map Site.cells)), (1, .fn (.func g) caps), (7, iA l.length)], [] ++ Hc, [], 19⟩) (fun i => i ≤ l.length ∧ idxFrom f (l.drop i) i = idxFrom f l 0) (fun i => l.length - i) 0 ⟨by omega, rfl⟩ ?_ ?_
  · exact weak_tail (F := []) (F' := []) (Hj := Hc) [] ⟨rfl, rfl, rfl, (by show some (iA _) = some (iA _); simp), trivial⟩ rfl rfl rfl (by decide) rfl rfl
  rintro i hJ
  refine awp_seq ?_
  refine awp_region ?_
  refine aops_e (w0 rfl) rfl (eff_icmp rfl rfl rfl rfl) ?_
  refine aops_nil ?_
  refine awp_seq ?_
  refine awp_cond rfl ?_ ?_
  · intro hc
    have hi : i < l.length := by simpa using hc
    refine awp_skip ?_
    refine awp_seq ?_
    refine awp_block ?_
    refine awp_seq ?_
    refine awp_region ?_
    refine aops_e (w0 rfl) rfl (eff_move rfl rfl) ?_
    refine aops_e (w0 rfl) rfl (eff_assign rfl rfl) ?_
    refine aops_nil ?_
    refine awp_seq ?_
    refine awp_region ?_
    refine aops_e (w0 rfl) rfl (eff_move rfl rfl) ?_
    refine aops_e (w0 rfl) rfl (eff_move rfl rfl) ?_
    refine aops_e (w0 rfl) rfl (eff_move rfl rfl) ?_
    refine aops_e (w0 rfl) rfl (eff_indexAddr_lst rfl rfl rfl (len_map (fun _ => rfl)) (by first | omega | (simp only [List.length_map]; omega) | (simp only [List.length_map, List.length_drop]; omega)) (by first | omega | (simp only [List.length_map]; omega) | (simp only [List.length_map, List.length_drop]; omega))) ?_
    refine aops_e (w0 rfl) rfl (eff_loadE rfl rfl (map_get (by first | assumption | omega | (simp only [List.length_drop]; omega))) (ld_agg (Nat.le_of_ble_eq_true rfl))) ?_
    refine aops_callG Hc [] (w0 rfl) rfl rfl rfl rfl (by simp) (hg _ (List.getElem_mem hi)) ?_
    refine aops_nil ?_
    refine awp_cond rfl ?_ ?_
    · intro hc
      have hc : f (l[i]) = true := hc
      refine awp_seq ?_
      refine awp_region ?_
      refine aops_e (w0 rfl) rfl (eff_move rfl rfl) ?_
      refine aops_e (w0 rfl) rfl (eff_assign rfl rfl) ?_
      refine aops_nil ?_
      refine awp_ret ?_
      exact retq_keep rfl (res_tmp rfl res_nil) (.refl _) (gvH (congrArg iA (by rw [← hJ.2, drop_get hi]; simp [idxFrom, hc])))
    · intro hc
      have hc : f (l[i]) = false := hc
      refine awp_skip ?_
      refine awp_region ?_
      refine aops_e (w0 rfl) rfl (eff_arith rfl rfl rfl (arith_add (by first | omega | (simp only [List.length_map]; omega)))) ?_
      refine aops_e (w0 rfl) rfl (eff_move rfl rfl) ?_
      refine aops_nil ?_
      refine ⟨i + 1, ⟨by omega, by rw [← hJ.2, drop_get hi]; simp [idxFrom, hc]⟩, (by omega), ?_⟩
      exact weak_tail (F := []) (F' := []) (Hj := Hc) [] ⟨rfl, rfl, rfl, rfl, trivial⟩ rfl rfl rfl (by decide) rfl rfl
  · intro hc
    have hi : ¬ i < l.length := by simpa using hc
    refine awp_exit ?_
    refine awp_seq ?_
    refine awp_region ?_
    refine aops_e (w0 rfl) rfl (eff_assign rfl rfl) ?_
    refine aops_nil ?_
    refine awp_ret ?_
    exact retq_keep rfl (res_tmp rfl res_nil) (.refl _) (gvH (congrArg iA (by rw [← hJ.2, drop_end hi]; rfl)))

theorem c_contG (l : List Site) (hl : small l.length) (g : Nat) (caps : List AV) (Hc : AHeap) (f : Site → Bool) (hg : ∀ s, s ∈ l → ACalls Try.prog g (s.av :: caps) Hc (GivesH (bA (f s)) Hc)) : ACalls Try.prog 36 [.lst (l.map Site.cells), .fn (.func g) caps] Hc (GivesH (bA (l.any f)) Hc) := by
  refine acalls_of (n := 9) Try.func36 rfl (by decide +kernel) rfl rfl ?_
  refine awp_seq ?_
  refine awp_region ?_
  refine aops_e (w0 rfl) rfl (eff_assign rfl rfl) ?_
  refine aops_nil ?_
  refine awp_seq ?_
  refine awp_region ?_
  refine aops_e (w0 rfl) rfl (eff_move rfl rfl) ?_
  refine aops_e (w0 rfl) rfl (eff_move rfl rfl) ?_
  refine aops_callG Hc [] (w0 rfl) rfl rfl rfl rfl (by simp) (c_idxG l hl g caps Hc f hg) ?_
  refine aops_e (w0 rfl) rfl (eff_icmp rfl rfl rfl rfl) ?_
  refine aops_e (w0 rfl) rfl (eff_assign rfl rfl) ?_
  refine aops_nil ?_
  refine awp_ret ?_
  exact retq_keep rfl (res_tmp rfl res_nil) (.refl _) (gvH (congrArg bA (idx_any f l)))

theorem c_subFn (i1 : Nat) (b : List Site) (hb : small b.length) (s : Site) : ACalls Try.prog 37 [s.av, .ptr i1 1 0 0] [(i1, .rows 22 1 [[.lst (b.map Site.cells)]])] (GivesH (bA (!hasG b s)) [(i1, .rows 22 1 [[.lst (b.map Site.cells)]])]) := by
  refine acalls_of (n := 8) Try.func37 rfl (by decide +kernel) rfl rfl ?_
  refine awp_seq ?_
  refine awp_region ?_
  refine aops_n (w0 rfl) rfl (fun id => eff_box id rfl rfl rfl rfl rfl) (fun id1 => ?_)
  refine aops_e (w0 rfl) rfl (eff_assign rfl rfl) ?_
  refine aops_nil ?_
  refine awp_seq ?_
  refine awp_region ?_
  refine aops_load_ptr 1 (w0 rfl) rfl rfl rfl rfl rfl ld_one ?_
  refine aops_load_ptr 0 (w0 rfl) rfl rfl rfl rfl rfl (ld_agg (Nat.le_of_ble_eq_true rfl)) ?_
  refine aops_e (w0 rfl) rfl (eff_call [] rfl rfl rfl (c_has b hb s) List.nodup_nil) ?_
  refine aops_e (w0 rfl) rfl (eff_not rfl rfl) ?_
  refine aops_e (w0 rfl) rfl (eff_assign rfl rfl) ?_
  refine aops_nil ?_
  refine awp_ret ?_
  exact retq_keep rfl (res_tmp rfl res_nil) (.cons _ (.refl _)) (gvH rfl)

theorem c_sub24 (a b : List Site) (hl : small a.length) (hb : small b.length) : ACalls Try.prog 21 [.lst (a.map Site.cells), .lst (b.map Site.cells)] [] (Gives (bA (a.all (hasG b)))) := by
  refine acalls_of (n := 9) Try.func21 rfl (by decide +kernel) rfl rfl ?_
  refine awp_seq ?_
  refine awp_region ?_
  refine aops_n (w0 rfl) rfl (fun id => eff_box id rfl rfl rfl rfl rfl) (fun id1 => ?_)
  refine aops_e (w0 rfl) rfl (eff_assign rfl rfl) ?_
  refine aops_nil ?_
  refine awp_seq ?_
  refine awp_region ?_
  refine aops_e (w0 rfl) rfl (eff_move rfl rfl) ?_
  refine aops_e (w0 rfl) rfl (eff_makeFunc rfl rfl) ?_
  refine aops_callG [_] [] (w0 rfl) rfl rfl rfl rfl (.refl _) (c_contG a hl 37 _ _ (fun s => !hasG b s) (fun s _ => c_subFn id1 b hb s)) ?_
  refine aops_e (w0 rfl) rfl (eff_not rfl rfl) ?_
  refine aops_e (w0 rfl) rfl (eff_assign rfl rfl) ?_
  refine aops_nil ?_
  refine awp_ret ?_
  exact retq rfl (res_tmp rfl res_nil) (gb (by rw [List.all_eq_not_any_not]))

end Go.Sx
