/- Layer 11's laws, walked. -/
import Derived.Test.YtdombpcfmjlnlaaSyHier
import Derived.Test.YtdombpcfmjlnlaaSxHier2
set_option linter.unusedVariables false
set_option linter.unusedSimpArgs false
namespace Go.Sx
open Go Go.Proofs

theorem c_checkX (p : Prog) (hb : p.classes.length ≤ 1000) (hif : ∀ c, c ∈ p.classes → c.ifaces.length ≤ 1000) {e : Int} {who : Str} (h : checkP p = (e, who)) : ACalls Try.prog 40 [p.av] [] (Gives (.tup [iA e, sA who])) := by have := c_check p hb hif; rw [h] at this; exact this
theorem c_comX (p : Prog) (hb : p.classes.length ≤ 1000) (a b : Str) {r : Str} (h : com p a b = r) : ACalls Try.prog 36 [p.av, sA a, sA b] [] (Gives (sA r)) := h ▸ c_common p hb a b
theorem c_subX (p : Prog) (hb : p.classes.length ≤ 1000) (hif : ∀ c, c ∈ p.classes → c.ifaces.length ≤ 1000) (a b : Str) {r : Bool} (h : subP p a b = r) : ACalls Try.prog 34 [p.av, sA a, sA b] [] (Gives (bA r)) := h ▸ c_sub p hb hif a b
theorem c_supX (p : Prog) (hb : p.classes.length ≤ 1000) (a : Str) {r : List Str} (h : supers p a = r) : ACalls Try.prog 28 [p.av, sA a] [] (Gives (row1 sA r)) := h ▸ c_supers p hb a
theorem c_ancX (p : Prog) (hb : p.classes.length ≤ 1000) (hif : ∀ c, c ∈ p.classes → c.ifaces.length ≤ 1000) (a : Str) {r : List Str} (h : ancL p a = r) : ACalls Try.prog 30 [p.av, sA a] [] (Gives (row1 sA r)) := h ▸ c_ancs p hb hif a
theorem c_subsX (p : Prog) (hb : p.classes.length ≤ 1000) (hif : ∀ c, c ∈ p.classes → c.ifaces.length ≤ 1000) (a : Str) {r : List Str} (h : subsL p a = r) : ACalls Try.prog 32 [p.av, sA a] [] (Gives (row1 sA r)) := h ▸ c_subs p hb hif a
theorem c_concX (p : Prog) (hb : p.classes.length ≤ 1000) (a : Str) {r : Bool} (h : concP p a = r) : ACalls Try.prog 38 [p.av, sA a] [] (Gives (bA r)) := h ▸ c_conc p hb a
theorem c_sameY (a b : List Str) (ha : small a.length) {c : Bool} (h : sameT a b = c) : ACalls Try.prog 18 [row1 sA a, row1 sA b] [] (Gives (bA c)) := h ▸ c_sameT a b ha

theorem c_live11  : ACalls Try.prog 26 [] [] (Gives (bA true)) := by
  refine acalls_of (n := 79) Try.func26 rfl (by decide +kernel) rfl rfl ?_
  refine awp_seq ?_
  refine awp_region ?_
  refine aops_e (w0 rfl) rfl (eff_assign rfl rfl) ?_
  refine aops_nil ?_
  refine awp_seq ?_
  refine awp_region ?_
  refine aops_e (w0 rfl) rfl (eff_sub (y := lhA.av) (eff_build rfl rfl rfl) (.agg (by repeat' (first | exact .nil | refine .keep ?_ | refine .z ?_)))) ?_
  refine aops_e (w0 rfl) rfl (eff_frz (es := ([nI] : List Str).map fun x => [sA x]) (fun id => eff_buildSlice id (ps := [(0, .const (Value.string ⟨#[73]⟩))]) rfl rfl rfl rfl rfl rfl rfl rfl) rfl) ?_
  refine aops_e (w0 rfl) rfl (eff_sub (y := lhB.av) (eff_build rfl rfl rfl) (.agg (by repeat' (first | exact .nil | refine .keep ?_ | refine .z ?_)))) ?_
  refine aops_e (w0 rfl) rfl (eff_sub (y := lhC.av) (eff_build rfl rfl rfl) (.agg (by repeat' (first | exact .nil | refine .keep ?_ | refine .z ?_)))) ?_
  refine aops_e (w0 rfl) rfl (eff_sub (y := lhI.av) (eff_build rfl rfl rfl) (.agg (by repeat' (first | exact .nil | refine .keep ?_ | refine .z ?_)))) ?_
  refine aops_e (w0 rfl) rfl (eff_frz (es := lhP.classes.map Cls.cells) (fun id => eff_buildSlice id (ps := [(0, .tmp 7), (1, .tmp 9), (2, .tmp 10), (3, .tmp 11)]) rfl rfl rfl rfl rfl rfl rfl rfl) rfl) ?_
  refine aops_e (w0 rfl) rfl (eff_sub (y := lhP.av) (eff_build rfl rfl rfl) (.agg (by repeat' (first | exact .nil | refine .keep ?_ | refine .z ?_)))) ?_
  refine aops_n (w0 rfl) rfl (fun id => eff_alloc id rfl rfl rfl) (fun id1 => ?_)
  refine aops_store 0 (w0 rfl) rfl rfl rfl rfl rfl rfl rfl rfl rfl ?_
  refine aops_nil ?_
  refine awp_seq ?_
  refine awp_region ?_
  refine aops_e (w0 rfl) rfl (eff_sub (y := lhA2.av) (eff_build rfl rfl rfl) (.agg (by repeat' (first | exact .nil | refine .keep ?_ | refine .z ?_)))) ?_
  refine aops_e (w0 rfl) rfl (eff_sub (y := lhB2.av) (eff_build rfl rfl rfl) (.agg (by repeat' (first | exact .nil | refine .keep ?_ | refine .z ?_)))) ?_
  refine aops_e (w0 rfl) rfl (eff_frz (es := lhQ.classes.map Cls.cells) (fun id => eff_buildSlice id (ps := [(0, .tmp 14), (1, .tmp 15)]) rfl rfl rfl rfl rfl rfl rfl rfl) rfl) ?_
  refine aops_e (w0 rfl) rfl (eff_sub (y := lhQ.av) (eff_build rfl rfl rfl) (.agg (by repeat' (first | exact .nil | refine .keep ?_ | refine .z ?_)))) ?_
  refine aops_n (w0 rfl) rfl (fun id => eff_alloc id rfl rfl rfl) (fun id2 => ?_)
  refine aops_store 0 (w0 rfl) rfl rfl rfl rfl rfl rfl rfl rfl rfl ?_
  refine aops_nil ?_
  refine awp_seq ?_
  refine awp_region ?_
  refine aops_load_ptr 1 (w0 rfl) rfl rfl rfl rfl rfl (ld_agg (Nat.le_of_ble_eq_true rfl)) ?_
  refine aops_e (w0 rfl) rfl (eff_call [] rfl rfl rfl (c_checkX lhP (by decide) (by decide) lhP_check) List.nodup_nil) ?_
  refine aops_e (w0 rfl) rfl (eff_move rfl rfl) ?_
  refine aops_e (w0 rfl) rfl (eff_extract rfl rfl rfl) ?_
  refine aops_e (w0 rfl) rfl (eff_extract rfl rfl rfl) ?_
  refine aops_e (w0 rfl) rfl (eff_assign rfl rfl) ?_
  refine aops_e (w0 rfl) rfl (eff_assign rfl rfl) ?_
  refine aops_nil ?_
  refine awp_seq ?_
  refine awp_region ?_
  refine aops_load_ptr 0 (w0 rfl) rfl rfl rfl rfl rfl (ld_agg (Nat.le_of_ble_eq_true rfl)) ?_
  refine aops_e (w0 rfl) rfl (eff_call [] rfl rfl rfl (c_checkX lhQ (by decide) (by decide) lhQ_check) List.nodup_nil) ?_
  refine aops_e (w0 rfl) rfl (eff_move rfl rfl) ?_
  refine aops_e (w0 rfl) rfl (eff_extract rfl rfl rfl) ?_
  refine aops_e (w0 rfl) rfl (eff_extract rfl rfl rfl) ?_
  refine aops_e (w0 rfl) rfl (eff_assign rfl rfl) ?_
  refine aops_e (w0 rfl) rfl (eff_assign rfl rfl) ?_
  refine aops_nil ?_
  refine awp_seq ?_
  refine awp_region ?_
  refine aops_e (w0 rfl) rfl (eff_move rfl rfl) ?_
  refine aops_e (w0 rfl) rfl (eff_to (y := bA true) (eff_icmp rfl rfl rfl rfl) (congrArg bA (by decide +kernel))) ?_
  refine aops_e (w0 rfl) rfl (eff_move rfl rfl) ?_
  refine aops_e (wT (d := true) rfl rfl rfl rfl) rfl (eff_move rfl rfl) ?_
  refine aops_e (wT (d := true) rfl rfl rfl rfl) rfl (eff_to (y := bA true) (eff_icmp rfl rfl rfl rfl) (congrArg bA (by decide +kernel))) ?_
  refine aops_e (w0 rfl) rfl (eff_to (y := bA true) (eff_pick (t := true) rfl rfl rfl rfl) rfl) ?_
  refine aops_e (w0 rfl) rfl (eff_move rfl rfl) ?_
  refine aops_e (wT (d := true) rfl rfl rfl rfl) rfl (eff_move rfl rfl) ?_
  refine aops_e (wT (d := true) rfl rfl rfl rfl) rfl (eff_to (y := bA true) (eff_scmp rfl rfl rfl rfl) (congrArg bA (by decide +kernel))) ?_
  refine aops_e (w0 rfl) rfl (eff_to (y := bA true) (eff_pick (t := true) rfl rfl rfl rfl) rfl) ?_
  refine aops_e (w0 rfl) rfl (eff_move rfl rfl) ?_
  refine aops_load_ptr 1 (wT (d := true) rfl rfl rfl rfl) rfl rfl rfl rfl rfl (ld_agg (Nat.le_of_ble_eq_true rfl)) ?_
  refine aops_e (wT (d := true) rfl rfl rfl rfl) rfl (eff_call [] rfl rfl rfl (c_comX lhP (by decide) nB nC (r := nA) (by decide +kernel)) List.nodup_nil) ?_
  refine aops_e (wT (d := true) rfl rfl rfl rfl) rfl (eff_to (y := bA true) (eff_scmp rfl rfl rfl rfl) (congrArg bA (by decide +kernel))) ?_
  refine aops_e (w0 rfl) rfl (eff_to (y := bA true) (eff_pick (t := true) rfl rfl rfl rfl) rfl) ?_
  refine aops_e (w0 rfl) rfl (eff_move rfl rfl) ?_
  refine aops_load_ptr 1 (wT (d := true) rfl rfl rfl rfl) rfl rfl rfl rfl rfl (ld_agg (Nat.le_of_ble_eq_true rfl)) ?_
  refine aops_e (wT (d := true) rfl rfl rfl rfl) rfl (eff_call [] rfl rfl rfl (c_subX lhP (by decide) (by decide) nB nI (r := true) (lhP_sub (by decide +kernel) (by decide +kernel))) List.nodup_nil) ?_
  refine aops_e (w0 rfl) rfl (eff_to (y := bA true) (eff_pick (t := true) rfl rfl rfl rfl) rfl) ?_
  refine aops_e (w0 rfl) rfl (eff_move rfl rfl) ?_
  refine aops_load_ptr 1 (wT (d := true) rfl rfl rfl rfl) rfl rfl rfl rfl rfl (ld_agg (Nat.le_of_ble_eq_true rfl)) ?_
  refine aops_e (wT (d := true) rfl rfl rfl rfl) rfl (eff_call [] rfl rfl rfl (c_subX lhP (by decide) (by decide) nA nB (r := false) (lhP_sub (by decide +kernel) (by decide +kernel))) List.nodup_nil) ?_
  refine aops_e (wT (d := true) rfl rfl rfl rfl) rfl (eff_to (y := bA true) (eff_not rfl rfl) (congrArg bA (by decide +kernel))) ?_
  refine aops_e (w0 rfl) rfl (eff_to (y := bA true) (eff_pick (t := true) rfl rfl rfl rfl) rfl) ?_
  refine aops_e (w0 rfl) rfl (eff_move rfl rfl) ?_
  refine aops_load_ptr 1 (wT (d := true) rfl rfl rfl rfl) rfl rfl rfl rfl rfl (ld_agg (Nat.le_of_ble_eq_true rfl)) ?_
  refine aops_e (wT (d := true) rfl rfl rfl rfl) rfl (eff_call [] rfl rfl rfl (c_supX lhP (by decide) nB (r := [nB, nA]) (by decide +kernel)) List.nodup_nil) ?_
  refine aops_e (wT (d := true) rfl rfl rfl rfl) rfl (eff_frz (es := _) (fun id => eff_buildSlice id (ps := [(0, .const (Value.string ⟨#[66]⟩)), (1, .const (Value.string ⟨#[65]⟩))]) rfl rfl rfl rfl rfl rfl rfl rfl) rfl) ?_
  refine aops_e (wT (d := true) rfl rfl rfl rfl) rfl (eff_call [] rfl rfl rfl (c_sameY [nB, nA] [nB, nA] (by unfold small; decide) (c := true) (by decide +kernel)) List.nodup_nil) ?_
  refine aops_e (w0 rfl) rfl (eff_to (y := bA true) (eff_pick (t := true) rfl rfl rfl rfl) rfl) ?_
  refine aops_e (w0 rfl) rfl (eff_move rfl rfl) ?_
  refine aops_load_ptr 1 (wT (d := true) rfl rfl rfl rfl) rfl rfl rfl rfl rfl (ld_agg (Nat.le_of_ble_eq_true rfl)) ?_
  refine aops_e (wT (d := true) rfl rfl rfl rfl) rfl (eff_call [] rfl rfl rfl (c_ancX lhP (by decide) (by decide) nB (r := [nA, nB, nI]) (ancL_run (out := [nB, nI, nA]) 20 (by decide +kernel) (by decide +kernel))) List.nodup_nil) ?_
  refine aops_e (wT (d := true) rfl rfl rfl rfl) rfl (eff_frz (es := _) (fun id => eff_buildSlice id (ps := [(0, .const (Value.string ⟨#[65]⟩)), (1, .const (Value.string ⟨#[66]⟩)), (2, .const (Value.string ⟨#[73]⟩))]) rfl rfl rfl rfl rfl rfl rfl rfl) rfl) ?_
  refine aops_e (wT (d := true) rfl rfl rfl rfl) rfl (eff_call [] rfl rfl rfl (c_sameY [nA, nB, nI] [nA, nB, nI] (by unfold small; decide) (c := true) (by decide +kernel)) List.nodup_nil) ?_
  refine aops_e (w0 rfl) rfl (eff_to (y := bA true) (eff_pick (t := true) rfl rfl rfl rfl) rfl) ?_
  refine aops_e (w0 rfl) rfl (eff_move rfl rfl) ?_
  refine aops_load_ptr 1 (wT (d := true) rfl rfl rfl rfl) rfl rfl rfl rfl rfl (ld_agg (Nat.le_of_ble_eq_true rfl)) ?_
  refine aops_e (wT (d := true) rfl rfl rfl rfl) rfl (eff_call [] rfl rfl rfl (c_subsX lhP (by decide) (by decide) nA (r := [nA, nB, nC]) (subsL_run 20 (by decide +kernel) (by decide +kernel))) List.nodup_nil) ?_
  refine aops_e (wT (d := true) rfl rfl rfl rfl) rfl (eff_frz (es := _) (fun id => eff_buildSlice id (ps := [(0, .const (Value.string ⟨#[65]⟩)), (1, .const (Value.string ⟨#[66]⟩)), (2, .const (Value.string ⟨#[67]⟩))]) rfl rfl rfl rfl rfl rfl rfl rfl) rfl) ?_
  refine aops_e (wT (d := true) rfl rfl rfl rfl) rfl (eff_call [] rfl rfl rfl (c_sameY [nA, nB, nC] [nA, nB, nC] (by unfold small; decide) (c := true) (by decide +kernel)) List.nodup_nil) ?_
  refine aops_e (w0 rfl) rfl (eff_to (y := bA true) (eff_pick (t := true) rfl rfl rfl rfl) rfl) ?_
  refine aops_e (w0 rfl) rfl (eff_move rfl rfl) ?_
  refine aops_load_ptr 1 (wT (d := true) rfl rfl rfl rfl) rfl rfl rfl rfl rfl (ld_agg (Nat.le_of_ble_eq_true rfl)) ?_
  refine aops_e (wT (d := true) rfl rfl rfl rfl) rfl (eff_call [] rfl rfl rfl (c_concX lhP (by decide) nA (r := true) (by decide +kernel)) List.nodup_nil) ?_
  refine aops_e (w0 rfl) rfl (eff_to (y := bA true) (eff_pick (t := true) rfl rfl rfl rfl) rfl) ?_
  refine aops_e (w0 rfl) rfl (eff_move rfl rfl) ?_
  refine aops_load_ptr 1 (wT (d := true) rfl rfl rfl rfl) rfl rfl rfl rfl rfl (ld_agg (Nat.le_of_ble_eq_true rfl)) ?_
  refine aops_e (wT (d := true) rfl rfl rfl rfl) rfl (eff_call [] rfl rfl rfl (c_concX lhP (by decide) nI (r := false) (by decide +kernel)) List.nodup_nil) ?_
  refine aops_e (wT (d := true) rfl rfl rfl rfl) rfl (eff_to (y := bA true) (eff_not rfl rfl) (congrArg bA (by decide +kernel))) ?_
  refine aops_e (w0 rfl) rfl (eff_to (y := bA true) (eff_pick (t := true) rfl rfl rfl rfl) rfl) ?_
  refine aops_e (w0 rfl) rfl (eff_assign rfl rfl) ?_
  refine aops_nil ?_
  refine awp_ret ?_
  exact retq rfl (res_tmp rfl res_nil) (gb rfl)

theorem c_unlike (p : Prog) (hb : p.classes.length ≤ 1000) : ACalls Try.prog 42 [p.av] [] (Gives (bA (unlikeB p))) := by
  have hbs : small p.classes.length := by unfold small; omega
  refine acalls_of (n := 45) Try.func42 rfl (by decide +kernel) rfl rfl ?_
  refine awp_seq ?_
  refine awp_region ?_
  refine aops_n (w0 rfl) rfl (fun id => eff_box id rfl rfl rfl rfl rfl) (fun id1 => ?_)
  refine aops_e (w0 rfl) rfl (eff_assign rfl rfl) ?_
  refine aops_nil ?_
  refine awp_seq ?_
  refine awp_seq ?_
  refine awp_region ?_
  refine aops_e (w0 rfl) rfl (eff_assign rfl rfl) ?_
  refine aops_nil ?_
  refine awp_block ?_
  refine awp_loopJ (α := Nat) (fun i => ⟨[(3, iA i), (1, .ptr id1 5 0 0)], [(id1, .rows 39 5 [p.cells])], [], 45⟩) (fun i => i ≤ p.classes.length ∧ ∀ k, k < i → okU p k = true) (fun i => p.classes.length - i) 0 ⟨Nat.zero_le _, fun k hk => by omega⟩ ?_ ?_
  · exact weak_pick [0] ⟨rfl, rfl, trivial⟩ rfl (by decide) rfl rfl
  rintro i hJ
  refine awp_seq ?_
  refine awp_seq ?_
  refine awp_region ?_
  refine aops_e (w0 rfl) rfl (eff_move rfl rfl) ?_
  refine aops_e (w0 rfl) rfl (eff_fieldAddr rfl rfl rfl) ?_
  refine aops_load_ptr 0 (w0 rfl) rfl rfl rfl rfl rfl ld_one ?_
  refine aops_e (w0 rfl) rfl (eff_len rfl rfl rfl rfl) ?_
  refine aops_e (w0 rfl) rfl (eff_icmp rfl rfl rfl rfl) ?_
  refine aops_nil ?_
  refine awp_cond rfl ?_ ?_
  · intro hc
    have hi : i < p.classes.length := by simpa using hc
    refine awp_skip ?_
    refine awp_seq ?_
    refine awp_block ?_
    refine awp_seq ?_
    refine awp_seq ?_
    refine awp_region ?_
    refine aops_e (w0 rfl) rfl (eff_fieldAddr rfl rfl rfl) ?_
    refine aops_load_ptr 0 (w0 rfl) rfl rfl rfl rfl rfl ld_one ?_
    refine aops_e (w0 rfl) rfl (eff_move rfl rfl) ?_
    refine aops_e (w0 rfl) rfl (eff_indexAddr_lst rfl rfl rfl (len_map (fun _ => rfl)) (by first | omega | (simp only [List.length_map]; omega)) (by first | omega | (simp only [List.length_map]; omega))) ?_
    refine aops_e (w0 rfl) rfl (eff_fieldAddr rfl rfl rfl) ?_
    refine aops_e (w0 rfl) rfl (eff_loadE rfl rfl (map_get (by first | assumption | omega)) ld_one) ?_
    refine aops_e (w0 rfl) rfl (eff_move rfl rfl) ?_
    refine aops_g (wT rfl rfl rfl rfl) rfl (fun hg => (eff_fieldAddr rfl rfl rfl)) ?_
    refine aops_gload 0 (wT rfl rfl rfl rfl) rfl rfl (fun hg => (ev_g hg rfl)) rfl rfl ld_one ?_
    refine aops_g (wT rfl rfl rfl rfl) rfl (fun hg => (eff_move rfl rfl)) ?_
    refine aops_g (wT rfl rfl rfl rfl) rfl (fun hg => (eff_indexAddr_lst rfl (ev_g hg rfl) (ev_g hg rfl) (len_map (fun _ => rfl)) (by (try simp at hg) <;> first | omega | (simp only [List.length_map]; omega)) (by (try simp at hg) <;> first | omega | (simp only [List.length_map]; omega)))) ?_
    refine aops_g (wT rfl rfl rfl rfl) rfl (fun hg => (eff_fieldAddr rfl (ev_g hg rfl) rfl)) ?_
    refine aops_g (wT rfl rfl rfl rfl) rfl (fun hg => (eff_loadE rfl (ev_g hg rfl) (map_getD (by (try simp at hg) <;> first | assumption | omega)) ld_one)) ?_
    refine aops_g (wT rfl rfl rfl rfl) rfl (fun hg => (eff_scmp rfl (ev_g hg rfl) rfl rfl)) ?_
    refine aops_e (w0 rfl) rfl (eff_and rfl rfl rfl (fun h => h)) ?_
    refine aops_nil ?_
    refine awp_cond rfl ?_ ?_
    · intro hc
      have hno : okU p i = false := okU_no1 hi hc
      refine awp_seq ?_
      refine awp_region ?_
      refine aops_e (w0 rfl) rfl (eff_assign rfl rfl) ?_
      refine aops_nil ?_
      refine awp_ret ?_
      exact retq rfl (res_tmp rfl res_nil) (gb (unlike_no hi hno).symm)
    · intro hc
      have hq1 := hc
      refine awp_skip ?_
      refine awp_seq ?_
      refine awp_drawM [0, 1, 0, 7, 15, 31, 63, 127, 255, 255, 767, 255, 3839, 7935, 16127, 32767, 255, 131071, 262143] 19 rfl (by kernel_rfl) ?_
      refine calm_e (w0 rfl) rfl (eff_fieldAddr rfl rfl rfl) ?_
      refine calm_load_ptr 0 (w0 rfl) rfl rfl rfl rfl rfl ld_one ?_
      refine calm_e (w0 rfl) rfl (eff_move rfl rfl) ?_
      refine calm_e (w0 rfl) rfl (eff_indexAddr_lst rfl rfl rfl (len_map (fun _ => rfl)) (by first | omega | (simp only [List.length_map]; omega)) (by first | omega | (simp only [List.length_map]; omega))) ?_
      refine calm_e (w0 rfl) rfl (eff_fieldAddr rfl rfl rfl) ?_
      refine calm_e (w0 rfl) rfl (eff_loadE rfl rfl (map_get (by first | assumption | omega)) ld_one) ?_
      refine calm_e (w0 rfl) rfl (eff_scmp rfl rfl rfl rfl) ?_
      refine calm_e (w0 rfl) rfl (eff_move rfl rfl) ?_
      refine calm_gload 0 (wF rfl rfl rfl rfl) rfl rfl (fun hg => rfl) rfl rfl (ld_agg (Nat.le_of_ble_eq_true rfl)) ?_
      refine calm_g (wF rfl rfl rfl rfl) rfl (fun hg => (eff_fieldAddr rfl rfl rfl)) ?_
      refine calm_gload 0 (wF rfl rfl rfl rfl) rfl rfl (fun hg => (ev_g hg rfl)) rfl rfl ld_one ?_
      refine calm_g (wF rfl rfl rfl rfl) rfl (fun hg => (eff_move rfl rfl)) ?_
      refine calm_g (wF rfl rfl rfl rfl) rfl (fun hg => (eff_indexAddr_lst rfl (ev_g hg rfl) (ev_g hg rfl) (len_map (fun _ => rfl)) (by (try simp at hg) <;> first | omega | (simp only [List.length_map]; omega)) (by (try simp at hg) <;> first | omega | (simp only [List.length_map]; omega)))) ?_
      refine calm_g (wF rfl rfl rfl rfl) rfl (fun hg => (eff_fieldAddr rfl (ev_g hg rfl) rfl)) ?_
      refine calm_g (wF rfl rfl rfl rfl) rfl (fun hg => (eff_loadE rfl (ev_g hg rfl) (map_getD (by (try simp at hg) <;> first | assumption | omega)) ld_one)) ?_
      refine calm_g (wF rfl rfl rfl rfl) rfl (fun hg => (eff_call [] rfl rfl (evs_cons (ev_g hg rfl) (evs_cons (ev_g hg rfl) evs_nil)) (c_class p hbs _) List.nodup_nil)) ?_
      refine calm_g (wF rfl rfl rfl rfl) rfl (fun hg => (eff_move rfl rfl)) ?_
      refine calm_g (wF rfl rfl rfl rfl) rfl (fun hg => (eff_icmp rfl (ev_g hg rfl) (ev_g hg rfl) rfl)) ?_
      refine calm_e (w0 rfl) rfl (eff_or rfl rfl rfl (fun h => by rw [h]; rfl)) ?_
      refine .done ?_
      refine aops_nil ?_
      refine awp_cond rfl ?_ ?_
      · intro hc
        have hno : okU p i = false := okU_no2 hi hc
        refine awp_seq ?_
        refine awp_region ?_
        refine aops_e (w0 rfl) rfl (eff_assign rfl rfl) ?_
        refine aops_nil ?_
        refine awp_ret ?_
        exact retq rfl (res_tmp rfl res_nil) (gb (unlike_no hi hno).symm)
      · intro hc
        have hok : okU p i = true := okU_yes hi hq1 hc
        refine awp_skip ?_
        refine awp_region ?_
        refine aops_e (w0 rfl) rfl (eff_move rfl rfl) ?_
        refine aops_e (w0 rfl) rfl (eff_arith rfl rfl rfl (arith_add (by first | omega | (simp only [List.length_map]; omega)))) ?_
        refine aops_e (w0 rfl) rfl (eff_assign rfl rfl) ?_
        refine aops_nil ?_
        refine ⟨i + 1, ⟨hi, fun k hk => by rcases Nat.lt_succ_iff_lt_or_eq.1 hk with h | h; exact hJ.2 k h; rw [h]; exact hok⟩, (by omega), ?_⟩
        exact weak_pick [0] ⟨rfl, rfl, trivial⟩ rfl (by decide) rfl rfl
  · intro hc
    have hi : ¬ i < p.classes.length := by simpa using hc
    refine awp_exit ?_
    refine awp_seq ?_
    refine awp_region ?_
    refine aops_e (w0 rfl) rfl (eff_assign rfl rfl) ?_
    refine aops_nil ?_
    refine awp_ret ?_
    exact retq rfl (res_tmp rfl res_nil) (gb (unlike_yes hi hJ.1 hJ.2).symm)

theorem c_hierLists (p : Prog) (hp : p.ok) (k : Int) (m : Int) (hk : 0 ≤ k ∧ k ≤ 255) (hm : 0 ≤ m ∧ m ≤ 255) : ACalls Try.prog 6 [p.av, uA k, uA m] [] (Gives (bA true)) := by
  refine acalls_of (n := 77) Try.func6 rfl (by decide +kernel) rfl rfl ?_
  refine awp_seq ?_
  refine awp_region ?_
  refine aops_n (w0 rfl) rfl (fun id => eff_box id rfl rfl rfl rfl rfl) (fun id1 => ?_)
  refine aops_e (w0 rfl) rfl (eff_assign rfl rfl) ?_
  refine aops_nil ?_
  refine awp_seq ?_
  refine awp_seq ?_
  refine awp_region ?_
  refine aops_load_ptr 0 (w0 rfl) rfl rfl rfl rfl rfl (ld_agg (Nat.le_of_ble_eq_true rfl)) ?_
  refine aops_e (w0 rfl) rfl (eff_call [] rfl rfl rfl (c_great p hp) List.nodup_nil) ?_
  refine aops_nil ?_
  refine awp_cond rfl ?_ ?_
  · intro hc
    refine awp_seq ?_
    refine awp_region ?_
    refine aops_e (w0 rfl) rfl (eff_call [] rfl rfl rfl c_live11 List.nodup_nil) ?_
    refine aops_e (w0 rfl) rfl (eff_assign rfl rfl) ?_
    refine aops_nil ?_
    refine awp_ret ?_
    exact retq rfl (res_tmp rfl res_nil) (gb rfl)
  · intro hc
    have hq : greatP p = false := hc
    have hb := greatP_len hq
    have hif := greatP_if hq
    have hbs : small p.classes.length := by unfold small; omega
    refine awp_skip ?_
    refine awp_seq ?_
    refine awp_drawN 8 rfl (by kernel_rfl) ?_
    refine calm_load_ptr 0 (w0 rfl) rfl rfl rfl rfl rfl (ld_agg (Nat.le_of_ble_eq_true rfl)) ?_
    refine calm_e (w0 rfl) rfl (eff_move rfl rfl) ?_
    refine calm_e (w0 rfl) rfl (eff_call [] rfl rfl rfl (c_name p hbs k hk.1 hk.2) List.nodup_nil) ?_
    refine calm_load_ptr 0 (w0 rfl) rfl rfl rfl rfl rfl (ld_agg (Nat.le_of_ble_eq_true rfl)) ?_
    refine calm_e (w0 rfl) rfl (eff_move rfl rfl) ?_
    refine calm_e (w0 rfl) rfl (eff_call [] rfl rfl rfl (c_name p hbs m hm.1 hm.2) List.nodup_nil) ?_
    refine calm_e (w0 rfl) rfl (eff_assign rfl rfl) ?_
    refine calm_e (w0 rfl) rfl (eff_assign rfl rfl) ?_
    refine .done ?_
    refine aops_nil ?_
    refine awp_seq ?_
    refine awp_drawM [0, 1, 3, 3, 15, 3, 3, 127, 255, 511, 1023, 2047, 2047, 8191, 2047, 2047, 65535, 131071, 262143, 524287, 1048575, 1048575, 4194303, 1048575, 1048575, 33554431, 67108863, 134217727, 268435455, 536870911, 536870911, 536870911, 4294967295, 536870911, 536870911, 536870911, 68719476735, 137438953471, 274877906943, 549755813887, 1099511627775, 1099511627775, 1099511627775, 8796093022207, 1099511627775, 1099511627775, 1099511627775, 140737488355327, 281474976710655, 562949953421311, 1125899906842623, 2251799813685247, 2251799813685247, 9007199254740991, 2251799813685247, 2251799813685247, 72057594037927935, 144115188075855871, 288230376151711743, 576460752303423487] 60 rfl (by kernel_rfl) ?_
    refine calm_e (w0 rfl) rfl (eff_call [] rfl rfl rfl c_live11 List.nodup_nil) ?_
    refine calm_e (w0 rfl) rfl (eff_move rfl rfl) ?_
    refine calm_gload 0 (wT rfl rfl rfl rfl) rfl rfl (fun hg => rfl) rfl rfl (ld_agg (Nat.le_of_ble_eq_true rfl)) ?_
    refine calm_g (wT rfl rfl rfl rfl) rfl (fun hg => (eff_move rfl rfl)) ?_
    refine calm_g (wT rfl rfl rfl rfl) rfl (fun hg => (eff_call [] rfl rfl (evs_cons (ev_g hg rfl) (evs_cons (ev_g hg rfl) evs_nil)) (c_supers p hb _) List.nodup_nil)) ?_
    refine calm_gload 0 (wT rfl rfl rfl rfl) rfl rfl (fun hg => rfl) rfl rfl (ld_agg (Nat.le_of_ble_eq_true rfl)) ?_
    refine calm_g (wT rfl rfl rfl rfl) rfl (fun hg => (eff_move rfl rfl)) ?_
    refine calm_g (wT rfl rfl rfl rfl) rfl (fun hg => (eff_call [] rfl rfl (evs_cons (ev_g hg rfl) (evs_cons (ev_g hg rfl) evs_nil)) (c_refSupers p hb _) List.nodup_nil)) ?_
    refine calm_g (wT rfl rfl rfl rfl) rfl (fun hg => (eff_call [] rfl rfl (evs_cons (ev_g hg rfl) (evs_cons (ev_g hg rfl) evs_nil)) (c_sameT _ _ (by have := supers_len p (nameP p k); unfold small; omega)) List.nodup_nil)) ?_
    refine calm_e (w0 rfl) rfl (eff_and rfl rfl rfl (fun h => h)) ?_
    refine calm_e (w0 rfl) rfl (eff_move rfl rfl) ?_
    refine calm_gload 0 (wT rfl rfl rfl rfl) rfl rfl (fun hg => rfl) rfl rfl (ld_agg (Nat.le_of_ble_eq_true rfl)) ?_
    refine calm_g (wT rfl rfl rfl rfl) rfl (fun hg => (eff_move rfl rfl)) ?_
    refine calm_g (wT rfl rfl rfl rfl) rfl (fun hg => (eff_call [] rfl rfl (evs_cons (ev_g hg rfl) (evs_cons (ev_g hg rfl) evs_nil)) (c_ancs p hb hif _) List.nodup_nil)) ?_
    refine calm_gload 0 (wT rfl rfl rfl rfl) rfl rfl (fun hg => rfl) rfl rfl (ld_agg (Nat.le_of_ble_eq_true rfl)) ?_
    refine calm_g (wT rfl rfl rfl rfl) rfl (fun hg => (eff_move rfl rfl)) ?_
    refine calm_g (wT rfl rfl rfl rfl) rfl (fun hg => (eff_call [] rfl rfl (evs_cons (ev_g hg rfl) (evs_cons (ev_g hg rfl) evs_nil)) (c_refAncs p hb hif _) List.nodup_nil)) ?_
    refine calm_g (wT rfl rfl rfl rfl) rfl (fun hg => (eff_call [] rfl rfl (evs_cons (ev_g hg rfl) (evs_cons (ev_g hg rfl) evs_nil)) (c_sameT _ _ (by have := ancL_len p (nameP p k); unfold small; omega)) List.nodup_nil)) ?_
    refine calm_e (w0 rfl) rfl (eff_and rfl rfl rfl (fun h => h)) ?_
    refine calm_e (w0 rfl) rfl (eff_move rfl rfl) ?_
    refine calm_gload 0 (wT rfl rfl rfl rfl) rfl rfl (fun hg => rfl) rfl rfl (ld_agg (Nat.le_of_ble_eq_true rfl)) ?_
    refine calm_g (wT rfl rfl rfl rfl) rfl (fun hg => (eff_move rfl rfl)) ?_
    refine calm_g (wT rfl rfl rfl rfl) rfl (fun hg => (eff_call [] rfl rfl (evs_cons (ev_g hg rfl) (evs_cons (ev_g hg rfl) evs_nil)) (c_subs p hb hif _) List.nodup_nil)) ?_
    refine calm_gload 0 (wT rfl rfl rfl rfl) rfl rfl (fun hg => rfl) rfl rfl (ld_agg (Nat.le_of_ble_eq_true rfl)) ?_
    refine calm_g (wT rfl rfl rfl rfl) rfl (fun hg => (eff_move rfl rfl)) ?_
    refine calm_g (wT rfl rfl rfl rfl) rfl (fun hg => (eff_call [] rfl rfl (evs_cons (ev_g hg rfl) (evs_cons (ev_g hg rfl) evs_nil)) (c_refSubs p hb hif _) List.nodup_nil)) ?_
    refine calm_g (wT rfl rfl rfl rfl) rfl (fun hg => (eff_call [] rfl rfl (evs_cons (ev_g hg rfl) (evs_cons (ev_g hg rfl) evs_nil)) (c_sameT _ _ (by have := subsL_len p (nameP p k); unfold small; omega)) List.nodup_nil)) ?_
    refine calm_e (w0 rfl) rfl (eff_and rfl rfl rfl (fun h => h)) ?_
    refine calm_e (w0 rfl) rfl (eff_move rfl rfl) ?_
    refine calm_gload 0 (wT rfl rfl rfl rfl) rfl rfl (fun hg => rfl) rfl rfl (ld_agg (Nat.le_of_ble_eq_true rfl)) ?_
    refine calm_g (wT rfl rfl rfl rfl) rfl (fun hg => (eff_move rfl rfl)) ?_
    refine calm_g (wT rfl rfl rfl rfl) rfl (fun hg => (eff_move rfl rfl)) ?_
    refine calm_g (wT rfl rfl rfl rfl) rfl (fun hg => (eff_call [] rfl rfl (evs_cons (ev_g hg rfl) (evs_cons (ev_g hg rfl) (evs_cons (ev_g hg rfl) evs_nil))) (c_sub p hb hif _ _) List.nodup_nil)) ?_
    refine calm_gload 0 (wT rfl rfl rfl rfl) rfl rfl (fun hg => rfl) rfl rfl (ld_agg (Nat.le_of_ble_eq_true rfl)) ?_
    refine calm_g (wT rfl rfl rfl rfl) rfl (fun hg => (eff_move rfl rfl)) ?_
    refine calm_g (wT rfl rfl rfl rfl) rfl (fun hg => (eff_move rfl rfl)) ?_
    refine calm_g (wT rfl rfl rfl rfl) rfl (fun hg => (eff_call [] rfl rfl (evs_cons (ev_g hg rfl) (evs_cons (ev_g hg rfl) (evs_cons (ev_g hg rfl) evs_nil))) (c_refSub p hb hif _ _) List.nodup_nil)) ?_
    refine calm_g (wT rfl rfl rfl rfl) rfl (fun hg => (eff_beq rfl (ev_g hg rfl) (ev_g hg rfl) rfl)) ?_
    refine calm_e (w0 rfl) rfl (eff_and rfl rfl rfl (fun h => h)) ?_
    refine calm_e (w0 rfl) rfl (eff_move rfl rfl) ?_
    refine calm_gload 0 (wT rfl rfl rfl rfl) rfl rfl (fun hg => rfl) rfl rfl (ld_agg (Nat.le_of_ble_eq_true rfl)) ?_
    refine calm_g (wT rfl rfl rfl rfl) rfl (fun hg => (eff_move rfl rfl)) ?_
    refine calm_g (wT rfl rfl rfl rfl) rfl (fun hg => (eff_move rfl rfl)) ?_
    refine calm_g (wT rfl rfl rfl rfl) rfl (fun hg => (eff_call [] rfl rfl (evs_cons (ev_g hg rfl) (evs_cons (ev_g hg rfl) (evs_cons (ev_g hg rfl) evs_nil))) (c_common p hb _ _) List.nodup_nil)) ?_
    refine calm_gload 0 (wT rfl rfl rfl rfl) rfl rfl (fun hg => rfl) rfl rfl (ld_agg (Nat.le_of_ble_eq_true rfl)) ?_
    refine calm_g (wT rfl rfl rfl rfl) rfl (fun hg => (eff_move rfl rfl)) ?_
    refine calm_g (wT rfl rfl rfl rfl) rfl (fun hg => (eff_move rfl rfl)) ?_
    refine calm_g (wT rfl rfl rfl rfl) rfl (fun hg => (eff_call [] rfl rfl (evs_cons (ev_g hg rfl) (evs_cons (ev_g hg rfl) (evs_cons (ev_g hg rfl) evs_nil))) (c_refCommon p hb _ _) List.nodup_nil)) ?_
    refine calm_g (wT rfl rfl rfl rfl) rfl (fun hg => (eff_to (y := bA (beqS (com p (nameP p k) (nameP p m)) (com p (nameP p k) (nameP p m)))) (eff_scmp rfl (ev_g hg rfl) (ev_g hg rfl) rfl) (rfl))) ?_
    refine calm_e (w0 rfl) rfl (eff_and rfl rfl rfl (fun h => h)) ?_
    refine calm_e (w0 rfl) rfl (eff_move rfl rfl) ?_
    refine calm_gload 0 (wT rfl rfl rfl rfl) rfl rfl (fun hg => rfl) rfl rfl (ld_agg (Nat.le_of_ble_eq_true rfl)) ?_
    refine calm_g (wT rfl rfl rfl rfl) rfl (fun hg => (eff_move rfl rfl)) ?_
    refine calm_g (wT rfl rfl rfl rfl) rfl (fun hg => (eff_call [] rfl rfl (evs_cons (ev_g hg rfl) (evs_cons (ev_g hg rfl) evs_nil)) (c_conc p hb _) List.nodup_nil)) ?_
    refine calm_gload 0 (wT rfl rfl rfl rfl) rfl rfl (fun hg => rfl) rfl rfl (ld_agg (Nat.le_of_ble_eq_true rfl)) ?_
    refine calm_g (wT rfl rfl rfl rfl) rfl (fun hg => (eff_move rfl rfl)) ?_
    refine calm_g (wT rfl rfl rfl rfl) rfl (fun hg => (eff_call [] rfl rfl (evs_cons (ev_g hg rfl) (evs_cons (ev_g hg rfl) evs_nil)) (c_refConc p hb _) List.nodup_nil)) ?_
    refine calm_g (wT rfl rfl rfl rfl) rfl (fun hg => (eff_beq rfl (ev_g hg rfl) (ev_g hg rfl) rfl)) ?_
    refine calm_e (w0 rfl) rfl (eff_and rfl rfl rfl (fun h => h)) ?_
    refine calm_e (w0 rfl) rfl (eff_assign rfl rfl) ?_
    refine .done ?_
    refine aops_nil ?_
    refine awp_ret ?_
    exact retq rfl (res_tmp rfl res_nil) (gb (by simp [sameT_self, beqS_refl]))

theorem c_hierChecks (p : Prog) (hp : p.ok) : ACalls Try.prog 7 [p.av] [] (Gives (bA true)) := by
  refine acalls_of (n := 31) Try.func7 rfl (by decide +kernel) rfl rfl ?_
  refine awp_seq ?_
  refine awp_region ?_
  refine aops_n (w0 rfl) rfl (fun id => eff_box id rfl rfl rfl rfl rfl) (fun id1 => ?_)
  refine aops_e (w0 rfl) rfl (eff_assign rfl rfl) ?_
  refine aops_nil ?_
  refine awp_seq ?_
  refine awp_seq ?_
  refine awp_region ?_
  refine aops_load_ptr 0 (w0 rfl) rfl rfl rfl rfl rfl (ld_agg (Nat.le_of_ble_eq_true rfl)) ?_
  refine aops_e (w0 rfl) rfl (eff_call [] rfl rfl rfl (c_great p hp) List.nodup_nil) ?_
  refine aops_nil ?_
  refine awp_cond rfl ?_ ?_
  · intro hc
    refine awp_seq ?_
    refine awp_region ?_
    refine aops_e (w0 rfl) rfl (eff_call [] rfl rfl rfl c_live11 List.nodup_nil) ?_
    refine aops_e (w0 rfl) rfl (eff_assign rfl rfl) ?_
    refine aops_nil ?_
    refine awp_ret ?_
    exact retq rfl (res_tmp rfl res_nil) (gb rfl)
  · intro hc
    have hq : greatP p = false := hc
    have hb := greatP_len hq
    have hif := greatP_if hq
    have hbs : small p.classes.length := by unfold small; omega
    refine awp_skip ?_
    refine awp_seq ?_
    refine awp_region ?_
    refine aops_load_ptr 0 (w0 rfl) rfl rfl rfl rfl rfl (ld_agg (Nat.le_of_ble_eq_true rfl)) ?_
    refine aops_e (w0 rfl) rfl (eff_call [] rfl rfl rfl (c_check p hb hif) List.nodup_nil) ?_
    refine aops_e (w0 rfl) rfl (eff_move rfl rfl) ?_
    refine aops_e (w0 rfl) rfl (eff_extract rfl rfl rfl) ?_
    refine aops_e (w0 rfl) rfl (eff_extract rfl rfl rfl) ?_
    refine aops_e (w0 rfl) rfl (eff_assign rfl rfl) ?_
    refine aops_e (w0 rfl) rfl (eff_assign rfl rfl) ?_
    refine aops_nil ?_
    refine awp_seq ?_
    refine awp_region ?_
    refine aops_load_ptr 0 (w0 rfl) rfl rfl rfl rfl rfl (ld_agg (Nat.le_of_ble_eq_true rfl)) ?_
    refine aops_e (w0 rfl) rfl (eff_call [] rfl rfl rfl (c_refCheck p hb hif) List.nodup_nil) ?_
    refine aops_e (w0 rfl) rfl (eff_move rfl rfl) ?_
    refine aops_e (w0 rfl) rfl (eff_extract rfl rfl rfl) ?_
    refine aops_e (w0 rfl) rfl (eff_extract rfl rfl rfl) ?_
    refine aops_e (w0 rfl) rfl (eff_assign rfl rfl) ?_
    refine aops_e (w0 rfl) rfl (eff_assign rfl rfl) ?_
    refine aops_nil ?_
    refine awp_seq ?_
    refine awp_region ?_
    refine aops_e (w0 rfl) rfl (eff_call [] rfl rfl rfl c_live11 List.nodup_nil) ?_
    refine aops_e (w0 rfl) rfl (eff_move rfl rfl) ?_
    refine aops_g (wT rfl rfl rfl rfl) rfl (fun hg => (eff_move rfl rfl)) ?_
    refine aops_g (wT rfl rfl rfl rfl) rfl (fun hg => (eff_move rfl rfl)) ?_
    refine aops_g (wT rfl rfl rfl rfl) rfl (fun hg => (eff_icmp rfl (ev_g hg rfl) (ev_g hg rfl) rfl)) ?_
    refine aops_e (w0 rfl) rfl (eff_and rfl rfl rfl (fun h => h)) ?_
    refine aops_e (w0 rfl) rfl (eff_move rfl rfl) ?_
    refine aops_g (wT rfl rfl rfl rfl) rfl (fun hg => (eff_move rfl rfl)) ?_
    refine aops_g (wT rfl rfl rfl rfl) rfl (fun hg => (eff_move rfl rfl)) ?_
    refine aops_g (wT rfl rfl rfl rfl) rfl (fun hg => (eff_scmp rfl (ev_g hg rfl) (ev_g hg rfl) rfl)) ?_
    refine aops_e (w0 rfl) rfl (eff_and rfl rfl rfl (fun h => h)) ?_
    refine aops_e (w0 rfl) rfl (eff_assign rfl rfl) ?_
    refine aops_nil ?_
    refine awp_ret ?_
    exact retq rfl (res_tmp rfl res_nil) (gb (by simp [beqS_refl]))

theorem c_hierOrder (p : Prog) (hp : p.ok) (k : Int) (m : Int) (n : Int) (hk : 0 ≤ k ∧ k ≤ 255) (hm : 0 ≤ m ∧ m ≤ 255) (hn : 0 ≤ n ∧ n ≤ 255) : ACalls Try.prog 8 [p.av, .agg [uA k, uA m, uA n]] [] (Gives (bA true)) := by
  refine acalls_of (n := 74) Try.func8 rfl (by decide +kernel) rfl rfl ?_
  refine awp_seq ?_
  refine awp_region ?_
  refine aops_n (w0 rfl) rfl (fun id => eff_box id rfl rfl rfl rfl rfl) (fun id1 => ?_)
  refine aops_n (w0 rfl) rfl (fun id => eff_box id rfl rfl rfl rfl rfl) (fun id2 => ?_)
  refine aops_e (w0 rfl) rfl (eff_assign rfl rfl) ?_
  refine aops_nil ?_
  refine awp_seq ?_
  refine awp_seq ?_
  refine awp_region ?_
  refine aops_load_ptr 1 (w0 rfl) rfl rfl rfl rfl rfl (ld_agg (Nat.le_of_ble_eq_true rfl)) ?_
  refine aops_e (w0 rfl) rfl (eff_call [] rfl rfl rfl (c_great p hp) List.nodup_nil) ?_
  refine aops_nil ?_
  refine awp_cond rfl ?_ ?_
  · intro hc
    refine awp_seq ?_
    refine awp_region ?_
    refine aops_e (w0 rfl) rfl (eff_call [] rfl rfl rfl c_live11 List.nodup_nil) ?_
    refine aops_e (w0 rfl) rfl (eff_assign rfl rfl) ?_
    refine aops_nil ?_
    refine awp_ret ?_
    exact retq rfl (res_tmp rfl res_nil) (gb rfl)
  · intro hc
    have hq : greatP p = false := hc
    have hb := greatP_len hq
    have hif := greatP_if hq
    have hbs : small p.classes.length := by unfold small; omega
    refine awp_skip ?_
    refine awp_seq ?_
    refine awp_drawM [0, 0, 2, 7, 0, 0, 32, 127, 0, 0, 512, 2047, 4095, 8191, 16383] 15 rfl (by kernel_rfl) ?_
    refine calm_load_ptr 1 (w0 rfl) rfl rfl rfl rfl rfl (ld_agg (Nat.le_of_ble_eq_true rfl)) ?_
    refine calm_e (w0 rfl) rfl (eff_indexAddr_arr rfl rfl rfl (by first | omega | (simp only [List.length_map]; omega)) (by first | omega | (simp only [List.length_map]; omega)) rfl) ?_
    refine calm_load_ptr 0 (w0 rfl) rfl rfl rfl rfl rfl ld_one ?_
    refine calm_e (w0 rfl) rfl (eff_call [] rfl rfl rfl (c_name p hbs k hk.1 hk.2) List.nodup_nil) ?_
    refine calm_load_ptr 1 (w0 rfl) rfl rfl rfl rfl rfl (ld_agg (Nat.le_of_ble_eq_true rfl)) ?_
    refine calm_e (w0 rfl) rfl (eff_indexAddr_arr rfl rfl rfl (by first | omega | (simp only [List.length_map]; omega)) (by first | omega | (simp only [List.length_map]; omega)) rfl) ?_
    refine calm_load_ptr 0 (w0 rfl) rfl rfl rfl rfl rfl ld_one ?_
    refine calm_e (w0 rfl) rfl (eff_call [] rfl rfl rfl (c_name p hbs m hm.1 hm.2) List.nodup_nil) ?_
    refine calm_load_ptr 1 (w0 rfl) rfl rfl rfl rfl rfl (ld_agg (Nat.le_of_ble_eq_true rfl)) ?_
    refine calm_e (w0 rfl) rfl (eff_indexAddr_arr rfl rfl rfl (by first | omega | (simp only [List.length_map]; omega)) (by first | omega | (simp only [List.length_map]; omega)) rfl) ?_
    refine calm_load_ptr 0 (w0 rfl) rfl rfl rfl rfl rfl ld_one ?_
    refine calm_e (w0 rfl) rfl (eff_call [] rfl rfl rfl (c_name p hbs n hn.1 hn.2) List.nodup_nil) ?_
    refine calm_e (w0 rfl) rfl (eff_assign rfl rfl) ?_
    refine calm_e (w0 rfl) rfl (eff_assign rfl rfl) ?_
    refine calm_e (w0 rfl) rfl (eff_assign rfl rfl) ?_
    refine .done ?_
    refine aops_nil ?_
    refine awp_seq ?_
    refine awp_region ?_
    refine aops_load_ptr 1 (w0 rfl) rfl rfl rfl rfl rfl (ld_agg (Nat.le_of_ble_eq_true rfl)) ?_
    refine aops_e (w0 rfl) rfl (eff_call [] rfl rfl rfl (c_check p hb hif) List.nodup_nil) ?_
    refine aops_e (w0 rfl) rfl (eff_move rfl rfl) ?_
    refine aops_e (w0 rfl) rfl (eff_extract rfl rfl rfl) ?_
    refine aops_e (w0 rfl) rfl (eff_extract rfl rfl rfl) ?_
    refine aops_e (w0 rfl) rfl (eff_assign rfl rfl) ?_
    refine aops_e (w0 rfl) rfl (eff_assign rfl rfl) ?_
    refine aops_nil ?_
    refine awp_seq ?_
    refine awp_region ?_
    refine aops_e (w0 rfl) rfl (eff_call [] rfl rfl rfl c_live11 List.nodup_nil) ?_
    refine aops_e (w0 rfl) rfl (eff_move rfl rfl) ?_
    refine aops_gload 1 (wT rfl rfl rfl rfl) rfl rfl (fun hg => rfl) rfl rfl (ld_agg (Nat.le_of_ble_eq_true rfl)) ?_
    refine aops_g (wT rfl rfl rfl rfl) rfl (fun hg => (eff_move rfl rfl)) ?_
    refine aops_g (wT rfl rfl rfl rfl) rfl (fun hg => (eff_move rfl rfl)) ?_
    refine aops_g (wT rfl rfl rfl rfl) rfl (fun hg => (eff_call [] rfl rfl (evs_cons (ev_g hg rfl) (evs_cons (ev_g hg rfl) (evs_cons (ev_g hg rfl) evs_nil))) (c_sub p hb hif (nameP p k) (nameP p m)) List.nodup_nil)) ?_
    refine aops_g (wT rfl rfl rfl rfl) rfl (fun hg => (eff_not rfl (ev_g hg rfl))) ?_
    refine aops_g (wT rfl rfl rfl rfl) rfl (fun hg => (eff_move rfl (ev_g hg rfl))) ?_
    refine aops_gload 1 (wFg rfl rfl rfl rfl) rfl rfl (fun hg => rfl) rfl rfl (ld_agg (Nat.le_of_ble_eq_true rfl)) ?_
    refine aops_g (wFg rfl rfl rfl rfl) rfl (fun hg => (eff_move rfl rfl)) ?_
    refine aops_g (wFg rfl rfl rfl rfl) rfl (fun hg => (eff_move rfl rfl)) ?_
    refine aops_g (wFg rfl rfl rfl rfl) rfl (fun hg => (eff_call [] rfl rfl (evs_cons (ev_g hg rfl) (evs_cons (ev_g hg rfl) (evs_cons (ev_g hg rfl) evs_nil))) (c_sub p hb hif (nameP p m) (nameP p n)) List.nodup_nil)) ?_
    refine aops_g (wFg rfl rfl rfl rfl) rfl (fun hg => (eff_not rfl (ev_g hg rfl))) ?_
    refine aops_g (wT rfl rfl rfl rfl) rfl (fun hg => (eff_or rfl (ev_g hg rfl) rfl (fun h => by first | (simp [h, hg]; done) | (simp_all; done)))) ?_
    refine aops_g (wT rfl rfl rfl rfl) rfl (fun hg => (eff_move rfl (ev_g hg rfl))) ?_
    refine aops_gload 1 (wFg rfl rfl rfl rfl) rfl rfl (fun hg => rfl) rfl rfl (ld_agg (Nat.le_of_ble_eq_true rfl)) ?_
    refine aops_g (wFg rfl rfl rfl rfl) rfl (fun hg => (eff_move rfl rfl)) ?_
    refine aops_g (wFg rfl rfl rfl rfl) rfl (fun hg => (eff_move rfl rfl)) ?_
    refine aops_g (wFg rfl rfl rfl rfl) rfl (fun hg => (eff_call [] rfl rfl (evs_cons (ev_g hg rfl) (evs_cons (ev_g hg rfl) (evs_cons (ev_g hg rfl) evs_nil))) (c_sub p hb hif (nameP p k) (nameP p n)) List.nodup_nil)) ?_
    refine aops_g (wT rfl rfl rfl rfl) rfl (fun hg => (eff_or rfl (ev_g hg rfl) rfl (fun h => by first | (simp [h, hg]; done) | (simp_all; done)))) ?_
    refine aops_e (w0 rfl) rfl (eff_and rfl rfl rfl (fun h => h)) ?_
    refine aops_e (w0 rfl) rfl (eff_move rfl rfl) ?_
    refine aops_g (wT rfl rfl rfl rfl) rfl (fun hg => (eff_move rfl rfl)) ?_
    refine aops_g (wT rfl rfl rfl rfl) rfl (fun hg => (eff_icmp rfl (ev_g hg rfl) rfl rfl)) ?_
    refine aops_g (wT rfl rfl rfl rfl) rfl (fun hg => (eff_move rfl (ev_g hg rfl))) ?_
    refine aops_g (wFg rfl rfl rfl rfl) rfl (fun hg => (eff_move rfl rfl)) ?_
    refine aops_g (wFg rfl rfl rfl rfl) rfl (fun hg => (eff_move rfl rfl)) ?_
    refine aops_g (wFg rfl rfl rfl rfl) rfl (fun hg => (eff_scmp rfl (ev_g hg rfl) (ev_g hg rfl) rfl)) ?_
    refine aops_g (wT rfl rfl rfl rfl) rfl (fun hg => (eff_or rfl (ev_g hg rfl) rfl (fun h => by first | (simp [h, hg]; done) | (simp_all; done)))) ?_
    refine aops_g (wT rfl rfl rfl rfl) rfl (fun hg => (eff_move rfl (ev_g hg rfl))) ?_
    refine aops_gload 1 (wFg rfl rfl rfl rfl) rfl rfl (fun hg => rfl) rfl rfl (ld_agg (Nat.le_of_ble_eq_true rfl)) ?_
    refine aops_g (wFg rfl rfl rfl rfl) rfl (fun hg => (eff_move rfl rfl)) ?_
    refine aops_g (wFg rfl rfl rfl rfl) rfl (fun hg => (eff_move rfl rfl)) ?_
    refine aops_g (wFg rfl rfl rfl rfl) rfl (fun hg => (eff_call [] rfl rfl (evs_cons (ev_g hg rfl) (evs_cons (ev_g hg rfl) (evs_cons (ev_g hg rfl) evs_nil))) (c_sub p hb hif (nameP p k) (nameP p m)) List.nodup_nil)) ?_
    refine aops_g (wFg rfl rfl rfl rfl) rfl (fun hg => (eff_not rfl (ev_g hg rfl))) ?_
    refine aops_g (wT rfl rfl rfl rfl) rfl (fun hg => (eff_or rfl (ev_g hg rfl) rfl (fun h => by first | (simp [h, hg]; done) | (simp_all; done)))) ?_
    refine aops_g (wT rfl rfl rfl rfl) rfl (fun hg => (eff_move rfl (ev_g hg rfl))) ?_
    refine aops_gload 1 (wFg rfl rfl rfl rfl) rfl rfl (fun hg => rfl) rfl rfl (ld_agg (Nat.le_of_ble_eq_true rfl)) ?_
    refine aops_g (wFg rfl rfl rfl rfl) rfl (fun hg => (eff_move rfl rfl)) ?_
    refine aops_g (wFg rfl rfl rfl rfl) rfl (fun hg => (eff_move rfl rfl)) ?_
    refine aops_g (wFg rfl rfl rfl rfl) rfl (fun hg => (eff_call [] rfl rfl (evs_cons (ev_g hg rfl) (evs_cons (ev_g hg rfl) (evs_cons (ev_g hg rfl) evs_nil))) (c_sub p hb hif (nameP p m) (nameP p k)) List.nodup_nil)) ?_
    refine aops_g (wFg rfl rfl rfl rfl) rfl (fun hg => (eff_not rfl (ev_g hg rfl))) ?_
    refine aops_g (wT rfl rfl rfl rfl) rfl (fun hg => (eff_or rfl (ev_g hg rfl) rfl (fun h => by first | (simp [h, hg]; done) | (simp_all; done)))) ?_
    refine aops_e (w0 rfl) rfl (eff_and rfl rfl rfl (fun h => h)) ?_
    refine aops_e (w0 rfl) rfl (eff_assign rfl rfl) ?_
    refine aops_nil ?_
    refine awp_ret ?_
    exact retq rfl (res_tmp rfl res_nil) (gb (law_order11 (nameP p k) (nameP p m) (nameP p n)))

end Go.Sx
