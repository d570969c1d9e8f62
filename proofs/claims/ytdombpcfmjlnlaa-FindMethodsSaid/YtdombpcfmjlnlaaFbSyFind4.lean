/- Layer 12's reference, walked: the first class of some that declares a method. -/
import Derived.Test.YtdombpcfmjlnlaaFbSyFind2
import Derived.Test.YtdombpcfmjlnlaaFbSxDrawV
set_option linter.unusedVariables false
set_option linter.unusedSimpArgs false
namespace Go.Sx
open Go Go.Proofs

theorem c_first (p : Prog) (hp : p.ok) (l : List Str) (hl : small l.length) (m : MRef) : ACalls Try.prog 111 [p.av, row1 sA l, m.av] [] (Gives (.tup [((firstP p l m).getD zMR).av, (((firstP p l m).bind (getP p)).getD zMt).av, bA (firstP p l m).isSome])) := by
  have hbs := hp.classes.1
  simp only [small] at hl
  refine acalls_of (n := 34) Try.func111 rfl (by decide +kernel) rfl rfl ?_
  refine awp_seq ?_
  refine awp_region ?_
  refine aops_n (w0 rfl) rfl (fun id => eff_box id rfl rfl rfl rfl rfl) (fun id1 => ?_)
  refine aops_n (w0 rfl) rfl (fun id => eff_box id rfl rfl rfl rfl rfl) (fun id2 => ?_)
  refine aops_n (w0 rfl) rfl (fun id => eff_alloc id rfl rfl rfl) (fun id3 => ?_)
  refine aops_n (w0 rfl) rfl (fun id => eff_alloc id rfl rfl rfl) (fun id4 => ?_)
  refine aops_e (w0 rfl) rfl (eff_assign rfl rfl) ?_
  refine aops_nil ?_
  refine awp_seq ?_
  refine awp_seq ?_
  refine awp_region ?_
  refine aops_e (w0 rfl) rfl (eff_assign rfl rfl) ?_
  refine aops_nil ?_
  refine awp_block ?_
  refine awp_loopJ (α := Str × Nat) (fun x => ⟨[(9, iA x.2), (1, row1 sA l), (3, .ptr id1 5 0 0), (5, .ptr id2 3 0 0), (6, .ptr id3 3 0 0), (7, .ptr id4 6 0 0)], [(id4, .rows 74 6 [[sA zS, sA zS, bA false, bA false, iA 0, .v (.slice none 0 0)]]), (id3, .rows 37 3 [[sA zS, sA zS, sA zS]]), (id2, .rows 37 3 [[sA x.1, sA m.name, sA m.desc]]), (id1, .rows 39 5 [p.cells])], [], 34⟩) (fun x => x.2 ≤ l.length ∧ (l.drop x.2).find? (fun s => (getP p ⟨s, m.name, m.desc⟩).isSome) = l.find? (fun s => (getP p ⟨s, m.name, m.desc⟩).isSome)) (fun x => l.length - x.2) (m.cls, 0) ⟨Nat.zero_le _, rfl⟩ ?_ ?_
  · exact weak_pick [0, 1, 2, 3] ⟨rfl, rfl, rfl, rfl, rfl, rfl, trivial⟩ rfl (by decide) rfl rfl
  rintro x hJ
  refine awp_seq ?_
  refine awp_seq ?_
  refine awp_region ?_
  refine aops_e (w0 rfl) rfl (eff_move rfl rfl) ?_
  refine aops_e (w0 rfl) rfl (eff_move rfl rfl) ?_
  refine aops_e (w0 rfl) rfl (eff_len rfl rfl rfl rfl) ?_
  refine aops_e (w0 rfl) rfl (eff_icmp rfl rfl rfl rfl) ?_
  refine aops_nil ?_
  refine awp_cond rfl ?_ ?_
  · intro hc
    have hi : x.2 < l.length := by simpa using hc
    refine awp_skip ?_
    refine awp_seq ?_
    refine awp_block ?_
    refine awp_seq ?_
    refine awp_region ?_
    refine aops_e (w0 rfl) rfl (eff_move rfl rfl) ?_
    refine aops_e (w0 rfl) rfl (eff_move rfl rfl) ?_
    refine aops_e (w0 rfl) rfl (eff_indexAddr_lst rfl rfl rfl (len_map (fun _ => rfl)) (by first | omega | (simp only [List.length_map]; omega)) (by first | omega | (simp only [List.length_map]; omega))) ?_
    refine aops_e (w0 rfl) rfl (eff_loadE rfl rfl (map_get (by first | assumption | omega)) ld_one) ?_
    refine aops_e (w0 rfl) rfl (eff_fieldAddr rfl rfl rfl) ?_
    refine aops_store 2 (w0 rfl) rfl rfl rfl rfl rfl rfl rfl rfl rfl ?_
    refine aops_nil ?_
    refine awp_seq ?_
    refine awp_region ?_
    refine aops_load_ptr 3 (w0 rfl) rfl rfl rfl rfl rfl (ld_agg (Nat.le_of_ble_eq_true rfl)) ?_
    refine aops_load_ptr 2 (w0 rfl) rfl rfl rfl rfl rfl (ld_agg (Nat.le_of_ble_eq_true rfl)) ?_
    refine aops_e (w0 rfl) rfl (eff_call [] rfl rfl rfl (c_refGet p hp ⟨l[x.2], m.name, m.desc⟩) List.nodup_nil) ?_
    refine aops_e (w0 rfl) rfl (eff_move rfl rfl) ?_
    refine aops_e (w0 rfl) rfl (eff_extract rfl rfl rfl) ?_
    refine aops_e (w0 rfl) rfl (eff_extract rfl rfl rfl) ?_
    refine aops_n (w0 rfl) rfl (fun id => eff_alloc id rfl rfl rfl) (fun id5 => ?_)
    refine aops_store 0 (w0 rfl) rfl rfl rfl rfl rfl rfl rfl rfl rfl ?_
    refine aops_e (w0 rfl) rfl (eff_assign rfl rfl) ?_
    refine aops_nil ?_
    refine awp_seq ?_
    refine awp_region ?_
    refine aops_e (w0 rfl) rfl (eff_move rfl rfl) ?_
    refine aops_nil ?_
    refine awp_cond rfl ?_ ?_
    · intro hc
      have hq : (fun s => (getP p ⟨s, m.name, m.desc⟩).isSome) l[x.2] = true := hc
      refine awp_seq ?_
      refine awp_drawV [0, 0, 1, 7, 15] [2, 3] [0] rfl (by kernel_rfl) ?_
      refine vcalm_load_ptr 3 (w0 rfl) rfl rfl rfl rfl rfl (ld_agg (Nat.le_of_ble_eq_true rfl)) rfl rfl ?_
      refine vcalm_look_ptr 0 0 (w0 rfl) rfl rfl rfl rfl rfl rfl (ld_agg (Nat.le_of_ble_eq_true rfl)) rfl rfl ?_
      refine vcalm_store 2 [0] (w0 rfl) rfl rfl rfl rfl rfl rfl rfl rfl rfl rfl ⟨rfl, trivial⟩ ?_
      refine vcalm_store 1 [0] (w0 rfl) rfl rfl rfl rfl rfl rfl rfl rfl rfl rfl ⟨rfl, trivial⟩ ?_
      refine vcalm_e (w0 rfl) rfl (eff_assign rfl rfl) rfl ?_
      refine .done ?_
      refine awp_ret ?_
      exact retq rfl (res_cell 2 rfl rfl rfl (ld_agg (Nat.le_of_ble_eq_true rfl)) (res_cell 1 rfl rfl rfl (ld_agg (Nat.le_of_ble_eq_true rfl)) (res_tmp rfl res_nil))) (gvr (by rw [firstP_some (find_hit hJ.2 hi hq)]; rfl))
    · intro hc
      have hq : (fun s => (getP p ⟨s, m.name, m.desc⟩).isSome) l[x.2] = false := hc
      refine awp_skip ?_
      refine awp_region ?_
      refine aops_e (w0 rfl) rfl (eff_move rfl rfl) ?_
      refine aops_e (w0 rfl) rfl (eff_arith rfl rfl rfl (arith_add (by first | omega | (simp only [List.length_map]; omega)))) ?_
      refine aops_e (w0 rfl) rfl (eff_assign rfl rfl) ?_
      refine aops_nil ?_
      refine ⟨(l[x.2], x.2 + 1), ⟨hi, find_next hJ.2 hi hq⟩, (by show l.length - (x.2 + 1) < l.length - x.2; omega), ?_⟩
      exact weak_pick [1, 2, 3, 4] ⟨rfl, rfl, rfl, rfl, rfl, rfl, trivial⟩ rfl (by decide) rfl rfl
  · intro hc
    have hi : ¬ x.2 < l.length := by simpa using hc
    refine awp_exit ?_
    refine awp_seq ?_
    refine awp_region ?_
    refine aops_e (w0 rfl) rfl (eff_build rfl rfl rfl) ?_
    refine aops_e (w0 rfl) rfl (eff_sub (y := zMt.av) (eff_build rfl rfl rfl) (.agg (by repeat' (first | exact .nil | refine .keep ?_ | refine .z ?_)))) ?_
    refine aops_store 1 (w0 rfl) rfl rfl rfl rfl rfl rfl rfl rfl rfl ?_
    refine aops_store 0 (w0 rfl) rfl rfl rfl rfl rfl rfl rfl rfl rfl ?_
    refine aops_e (w0 rfl) rfl (eff_assign rfl rfl) ?_
    refine aops_nil ?_
    refine awp_ret ?_
    exact retq rfl (res_cell 1 rfl rfl rfl (ld_agg (Nat.le_of_ble_eq_true rfl)) (res_cell 0 rfl rfl rfl (ld_agg (Nat.le_of_ble_eq_true rfl)) (res_tmp rfl res_nil))) (gvr (by rw [firstP_none (find_end hJ.2 hi)]; rfl))

theorem c_first0 (p : Prog) (hp : p.ok) (l : List Str) (hl : small l.length) (m : MRef) (h : (l.find? (fun s => (getP p ⟨s, m.name, m.desc⟩).isSome)) = none) : ACalls Try.prog 111 [p.av, row1 sA l, m.av] [] (Gives (.tup [zMR.av, zMt.av, bA false])) := by have := c_first p hp l hl m; rw [firstP_none h] at this; exact this
theorem c_first1 (p : Prog) (hp : p.ok) (l : List Str) (hl : small l.length) (m : MRef) {s : Str} {x : Meth} (h : (l.find? (fun s => (getP p ⟨s, m.name, m.desc⟩).isSome)) = some s) (h2 : getP p ⟨s, m.name, m.desc⟩ = some x) : ACalls Try.prog 111 [p.av, row1 sA l, m.av] [] (Gives (.tup [MRef.av ⟨s, m.name, m.desc⟩, x.av, bA true])) := by
  have := c_first p hp l hl m
  rw [firstP_some h] at this
  simp only [Option.bind_some, Option.getD_some, Option.isSome_some, h2] at this
  exact this

theorem c_refStatic (p : Prog) (hp : p.ok) (hb : p.classes.length ≤ 1000) (m : MRef) : ACalls Try.prog 78 [p.av, m.av] [] (Gives (.tup [((declP p (supers p m.cls) m mayS).getD zMR).av, bA (declP p (supers p m.cls) m mayS).isSome])) := by
  refine acalls_of (n := 29) Try.func78 rfl (by decide +kernel) rfl rfl ?_
  refine awp_seq ?_
  refine awp_region ?_
  refine aops_n (w0 rfl) rfl (fun id => eff_box id rfl rfl rfl rfl rfl) (fun id1 => ?_)
  refine aops_n (w0 rfl) rfl (fun id => eff_box id rfl rfl rfl rfl rfl) (fun id2 => ?_)
  refine aops_n (w0 rfl) rfl (fun id => eff_alloc id rfl rfl rfl) (fun id3 => ?_)
  refine aops_e (w0 rfl) rfl (eff_assign rfl rfl) ?_
  refine aops_nil ?_
  refine awp_seq ?_
  refine decl_elim p (supers p m.cls) m (fun h1 => ?_) (fun s0 x0 h1 h2 => ?_)
  · skip
    refine awp_drawV [0, 0, 0, 4, 14, 0, 63, 127, 255, 255, 255, 0, 0, 6655, 15359, 32767] [13, 14] [0, 1, 3, 5, 11, 12] rfl (by kernel_rfl) ?_
    refine vcalm_load_ptr 2 (w0 rfl) rfl rfl rfl rfl rfl (ld_agg (Nat.le_of_ble_eq_true rfl)) rfl rfl ?_
    refine vcalm_load_ptr 2 (w0 rfl) rfl rfl rfl rfl rfl (ld_agg (Nat.le_of_ble_eq_true rfl)) rfl rfl ?_
    refine vcalm_e (w0 rfl) rfl (eff_fieldAddr rfl rfl rfl) rfl ?_
    refine vcalm_load_ptr 1 (w0 rfl) rfl rfl rfl rfl rfl ld_one rfl rfl ?_
    refine vcalm_e (w0 rfl) rfl (eff_call [] rfl rfl rfl (c_refSupers p hb m.cls) List.nodup_nil) rfl ?_
    refine vcalm_load_ptr 1 (w0 rfl) rfl rfl rfl rfl rfl (ld_agg (Nat.le_of_ble_eq_true rfl)) rfl rfl ?_
    refine vcalm_e (w0 rfl) rfl (eff_call [] rfl rfl rfl (c_first0 p hp (supers p m.cls) (by have := supers_len p m.cls; unfold small; omega) m h1) List.nodup_nil) rfl ?_
    refine vcalm_e (w0 rfl) rfl (eff_move rfl rfl) rfl ?_
    refine vcalm_e (w0 rfl) rfl (eff_extract rfl rfl rfl) rfl ?_
    refine vcalm_e (w0 rfl) rfl (eff_extract rfl rfl rfl) rfl ?_
    refine vcalm_e (w0 rfl) rfl (eff_extract rfl rfl rfl) rfl ?_
    refine vcalm_n (w0 rfl) rfl (fun id => eff_alloc id rfl rfl rfl) rfl rfl (fun id4 => ?_)
    refine vcalm_n (w0 rfl) rfl (fun id => eff_alloc id rfl rfl rfl) rfl rfl (fun id5 => ?_)
    refine vcalm_store 1 [] (w0 rfl) rfl rfl rfl rfl rfl rfl rfl rfl rfl rfl trivial ?_
    refine vcalm_store 0 [] (w0 rfl) rfl rfl rfl rfl rfl rfl rfl rfl rfl rfl trivial ?_
    refine vcalm_e (w0 rfl) rfl (eff_assign rfl rfl) rfl ?_
    refine .done ?_
    refine awp_seq ?_
    refine awp_seq ?_
    refine awp_region ?_
    refine aops_e (w0 rfl) rfl (eff_move rfl rfl) ?_
    refine aops_e (w0 rfl) rfl (eff_not rfl rfl) ?_
    refine aops_e (w0 rfl) rfl (eff_move rfl rfl) ?_
    refine aops_g (wF rfl rfl rfl rfl) rfl (fun hg => (eff_fieldAddr rfl rfl rfl)) ?_
    refine aops_gload 0 (wF rfl rfl rfl rfl) rfl rfl (fun hg => (ev_g hg rfl)) rfl rfl ld_one ?_
    refine aops_g (wF rfl rfl rfl rfl) rfl (fun hg => (eff_not rfl (ev_g hg rfl))) ?_
    refine aops_e (w0 rfl) rfl (eff_or rfl rfl rfl (fun h => by rw [h]; rfl)) ?_
    refine aops_nil ?_
    refine awp_cond rfl ?_ ?_
    · intro hc
      refine awp_seq ?_
      refine awp_region ?_
      refine aops_e (w0 rfl) rfl (eff_build rfl rfl rfl) ?_
      refine aops_store 2 (w0 rfl) rfl rfl rfl rfl rfl rfl rfl rfl rfl ?_
      refine aops_e (w0 rfl) rfl (eff_assign rfl rfl) ?_
      refine aops_nil ?_
      refine awp_ret ?_
      exact retq rfl (res_cell 2 rfl rfl rfl (ld_agg (Nat.le_of_ble_eq_true rfl)) (res_tmp rfl res_nil)) (gvr (by rw [declP_none (firstP_none h1)]; rfl))
    · intro hc
      exfalso; simp at hc
  · skip
    refine awp_drawV [0, 0, 0, 4, 14, 0, 63, 127, 255, 255, 255, 0, 0, 6655, 15359, 32767] [13, 14] [0, 1, 3, 5, 11, 12] rfl (by kernel_rfl) ?_
    refine vcalm_load_ptr 2 (w0 rfl) rfl rfl rfl rfl rfl (ld_agg (Nat.le_of_ble_eq_true rfl)) rfl rfl ?_
    refine vcalm_load_ptr 2 (w0 rfl) rfl rfl rfl rfl rfl (ld_agg (Nat.le_of_ble_eq_true rfl)) rfl rfl ?_
    refine vcalm_e (w0 rfl) rfl (eff_fieldAddr rfl rfl rfl) rfl ?_
    refine vcalm_load_ptr 1 (w0 rfl) rfl rfl rfl rfl rfl ld_one rfl rfl ?_
    refine vcalm_e (w0 rfl) rfl (eff_call [] rfl rfl rfl (c_refSupers p hb m.cls) List.nodup_nil) rfl ?_
    refine vcalm_load_ptr 1 (w0 rfl) rfl rfl rfl rfl rfl (ld_agg (Nat.le_of_ble_eq_true rfl)) rfl rfl ?_
    refine vcalm_e (w0 rfl) rfl (eff_call [] rfl rfl rfl (c_first1 p hp (supers p m.cls) (by have := supers_len p m.cls; unfold small; omega) m h1 h2) List.nodup_nil) rfl ?_
    refine vcalm_e (w0 rfl) rfl (eff_move rfl rfl) rfl ?_
    refine vcalm_e (w0 rfl) rfl (eff_extract rfl rfl rfl) rfl ?_
    refine vcalm_e (w0 rfl) rfl (eff_extract rfl rfl rfl) rfl ?_
    refine vcalm_e (w0 rfl) rfl (eff_extract rfl rfl rfl) rfl ?_
    refine vcalm_n (w0 rfl) rfl (fun id => eff_alloc id rfl rfl rfl) rfl rfl (fun id6 => ?_)
    refine vcalm_n (w0 rfl) rfl (fun id => eff_alloc id rfl rfl rfl) rfl rfl (fun id7 => ?_)
    refine vcalm_store 1 [] (w0 rfl) rfl rfl rfl rfl rfl rfl rfl rfl rfl rfl trivial ?_
    refine vcalm_store 0 [] (w0 rfl) rfl rfl rfl rfl rfl rfl rfl rfl rfl rfl trivial ?_
    refine vcalm_e (w0 rfl) rfl (eff_assign rfl rfl) rfl ?_
    refine .done ?_
    refine awp_seq ?_
    refine awp_seq ?_
    refine awp_region ?_
    refine aops_e (w0 rfl) rfl (eff_move rfl rfl) ?_
    refine aops_e (w0 rfl) rfl (eff_not rfl rfl) ?_
    refine aops_e (w0 rfl) rfl (eff_move rfl rfl) ?_
    refine aops_g (wF rfl rfl rfl rfl) rfl (fun hg => (eff_fieldAddr rfl rfl rfl)) ?_
    refine aops_gload 0 (wF rfl rfl rfl rfl) rfl rfl (fun hg => (ev_g hg rfl)) rfl rfl ld_one ?_
    refine aops_g (wF rfl rfl rfl rfl) rfl (fun hg => (eff_not rfl (ev_g hg rfl))) ?_
    refine aops_e (w0 rfl) rfl (eff_or rfl rfl rfl (fun h => by rw [h]; rfl)) ?_
    refine aops_nil ?_
    refine awp_cond rfl ?_ ?_
    · intro hc
      have hq : mayS x0 = false := by simpa [mayS] using hc
      refine awp_seq ?_
      refine awp_region ?_
      refine aops_e (w0 rfl) rfl (eff_build rfl rfl rfl) ?_
      refine aops_store 2 (w0 rfl) rfl rfl rfl rfl rfl rfl rfl rfl rfl ?_
      refine aops_e (w0 rfl) rfl (eff_assign rfl rfl) ?_
      refine aops_nil ?_
      refine awp_ret ?_
      exact retq rfl (res_cell 2 rfl rfl rfl (ld_agg (Nat.le_of_ble_eq_true rfl)) (res_tmp rfl res_nil)) (gvr (by rw [declP_some (firstP_some h1) h2, hq]; rfl))
    · intro hc
      have hq : mayS x0 = true := by simpa [mayS] using hc
      refine awp_skip ?_
      refine awp_seq ?_
      refine awp_region ?_
      refine aops_load_ptr 1 (w0 rfl) rfl rfl rfl rfl rfl (ld_agg (Nat.le_of_ble_eq_true rfl)) ?_
      refine aops_store 2 (w0 rfl) rfl rfl rfl rfl rfl rfl rfl rfl rfl ?_
      refine aops_e (w0 rfl) rfl (eff_assign rfl rfl) ?_
      refine aops_nil ?_
      refine awp_ret ?_
      exact retq rfl (res_cell 2 rfl rfl rfl (ld_agg (Nat.le_of_ble_eq_true rfl)) (res_tmp rfl res_nil)) (gvr (by rw [declP_some (firstP_some h1) h2, hq]; rfl))

theorem c_refDisp (p : Prog) (hp : p.ok) (hb : p.classes.length ≤ 1000) (cl nm d : Str) : ACalls Try.prog 80 [p.av, sA cl, sA nm, sA d] [] (Gives (.tup [((declP p (supers p cl) ⟨cl, nm, d⟩ mayD).getD zMR).av, bA (declP p (supers p cl) ⟨cl, nm, d⟩ mayD).isSome])) := by
  refine acalls_of (n := 41) Try.func80 rfl (by decide +kernel) rfl rfl ?_
  refine awp_seq ?_
  refine awp_region ?_
  refine aops_n (w0 rfl) rfl (fun id => eff_box id rfl rfl rfl rfl rfl) (fun id1 => ?_)
  refine aops_n (w0 rfl) rfl (fun id => eff_alloc id rfl rfl rfl) (fun id2 => ?_)
  refine aops_e (w0 rfl) rfl (eff_assign rfl rfl) ?_
  refine aops_nil ?_
  refine awp_seq ?_
  refine decl_elim p (supers p cl) ⟨cl, nm, d⟩ (fun h1 => ?_) (fun s0 x0 h1 h2 => ?_)
  · skip
    refine awp_drawV [0, 0, 0, 6, 0, 0, 48, 127, 255, 511, 511, 511, 0, 0, 13311, 30719, 65535] [14, 15] [0, 1, 12, 13] rfl (by kernel_rfl) ?_
    refine vcalm_load_ptr 1 (w0 rfl) rfl rfl rfl rfl rfl (ld_agg (Nat.le_of_ble_eq_true rfl)) rfl rfl ?_
    refine vcalm_load_ptr 1 (w0 rfl) rfl rfl rfl rfl rfl (ld_agg (Nat.le_of_ble_eq_true rfl)) rfl rfl ?_
    refine vcalm_e (w0 rfl) rfl (eff_move rfl rfl) rfl ?_
    refine vcalm_e (w0 rfl) rfl (eff_call [] rfl rfl rfl (c_refSupers p hb cl) List.nodup_nil) rfl ?_
    refine vcalm_e (w0 rfl) rfl (eff_move rfl rfl) rfl ?_
    refine vcalm_e (w0 rfl) rfl (eff_move rfl rfl) rfl ?_
    refine vcalm_e (w0 rfl) rfl (eff_build rfl rfl rfl) rfl ?_
    refine vcalm_e (w0 rfl) rfl (eff_call [] rfl rfl rfl (c_first0 p hp (supers p cl) (by have := supers_len p cl; unfold small; omega) ⟨zS, nm, d⟩ h1) List.nodup_nil) rfl ?_
    refine vcalm_e (w0 rfl) rfl (eff_move rfl rfl) rfl ?_
    refine vcalm_e (w0 rfl) rfl (eff_extract rfl rfl rfl) rfl ?_
    refine vcalm_e (w0 rfl) rfl (eff_extract rfl rfl rfl) rfl ?_
    refine vcalm_e (w0 rfl) rfl (eff_extract rfl rfl rfl) rfl ?_
    refine vcalm_n (w0 rfl) rfl (fun id => eff_alloc id rfl rfl rfl) rfl rfl (fun id3 => ?_)
    refine vcalm_n (w0 rfl) rfl (fun id => eff_alloc id rfl rfl rfl) rfl rfl (fun id4 => ?_)
    refine vcalm_store 1 [] (w0 rfl) rfl rfl rfl rfl rfl rfl rfl rfl rfl rfl trivial ?_
    refine vcalm_store 0 [] (w0 rfl) rfl rfl rfl rfl rfl rfl rfl rfl rfl rfl trivial ?_
    refine vcalm_e (w0 rfl) rfl (eff_assign rfl rfl) rfl ?_
    refine .done ?_
    refine awp_seq ?_
    refine awp_seq ?_
    refine awp_region ?_
    refine aops_e (w0 rfl) rfl (eff_move rfl rfl) ?_
    refine aops_e (w0 rfl) rfl (eff_not rfl rfl) ?_
    refine aops_e (w0 rfl) rfl (eff_move rfl rfl) ?_
    refine aops_g (wF rfl rfl rfl rfl) rfl (fun hg => (eff_fieldAddr rfl rfl rfl)) ?_
    refine aops_gload 0 (wF rfl rfl rfl rfl) rfl rfl (fun hg => (ev_g hg rfl)) rfl rfl ld_one ?_
    refine aops_e (w0 rfl) rfl (eff_or rfl rfl rfl (fun h => by rw [h]; rfl)) ?_
    refine aops_e (w0 rfl) rfl (eff_move rfl rfl) ?_
    refine aops_g (wF rfl rfl rfl rfl) rfl (fun hg => (eff_fieldAddr rfl rfl rfl)) ?_
    refine aops_gload 0 (wF rfl rfl rfl rfl) rfl rfl (fun hg => (ev_g hg rfl)) rfl rfl ld_one ?_
    refine aops_e (w0 rfl) rfl (eff_or rfl rfl rfl (fun h => by rw [h]; rfl)) ?_
    refine aops_e (w0 rfl) rfl (eff_move rfl rfl) ?_
    refine aops_g (wF rfl rfl rfl rfl) rfl (fun hg => (eff_move rfl rfl)) ?_
    refine aops_g (wF rfl rfl rfl rfl) rfl (fun hg => (eff_scmp rfl (ev_g hg rfl) rfl rfl)) ?_
    refine aops_e (w0 rfl) rfl (eff_or rfl rfl rfl (fun h => by rw [h]; rfl)) ?_
    refine aops_nil ?_
    refine awp_cond rfl ?_ ?_
    · intro hc
      refine awp_seq ?_
      refine awp_region ?_
      refine aops_e (w0 rfl) rfl (eff_build rfl rfl rfl) ?_
      refine aops_store 2 (w0 rfl) rfl rfl rfl rfl rfl rfl rfl rfl rfl ?_
      refine aops_e (w0 rfl) rfl (eff_assign rfl rfl) ?_
      refine aops_nil ?_
      refine awp_ret ?_
      exact retq rfl (res_cell 2 rfl rfl rfl (ld_agg (Nat.le_of_ble_eq_true rfl)) (res_tmp rfl res_nil)) (gvr (by rw [declP_none (firstP_none h1)]; rfl))
    · intro hc
      exfalso; simp at hc
  · skip
    refine awp_drawV [0, 0, 0, 6, 0, 0, 48, 127, 255, 511, 511, 511, 0, 0, 13311, 30719, 65535] [14, 15] [0, 1, 12, 13] rfl (by kernel_rfl) ?_
    refine vcalm_load_ptr 1 (w0 rfl) rfl rfl rfl rfl rfl (ld_agg (Nat.le_of_ble_eq_true rfl)) rfl rfl ?_
    refine vcalm_load_ptr 1 (w0 rfl) rfl rfl rfl rfl rfl (ld_agg (Nat.le_of_ble_eq_true rfl)) rfl rfl ?_
    refine vcalm_e (w0 rfl) rfl (eff_move rfl rfl) rfl ?_
    refine vcalm_e (w0 rfl) rfl (eff_call [] rfl rfl rfl (c_refSupers p hb cl) List.nodup_nil) rfl ?_
    refine vcalm_e (w0 rfl) rfl (eff_move rfl rfl) rfl ?_
    refine vcalm_e (w0 rfl) rfl (eff_move rfl rfl) rfl ?_
    refine vcalm_e (w0 rfl) rfl (eff_build rfl rfl rfl) rfl ?_
    refine vcalm_e (w0 rfl) rfl (eff_call [] rfl rfl rfl (c_first1 p hp (supers p cl) (by have := supers_len p cl; unfold small; omega) ⟨zS, nm, d⟩ h1 h2) List.nodup_nil) rfl ?_
    refine vcalm_e (w0 rfl) rfl (eff_move rfl rfl) rfl ?_
    refine vcalm_e (w0 rfl) rfl (eff_extract rfl rfl rfl) rfl ?_
    refine vcalm_e (w0 rfl) rfl (eff_extract rfl rfl rfl) rfl ?_
    refine vcalm_e (w0 rfl) rfl (eff_extract rfl rfl rfl) rfl ?_
    refine vcalm_n (w0 rfl) rfl (fun id => eff_alloc id rfl rfl rfl) rfl rfl (fun id5 => ?_)
    refine vcalm_n (w0 rfl) rfl (fun id => eff_alloc id rfl rfl rfl) rfl rfl (fun id6 => ?_)
    refine vcalm_store 1 [] (w0 rfl) rfl rfl rfl rfl rfl rfl rfl rfl rfl rfl trivial ?_
    refine vcalm_store 0 [] (w0 rfl) rfl rfl rfl rfl rfl rfl rfl rfl rfl rfl trivial ?_
    refine vcalm_e (w0 rfl) rfl (eff_assign rfl rfl) rfl ?_
    refine .done ?_
    refine awp_seq ?_
    refine awp_seq ?_
    refine awp_region ?_
    refine aops_e (w0 rfl) rfl (eff_move rfl rfl) ?_
    refine aops_e (w0 rfl) rfl (eff_not rfl rfl) ?_
    refine aops_e (w0 rfl) rfl (eff_move rfl rfl) ?_
    refine aops_g (wF rfl rfl rfl rfl) rfl (fun hg => (eff_fieldAddr rfl rfl rfl)) ?_
    refine aops_gload 0 (wF rfl rfl rfl rfl) rfl rfl (fun hg => (ev_g hg rfl)) rfl rfl ld_one ?_
    refine aops_e (w0 rfl) rfl (eff_or rfl rfl rfl (fun h => by rw [h]; rfl)) ?_
    refine aops_e (w0 rfl) rfl (eff_move rfl rfl) ?_
    refine aops_g (wF rfl rfl rfl rfl) rfl (fun hg => (eff_fieldAddr rfl rfl rfl)) ?_
    refine aops_gload 0 (wF rfl rfl rfl rfl) rfl rfl (fun hg => (ev_g hg rfl)) rfl rfl ld_one ?_
    refine aops_e (w0 rfl) rfl (eff_or rfl rfl rfl (fun h => by rw [h]; rfl)) ?_
    refine aops_e (w0 rfl) rfl (eff_move rfl rfl) ?_
    refine aops_g (wF rfl rfl rfl rfl) rfl (fun hg => (eff_move rfl rfl)) ?_
    refine aops_g (wF rfl rfl rfl rfl) rfl (fun hg => (eff_scmp rfl (ev_g hg rfl) rfl rfl)) ?_
    refine aops_e (w0 rfl) rfl (eff_or rfl rfl rfl (fun h => by rw [h]; rfl)) ?_
    refine aops_nil ?_
    refine awp_cond rfl ?_ ?_
    · intro hc
      have hq : mayD x0 = false := mayD_no (mthC_name h2).1 hc
      refine awp_seq ?_
      refine awp_region ?_
      refine aops_e (w0 rfl) rfl (eff_build rfl rfl rfl) ?_
      refine aops_store 2 (w0 rfl) rfl rfl rfl rfl rfl rfl rfl rfl rfl ?_
      refine aops_e (w0 rfl) rfl (eff_assign rfl rfl) ?_
      refine aops_nil ?_
      refine awp_ret ?_
      exact retq rfl (res_cell 2 rfl rfl rfl (ld_agg (Nat.le_of_ble_eq_true rfl)) (res_tmp rfl res_nil)) (gvr (by rw [declP_some (firstP_some h1) h2, hq]; rfl))
    · intro hc
      have hq : mayD x0 = true := mayD_yes (mthC_name h2).1 hc
      refine awp_skip ?_
      refine awp_seq ?_
      refine awp_region ?_
      refine aops_load_ptr 1 (w0 rfl) rfl rfl rfl rfl rfl (ld_agg (Nat.le_of_ble_eq_true rfl)) ?_
      refine aops_store 2 (w0 rfl) rfl rfl rfl rfl rfl rfl rfl rfl rfl ?_
      refine aops_e (w0 rfl) rfl (eff_assign rfl rfl) ?_
      refine aops_nil ?_
      refine awp_ret ?_
      exact retq rfl (res_cell 2 rfl rfl rfl (ld_agg (Nat.le_of_ble_eq_true rfl)) (res_tmp rfl res_nil)) (gvr (by rw [declP_some (firstP_some h1) h2, hq]; rfl))

theorem c_refVirt (p : Prog) (hp : p.ok) (hb : p.classes.length ≤ 1000) (hif : ∀ c, c ∈ p.classes → c.ifaces.length ≤ 1000) (m : MRef) : ACalls Try.prog 79 [p.av, m.av] [] (Gives (.tup [((declP p (supers p m.cls ++ ancL p m.cls) m mayV).getD zMR).av, bA (declP p (supers p m.cls ++ ancL p m.cls) m mayV).isSome])) := by
  have hs1 := supers_len p m.cls
  have hs2 := ancL_len p m.cls
  refine acalls_of (n := 43) Try.func79 rfl (by decide +kernel) rfl rfl ?_
  refine awp_seq ?_
  refine awp_region ?_
  refine aops_n (w0 rfl) rfl (fun id => eff_box id rfl rfl rfl rfl rfl) (fun id1 => ?_)
  refine aops_n (w0 rfl) rfl (fun id => eff_box id rfl rfl rfl rfl rfl) (fun id2 => ?_)
  refine aops_n (w0 rfl) rfl (fun id => eff_alloc id rfl rfl rfl) (fun id3 => ?_)
  refine aops_e (w0 rfl) rfl (eff_assign rfl rfl) ?_
  refine aops_nil ?_
  refine awp_seq ?_
  refine awp_region ?_
  refine aops_n (w0 rfl) rfl (fun id => eff_nil id 9 1 (.inl rfl) rfl) (fun id4 => ?_)
  refine aops_nil ?_
  refine awp_seq ?_
  refine decl_elim p (supers p m.cls ++ ancL p m.cls) m (fun h1 => ?_) (fun s0 x0 h1 h2 => ?_)
  · skip
    refine awp_region ?_
    refine aops_e (w0 rfl) rfl (eff_move rfl rfl) ?_
    refine aops_load_ptr 3 (w0 rfl) rfl rfl rfl rfl rfl (ld_agg (Nat.le_of_ble_eq_true rfl)) ?_
    refine aops_e (w0 rfl) rfl (eff_fieldAddr rfl rfl rfl) ?_
    refine aops_load_ptr 2 (w0 rfl) rfl rfl rfl rfl rfl ld_one ?_
    refine aops_e (w0 rfl) rfl (eff_call [] rfl rfl rfl (c_refSupers p hb m.cls) List.nodup_nil) ?_
    refine aops_append 0 (w0 rfl) rfl rfl rfl rfl rfl rfl ⟨rfl, len_map (fun _ => rfl)⟩ (by simp; omega) (by simp [maxLen]; omega) (fun id5 => ?_)
    refine aops_e (w0 rfl) rfl (eff_assign rfl rfl) ?_
    refine aops_nil ?_
    refine awp_seq ?_
    refine awp_region ?_
    refine aops_e (w0 rfl) rfl (eff_move rfl rfl) ?_
    refine aops_load_ptr 3 (w0 rfl) rfl rfl rfl rfl rfl (ld_agg (Nat.le_of_ble_eq_true rfl)) ?_
    refine aops_e (w0 rfl) rfl (eff_fieldAddr rfl rfl rfl) ?_
    refine aops_load_ptr 2 (w0 rfl) rfl rfl rfl rfl rfl ld_one ?_
    refine aops_e (w0 rfl) rfl (eff_call [] rfl rfl rfl (c_refAncs p hb hif m.cls) List.nodup_nil) ?_
    refine aops_append 0 (w0 rfl) rfl rfl rfl rfl (by simp) rfl ⟨rfl, len_map (fun _ => rfl)⟩ (by simp; omega) (by simp [maxLen]; omega) (fun id6 => ?_)
    refine aops_e (w0 rfl) rfl (eff_assign rfl rfl) ?_
    refine aops_nil ?_
    refine awp_seq ?_
    refine awp_weak (weak_frz 0 6 (T' := [(2, .ptr id1 5 0 0), (3, .ptr id2 3 0 0), (4, .ptr id3 3 0 0)]) rfl rfl (by simp) ⟨rfl, rfl, rfl, trivial⟩) ?_
    refine awp_region ?_
    refine aops_load_ptr 2 (w0 rfl) rfl rfl rfl rfl rfl (ld_agg (Nat.le_of_ble_eq_true rfl)) ?_
    refine aops_e (w0 rfl) rfl (eff_to (y := row1 sA (supers p m.cls ++ ancL p m.cls)) (eff_move rfl rfl) (by show AV.lst _ = AV.lst _; simp)) ?_
    refine aops_load_ptr 1 (w0 rfl) rfl rfl rfl rfl rfl (ld_agg (Nat.le_of_ble_eq_true rfl)) ?_
    refine aops_e (w0 rfl) rfl (eff_call [] rfl rfl rfl (c_first0 p hp (supers p m.cls ++ ancL p m.cls) (by have := supers_len p m.cls; have := ancL_len p m.cls; unfold small; rw [List.length_append]; omega) m h1) List.nodup_nil) ?_
    refine aops_e (w0 rfl) rfl (eff_move rfl rfl) ?_
    refine aops_e (w0 rfl) rfl (eff_extract rfl rfl rfl) ?_
    refine aops_e (w0 rfl) rfl (eff_extract rfl rfl rfl) ?_
    refine aops_e (w0 rfl) rfl (eff_extract rfl rfl rfl) ?_
    refine aops_n (w0 rfl) rfl (fun id => eff_alloc id rfl rfl rfl) (fun id7 => ?_)
    refine aops_n (w0 rfl) rfl (fun id => eff_alloc id rfl rfl rfl) (fun id8 => ?_)
    refine aops_store 1 (w0 rfl) rfl rfl rfl rfl rfl rfl rfl rfl rfl ?_
    refine aops_store 0 (w0 rfl) rfl rfl rfl rfl rfl rfl rfl rfl rfl ?_
    refine aops_e (w0 rfl) rfl (eff_assign rfl rfl) ?_
    refine aops_nil ?_
    refine awp_seq ?_
    refine awp_seq ?_
    refine awp_region ?_
    refine aops_e (w0 rfl) rfl (eff_move rfl rfl) ?_
    refine aops_e (w0 rfl) rfl (eff_not rfl rfl) ?_
    refine aops_e (w0 rfl) rfl (eff_move rfl rfl) ?_
    refine aops_g (wF rfl rfl rfl rfl) rfl (fun hg => (eff_fieldAddr rfl rfl rfl)) ?_
    refine aops_gload 0 (wF rfl rfl rfl rfl) rfl rfl (fun hg => (ev_g hg rfl)) rfl rfl ld_one ?_
    refine aops_e (w0 rfl) rfl (eff_or rfl rfl rfl (fun h => by rw [h]; rfl)) ?_
    refine aops_e (w0 rfl) rfl (eff_move rfl rfl) ?_
    refine aops_g (wF rfl rfl rfl rfl) rfl (fun hg => (eff_fieldAddr rfl rfl rfl)) ?_
    refine aops_gload 3 (wF rfl rfl rfl rfl) rfl rfl (fun hg => (ev_g hg rfl)) rfl rfl ld_one ?_
    refine aops_g (wF rfl rfl rfl rfl) rfl (fun hg => (eff_scmp rfl (ev_g hg rfl) rfl rfl)) ?_
    refine aops_e (w0 rfl) rfl (eff_or rfl rfl rfl (fun h => by rw [h]; rfl)) ?_
    refine aops_nil ?_
    refine awp_cond rfl ?_ ?_
    · intro hc
      refine awp_seq ?_
      refine awp_region ?_
      refine aops_e (w0 rfl) rfl (eff_build rfl rfl rfl) ?_
      refine aops_store 2 (w0 rfl) rfl rfl rfl rfl rfl rfl rfl rfl rfl ?_
      refine aops_e (w0 rfl) rfl (eff_assign rfl rfl) ?_
      refine aops_nil ?_
      refine awp_ret ?_
      exact retq rfl (res_cell 2 rfl rfl rfl (ld_agg (Nat.le_of_ble_eq_true rfl)) (res_tmp rfl res_nil)) (gvr (by rw [declP_none (firstP_none h1)]; rfl))
    · intro hc
      exfalso; simp at hc
  · skip
    refine awp_region ?_
    refine aops_e (w0 rfl) rfl (eff_move rfl rfl) ?_
    refine aops_load_ptr 3 (w0 rfl) rfl rfl rfl rfl rfl (ld_agg (Nat.le_of_ble_eq_true rfl)) ?_
    refine aops_e (w0 rfl) rfl (eff_fieldAddr rfl rfl rfl) ?_
    refine aops_load_ptr 2 (w0 rfl) rfl rfl rfl rfl rfl ld_one ?_
    refine aops_e (w0 rfl) rfl (eff_call [] rfl rfl rfl (c_refSupers p hb m.cls) List.nodup_nil) ?_
    refine aops_append 0 (w0 rfl) rfl rfl rfl rfl rfl rfl ⟨rfl, len_map (fun _ => rfl)⟩ (by simp; omega) (by simp [maxLen]; omega) (fun id9 => ?_)
    refine aops_e (w0 rfl) rfl (eff_assign rfl rfl) ?_
    refine aops_nil ?_
    refine awp_seq ?_
    refine awp_region ?_
    refine aops_e (w0 rfl) rfl (eff_move rfl rfl) ?_
    refine aops_load_ptr 3 (w0 rfl) rfl rfl rfl rfl rfl (ld_agg (Nat.le_of_ble_eq_true rfl)) ?_
    refine aops_e (w0 rfl) rfl (eff_fieldAddr rfl rfl rfl) ?_
    refine aops_load_ptr 2 (w0 rfl) rfl rfl rfl rfl rfl ld_one ?_
    refine aops_e (w0 rfl) rfl (eff_call [] rfl rfl rfl (c_refAncs p hb hif m.cls) List.nodup_nil) ?_
    refine aops_append 0 (w0 rfl) rfl rfl rfl rfl (by simp) rfl ⟨rfl, len_map (fun _ => rfl)⟩ (by simp; omega) (by simp [maxLen]; omega) (fun id10 => ?_)
    refine aops_e (w0 rfl) rfl (eff_assign rfl rfl) ?_
    refine aops_nil ?_
    refine awp_seq ?_
    refine awp_weak (weak_frz 0 6 (T' := [(2, .ptr id1 5 0 0), (3, .ptr id2 3 0 0), (4, .ptr id3 3 0 0)]) rfl rfl (by simp) ⟨rfl, rfl, rfl, trivial⟩) ?_
    refine awp_region ?_
    refine aops_load_ptr 2 (w0 rfl) rfl rfl rfl rfl rfl (ld_agg (Nat.le_of_ble_eq_true rfl)) ?_
    refine aops_e (w0 rfl) rfl (eff_to (y := row1 sA (supers p m.cls ++ ancL p m.cls)) (eff_move rfl rfl) (by show AV.lst _ = AV.lst _; simp)) ?_
    refine aops_load_ptr 1 (w0 rfl) rfl rfl rfl rfl rfl (ld_agg (Nat.le_of_ble_eq_true rfl)) ?_
    refine aops_e (w0 rfl) rfl (eff_call [] rfl rfl rfl (c_first1 p hp (supers p m.cls ++ ancL p m.cls) (by have := supers_len p m.cls; have := ancL_len p m.cls; unfold small; rw [List.length_append]; omega) m h1 h2) List.nodup_nil) ?_
    refine aops_e (w0 rfl) rfl (eff_move rfl rfl) ?_
    refine aops_e (w0 rfl) rfl (eff_extract rfl rfl rfl) ?_
    refine aops_e (w0 rfl) rfl (eff_extract rfl rfl rfl) ?_
    refine aops_e (w0 rfl) rfl (eff_extract rfl rfl rfl) ?_
    refine aops_n (w0 rfl) rfl (fun id => eff_alloc id rfl rfl rfl) (fun id11 => ?_)
    refine aops_n (w0 rfl) rfl (fun id => eff_alloc id rfl rfl rfl) (fun id12 => ?_)
    refine aops_store 1 (w0 rfl) rfl rfl rfl rfl rfl rfl rfl rfl rfl ?_
    refine aops_store 0 (w0 rfl) rfl rfl rfl rfl rfl rfl rfl rfl rfl ?_
    refine aops_e (w0 rfl) rfl (eff_assign rfl rfl) ?_
    refine aops_nil ?_
    refine awp_seq ?_
    refine awp_seq ?_
    refine awp_region ?_
    refine aops_e (w0 rfl) rfl (eff_move rfl rfl) ?_
    refine aops_e (w0 rfl) rfl (eff_not rfl rfl) ?_
    refine aops_e (w0 rfl) rfl (eff_move rfl rfl) ?_
    refine aops_g (wF rfl rfl rfl rfl) rfl (fun hg => (eff_fieldAddr rfl rfl rfl)) ?_
    refine aops_gload 0 (wF rfl rfl rfl rfl) rfl rfl (fun hg => (ev_g hg rfl)) rfl rfl ld_one ?_
    refine aops_e (w0 rfl) rfl (eff_or rfl rfl rfl (fun h => by rw [h]; rfl)) ?_
    refine aops_e (w0 rfl) rfl (eff_move rfl rfl) ?_
    refine aops_g (wF rfl rfl rfl rfl) rfl (fun hg => (eff_fieldAddr rfl rfl rfl)) ?_
    refine aops_gload 3 (wF rfl rfl rfl rfl) rfl rfl (fun hg => (ev_g hg rfl)) rfl rfl ld_one ?_
    refine aops_g (wF rfl rfl rfl rfl) rfl (fun hg => (eff_scmp rfl (ev_g hg rfl) rfl rfl)) ?_
    refine aops_e (w0 rfl) rfl (eff_or rfl rfl rfl (fun h => by rw [h]; rfl)) ?_
    refine aops_nil ?_
    refine awp_cond rfl ?_ ?_
    · intro hc
      have hq : mayV x0 = false := mayV_no (mthC_name h2).1 hc
      refine awp_seq ?_
      refine awp_region ?_
      refine aops_e (w0 rfl) rfl (eff_build rfl rfl rfl) ?_
      refine aops_store 2 (w0 rfl) rfl rfl rfl rfl rfl rfl rfl rfl rfl ?_
      refine aops_e (w0 rfl) rfl (eff_assign rfl rfl) ?_
      refine aops_nil ?_
      refine awp_ret ?_
      exact retq rfl (res_cell 2 rfl rfl rfl (ld_agg (Nat.le_of_ble_eq_true rfl)) (res_tmp rfl res_nil)) (gvr (by rw [declP_some (firstP_some h1) h2, hq]; rfl))
    · intro hc
      have hq : mayV x0 = true := mayV_yes (mthC_name h2).1 hc
      refine awp_skip ?_
      refine awp_seq ?_
      refine awp_region ?_
      refine aops_load_ptr 1 (w0 rfl) rfl rfl rfl rfl rfl (ld_agg (Nat.le_of_ble_eq_true rfl)) ?_
      refine aops_store 2 (w0 rfl) rfl rfl rfl rfl rfl rfl rfl rfl rfl ?_
      refine aops_e (w0 rfl) rfl (eff_assign rfl rfl) ?_
      refine aops_nil ?_
      refine awp_ret ?_
      exact retq rfl (res_cell 2 rfl rfl rfl (ld_agg (Nat.le_of_ble_eq_true rfl)) (res_tmp rfl res_nil)) (gvr (by rw [declP_some (firstP_some h1) h2, hq]; rfl))

end Go.Sx
