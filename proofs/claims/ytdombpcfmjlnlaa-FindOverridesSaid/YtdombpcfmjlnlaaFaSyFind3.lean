/- Layer 12's laws, walked. -/
import Derived.Test.YtdombpcfmjlnlaaFaSyFind2
set_option linter.unusedVariables false
set_option linter.unusedSimpArgs false
namespace Go.Sx
open Go Go.Proofs

theorem c_asked (p : Prog) (hp : p.ok) (k : Int) (m : Int) (n : Int) (hk : 0 ≤ k ∧ k ≤ 255) (hm : 0 ≤ m ∧ m ≤ 255) (hn : 0 ≤ n ∧ n ≤ 255) : ACalls Try.prog 46 [p.av, uA k, uA m, uA n] [] (Gives (askedP p k m n).av) := by
  have hbs := hp.classes.1
  simp only [small] at hbs
  obtain ⟨cX, hcX⟩ : ∃ c, c = p.classes.getD (k.tmod p.classes.length).toNat default := ⟨_, rfl⟩
  obtain ⟨cY, hcY⟩ : ∃ c, c = p.classes.getD (m.tmod p.classes.length).toNat default := ⟨_, rfl⟩
  obtain ⟨kZ, hkZ⟩ : ∃ c, c = cY.methods.getD (n.tmod cY.methods.length).toNat default := ⟨_, rfl⟩
  have hym : cY ∈ p.classes ∨ p.classes.length = 0 := cls_mem hm.1 hcY
  refine acalls_of (n := 60) Try.func46 rfl (by decide +kernel) rfl rfl ?_
  refine awp_seq ?_
  refine awp_region ?_
  refine aops_n (w0 rfl) rfl (fun id => eff_box id rfl rfl rfl rfl rfl) (fun id1 => ?_)
  refine aops_n (w0 rfl) rfl (fun id => eff_alloc id rfl rfl rfl) (fun id2 => ?_)
  refine aops_nil ?_
  refine awp_seq ?_
  refine awp_seq ?_
  refine awp_region ?_
  refine aops_e (w0 rfl) rfl (eff_fieldAddr rfl rfl rfl) ?_
  refine aops_load_ptr 1 (w0 rfl) rfl rfl rfl rfl rfl ld_one ?_
  refine aops_e (w0 rfl) rfl (eff_len rfl rfl rfl rfl) ?_
  refine aops_e (w0 rfl) rfl (eff_icmp rfl rfl rfl rfl) ?_
  refine aops_nil ?_
  refine awp_cond rfl ?_ ?_
  · intro hc
    have hq : p.classes.length = 0 := by simp only [beq_iff_eq, beq_eq_false_iff_ne, ne_eq, List.length_map] at hc; omega
    refine awp_seq ?_
    refine awp_region ?_
    refine aops_e (w0 rfl) rfl (eff_build rfl rfl rfl) ?_
    refine aops_store 0 (w0 rfl) rfl rfl rfl rfl rfl rfl rfl rfl rfl ?_
    refine aops_nil ?_
    refine awp_ret ?_
    exact retq rfl (res_cell 0 rfl rfl rfl (ld_agg (Nat.le_of_ble_eq_true rfl)) res_nil) (gvr (by rw [askedP_z hq]; rfl))
  · intro hc
    have hq : ¬ p.classes.length = 0 := by simp only [beq_iff_eq, beq_eq_false_iff_ne, ne_eq, List.length_map] at hc; omega
    have hn2 := hn
    have hcl : 0 < p.classes.length := by omega
    have hlk := near_lt hcl hk.1
    have hlm := near_lt hcl hm.1
    have hms := (hp.classes.2 cY (hym.resolve_right hq)).methods.1
    simp only [small] at hms
    refine awp_skip ?_
    refine awp_seq ?_
    refine awp_drawM [0, 1, 0, 4, 0, 16, 48, 124, 255, 511, 1023, 2047, 0, 8191] 13 rfl (by kernel_rfl) ?_
    refine calm_e (w0 rfl) rfl (eff_fieldAddr rfl rfl rfl) ?_
    refine calm_load_ptr 1 (w0 rfl) rfl rfl rfl rfl rfl ld_one ?_
    refine calm_e (w0 rfl) rfl (eff_move rfl rfl) ?_
    refine calm_e (w0 rfl) rfl (eff_to (y := iA k) (eff_convInt rfl rfl) (congrArg iA (i64_wrap (by omega)))) ?_
    refine calm_e (w0 rfl) rfl (eff_fieldAddr rfl rfl rfl) ?_
    refine calm_load_ptr 1 (w0 rfl) rfl rfl rfl rfl rfl ld_one ?_
    refine calm_e (w0 rfl) rfl (eff_to (y := iA p.classes.length) (eff_len rfl rfl rfl rfl) (congrArg iA (by simp))) ?_
    refine calm_e (w0 rfl) rfl (eff_rem rfl rfl rfl (by omega)) ?_
    refine calm_e (w0 rfl) rfl (eff_indexAddr_lst rfl rfl rfl (len_map (fun _ => rfl)) (by first | exact Int.tmod_nonneg _ hk.1 | (simp only [List.length_map]; exact Int.tmod_lt_of_pos _ (by omega))) (by first | exact Int.tmod_nonneg _ hk.1 | (simp only [List.length_map]; exact Int.tmod_lt_of_pos _ (by omega)))) ?_
    refine calm_e (w0 rfl) rfl (eff_fieldAddr rfl rfl rfl) ?_
    refine calm_e (w0 rfl) rfl (eff_to (y := sA cX.name) (eff_loadE rfl rfl (map_get (by omega)) ld_one) (congrArg (fun c : Cls => sA c.name) ((clsD hlk).symm.trans hcX.symm))) ?_
    refine calm_e (w0 rfl) rfl (eff_build rfl rfl rfl) ?_
    refine calm_n (w0 rfl) rfl (fun id => eff_alloc id rfl rfl rfl) (fun id3 => ?_)
    refine .done ?_
    refine aops_store 0 (w0 rfl) rfl rfl rfl rfl rfl rfl rfl rfl rfl ?_
    refine aops_nil ?_
    refine awp_seq ?_
    refine awp_drawN 11 rfl (by kernel_rfl) ?_
    refine calm_e (w0 rfl) rfl (eff_fieldAddr rfl rfl rfl) ?_
    refine calm_load_ptr 2 (w0 rfl) rfl rfl rfl rfl rfl ld_one ?_
    refine calm_e (w0 rfl) rfl (eff_move rfl rfl) ?_
    refine calm_e (w0 rfl) rfl (eff_to (y := iA m) (eff_convInt rfl rfl) (congrArg iA (i64_wrap (by omega)))) ?_
    refine calm_e (w0 rfl) rfl (eff_fieldAddr rfl rfl rfl) ?_
    refine calm_load_ptr 2 (w0 rfl) rfl rfl rfl rfl rfl ld_one ?_
    refine calm_e (w0 rfl) rfl (eff_to (y := iA p.classes.length) (eff_len rfl rfl rfl rfl) (congrArg iA (by simp))) ?_
    refine calm_e (w0 rfl) rfl (eff_rem rfl rfl rfl (by omega)) ?_
    refine calm_e (w0 rfl) rfl (eff_indexAddr_lst rfl rfl rfl (len_map (fun _ => rfl)) (by first | exact Int.tmod_nonneg _ hm.1 | (simp only [List.length_map]; exact Int.tmod_lt_of_pos _ (by omega))) (by first | exact Int.tmod_nonneg _ hm.1 | (simp only [List.length_map]; exact Int.tmod_lt_of_pos _ (by omega)))) ?_
    refine calm_e (w0 rfl) rfl (eff_to (y := cY.av) (eff_loadE rfl rfl (map_get (by omega)) (ld_agg (Nat.le_of_ble_eq_true rfl))) (congrArg Cls.av ((clsD hlm).symm.trans hcY.symm))) ?_
    refine calm_n (w0 rfl) rfl (fun id => eff_alloc id rfl rfl rfl) (fun id4 => ?_)
    refine .done ?_
    refine aops_store 0 (w0 rfl) rfl rfl rfl rfl rfl rfl rfl rfl rfl ?_
    refine aops_nil ?_
    refine awp_seq ?_
    refine awp_seq ?_
    refine awp_region ?_
    refine aops_e (w0 rfl) rfl (eff_fieldAddr rfl rfl rfl) ?_
    refine aops_load_ptr 0 (w0 rfl) rfl rfl rfl rfl rfl ld_one ?_
    refine aops_e (w0 rfl) rfl (eff_len rfl rfl rfl rfl) ?_
    refine aops_e (w0 rfl) rfl (eff_icmp rfl rfl rfl rfl) ?_
    refine aops_nil ?_
    refine awp_cond rfl ?_ ?_
    · intro hc
      have hmz : 0 < cY.methods.length := by simpa using hc
      have hln := near_lt hmz hn.1
      refine awp_seq ?_
      refine awp_drawN 11 rfl (by kernel_rfl) ?_
      refine calm_e (w0 rfl) rfl (eff_fieldAddr rfl rfl rfl) ?_
      refine calm_load_ptr 0 (w0 rfl) rfl rfl rfl rfl rfl ld_one ?_
      refine calm_e (w0 rfl) rfl (eff_move rfl rfl) ?_
      refine calm_e (w0 rfl) rfl (eff_to (y := iA n) (eff_convInt rfl rfl) (congrArg iA (i64_wrap (by omega)))) ?_
      refine calm_e (w0 rfl) rfl (eff_fieldAddr rfl rfl rfl) ?_
      refine calm_load_ptr 0 (w0 rfl) rfl rfl rfl rfl rfl ld_one ?_
      refine calm_e (w0 rfl) rfl (eff_to (y := iA cY.methods.length) (eff_len rfl rfl rfl rfl) (congrArg iA (by simp))) ?_
      refine calm_e (w0 rfl) rfl (eff_rem rfl rfl rfl (by omega)) ?_
      refine calm_e (w0 rfl) rfl (eff_indexAddr_lst rfl rfl rfl (len_map (fun _ => rfl)) (by first | exact Int.tmod_nonneg _ hn2.1 | (simp only [List.length_map]; exact Int.tmod_lt_of_pos _ (by omega))) (by first | exact Int.tmod_nonneg _ hn2.1 | (simp only [List.length_map]; exact Int.tmod_lt_of_pos _ (by omega)))) ?_
      refine calm_e (w0 rfl) rfl (eff_to (y := kZ.av) (eff_loadE rfl rfl (map_get (by omega)) (ld_agg (Nat.le_of_ble_eq_true rfl))) (congrArg Meth.av ((mthD hln).symm.trans hkZ.symm))) ?_
      refine calm_n (w0 rfl) rfl (fun id => eff_alloc id rfl rfl rfl) (fun id5 => ?_)
      refine .done ?_
      refine aops_store 0 (w0 rfl) rfl rfl rfl rfl rfl rfl rfl rfl rfl ?_
      refine aops_nil ?_
      refine awp_seq ?_
      refine awp_region ?_
      refine aops_e (w0 rfl) rfl (eff_fieldAddr rfl rfl rfl) ?_
      refine aops_load_ptr 0 (w0 rfl) rfl rfl rfl rfl rfl ld_one ?_
      refine aops_e (w0 rfl) rfl (eff_fieldAddr rfl rfl rfl) ?_
      refine aops_store 2 (w0 rfl) rfl rfl rfl rfl rfl rfl rfl rfl rfl ?_
      refine aops_nil ?_
      refine awp_region ?_
      refine aops_e (w0 rfl) rfl (eff_fieldAddr rfl rfl rfl) ?_
      refine aops_load_ptr 0 (w0 rfl) rfl rfl rfl rfl rfl ld_one ?_
      refine aops_e (w0 rfl) rfl (eff_fieldAddr rfl rfl rfl) ?_
      refine aops_store 2 (w0 rfl) rfl rfl rfl rfl rfl rfl rfl rfl rfl ?_
      refine aops_nil ?_
      refine awp_seq ?_
      refine awp_region ?_
      refine aops_load_ptr 2 (w0 rfl) rfl rfl rfl rfl rfl (ld_agg (Nat.le_of_ble_eq_true rfl)) ?_
      refine aops_store 3 (w0 rfl) rfl rfl rfl rfl rfl rfl rfl rfl rfl ?_
      refine aops_nil ?_
      refine awp_ret ?_
      exact retq rfl (res_cell 3 rfl rfl rfl (ld_agg (Nat.le_of_ble_eq_true rfl)) res_nil) (gvr (by first | (rw [askedP_m hq hcX hcY hkZ hmz]; rfl) | (rw [askedP_n hq hcX hcY hmz]; rfl)))
    · intro hc
      have hmz : ¬ 0 < cY.methods.length := by simpa using hc
      refine awp_skip ?_
      refine awp_seq ?_
      refine awp_region ?_
      refine aops_load_ptr 1 (w0 rfl) rfl rfl rfl rfl rfl (ld_agg (Nat.le_of_ble_eq_true rfl)) ?_
      refine aops_store 2 (w0 rfl) rfl rfl rfl rfl rfl rfl rfl rfl rfl ?_
      refine aops_nil ?_
      refine awp_ret ?_
      exact retq rfl (res_cell 2 rfl rfl rfl (ld_agg (Nat.le_of_ble_eq_true rfl)) res_nil) (gvr (by first | (rw [askedP_m hq hcX hcY hkZ hmz]; rfl) | (rw [askedP_n hq hcX hcY hmz]; rfl)))

theorem c_fieldQ (p : Prog) (hp : p.ok) (k : Int) (m : Int) (n : Int) (hk : 0 ≤ k ∧ k ≤ 255) (hm : 0 ≤ m ∧ m ≤ 255) (hn : 0 ≤ n ∧ n ≤ 255) : ACalls Try.prog 47 [p.av, uA k, uA m, uA n] [] (Gives (fieldQ p k m n).av) := by
  have hbs := hp.classes.1
  simp only [small] at hbs
  obtain ⟨cY, hcY⟩ : ∃ c, c = p.classes.getD (m.tmod p.classes.length).toNat default := ⟨_, rfl⟩
  obtain ⟨fZ, hfZ⟩ : ∃ c, c = cY.fields.getD (n.tmod cY.fields.length).toNat default := ⟨_, rfl⟩
  have hym : cY ∈ p.classes ∨ p.classes.length = 0 := cls_mem hm.1 hcY
  refine acalls_of (n := 49) Try.func47 rfl (by decide +kernel) rfl rfl ?_
  refine awp_seq ?_
  refine awp_region ?_
  refine aops_n (w0 rfl) rfl (fun id => eff_box id rfl rfl rfl rfl rfl) (fun id1 => ?_)
  refine aops_n (w0 rfl) rfl (fun id => eff_alloc id rfl rfl rfl) (fun id2 => ?_)
  refine aops_nil ?_
  refine awp_seq ?_
  refine awp_region ?_
  refine aops_load_ptr 1 (w0 rfl) rfl rfl rfl rfl rfl (ld_agg (Nat.le_of_ble_eq_true rfl)) ?_
  refine aops_e (w0 rfl) rfl (eff_move rfl rfl) ?_
  refine aops_e (w0 rfl) rfl (eff_move rfl rfl) ?_
  refine aops_e (w0 rfl) rfl (eff_move rfl rfl) ?_
  refine aops_e (w0 rfl) rfl (eff_call [] rfl rfl rfl (c_asked p hp k m n hk hm hn) List.nodup_nil) ?_
  refine aops_e (w0 rfl) rfl (eff_field rfl rfl rfl) ?_
  refine aops_e (w0 rfl) rfl (eff_build rfl rfl rfl) ?_
  refine aops_n (w0 rfl) rfl (fun id => eff_alloc id rfl rfl rfl) (fun id3 => ?_)
  refine aops_store 0 (w0 rfl) rfl rfl rfl rfl rfl rfl rfl rfl rfl ?_
  refine aops_nil ?_
  refine awp_seq ?_
  refine awp_seq ?_
  refine awp_region ?_
  refine aops_e (w0 rfl) rfl (eff_fieldAddr rfl rfl rfl) ?_
  refine aops_load_ptr 2 (w0 rfl) rfl rfl rfl rfl rfl ld_one ?_
  refine aops_e (w0 rfl) rfl (eff_len rfl rfl rfl rfl) ?_
  refine aops_e (w0 rfl) rfl (eff_icmp rfl rfl rfl rfl) ?_
  refine aops_nil ?_
  refine awp_cond rfl ?_ ?_
  · intro hc
    have hcl : 0 < p.classes.length := by simpa using hc
    have hq : ¬ p.classes.length = 0 := by omega
    have hn2 := hn
    have hlm := near_lt hcl hm.1
    have hms := (hp.classes.2 cY (hym.resolve_right hq)).fields.1
    simp only [small] at hms
    refine awp_seq ?_
    refine awp_drawN 11 rfl (by kernel_rfl) ?_
    refine calm_e (w0 rfl) rfl (eff_fieldAddr rfl rfl rfl) ?_
    refine calm_load_ptr 2 (w0 rfl) rfl rfl rfl rfl rfl ld_one ?_
    refine calm_e (w0 rfl) rfl (eff_move rfl rfl) ?_
    refine calm_e (w0 rfl) rfl (eff_to (y := iA m) (eff_convInt rfl rfl) (congrArg iA (i64_wrap (by omega)))) ?_
    refine calm_e (w0 rfl) rfl (eff_fieldAddr rfl rfl rfl) ?_
    refine calm_load_ptr 2 (w0 rfl) rfl rfl rfl rfl rfl ld_one ?_
    refine calm_e (w0 rfl) rfl (eff_to (y := iA p.classes.length) (eff_len rfl rfl rfl rfl) (congrArg iA (by simp))) ?_
    refine calm_e (w0 rfl) rfl (eff_rem rfl rfl rfl (by omega)) ?_
    refine calm_e (w0 rfl) rfl (eff_indexAddr_lst rfl rfl rfl (len_map (fun _ => rfl)) (by first | exact Int.tmod_nonneg _ hm.1 | (simp only [List.length_map]; exact Int.tmod_lt_of_pos _ (by omega))) (by first | exact Int.tmod_nonneg _ hm.1 | (simp only [List.length_map]; exact Int.tmod_lt_of_pos _ (by omega)))) ?_
    refine calm_e (w0 rfl) rfl (eff_to (y := cY.av) (eff_loadE rfl rfl (map_get (by omega)) (ld_agg (Nat.le_of_ble_eq_true rfl))) (congrArg Cls.av ((clsD hlm).symm.trans hcY.symm))) ?_
    refine calm_n (w0 rfl) rfl (fun id => eff_alloc id rfl rfl rfl) (fun id4 => ?_)
    refine .done ?_
    refine aops_store 0 (w0 rfl) rfl rfl rfl rfl rfl rfl rfl rfl rfl ?_
    refine aops_nil ?_
    refine awp_seq ?_
    refine awp_region ?_
    refine aops_e (w0 rfl) rfl (eff_fieldAddr rfl rfl rfl) ?_
    refine aops_load_ptr 0 (w0 rfl) rfl rfl rfl rfl rfl ld_one ?_
    refine aops_e (w0 rfl) rfl (eff_len rfl rfl rfl rfl) ?_
    refine aops_e (w0 rfl) rfl (eff_icmp rfl rfl rfl rfl) ?_
    refine aops_nil ?_
    refine awp_cond rfl ?_ ?_
    · intro hc
      have hmz : 0 < cY.fields.length := by simpa using hc
      have hln := near_lt hmz hn.1
      refine awp_drawM [0, 1, 0, 4, 0, 16, 48, 124, 255, 511, 1023, 2047, 4095] 12 rfl (by kernel_rfl) ?_
      refine calm_e (w0 rfl) rfl (eff_fieldAddr rfl rfl rfl) ?_
      refine calm_load_ptr 0 (w0 rfl) rfl rfl rfl rfl rfl ld_one ?_
      refine calm_e (w0 rfl) rfl (eff_move rfl rfl) ?_
      refine calm_e (w0 rfl) rfl (eff_to (y := iA n) (eff_convInt rfl rfl) (congrArg iA (i64_wrap (by omega)))) ?_
      refine calm_e (w0 rfl) rfl (eff_fieldAddr rfl rfl rfl) ?_
      refine calm_load_ptr 0 (w0 rfl) rfl rfl rfl rfl rfl ld_one ?_
      refine calm_e (w0 rfl) rfl (eff_to (y := iA cY.fields.length) (eff_len rfl rfl rfl rfl) (congrArg iA (by simp))) ?_
      refine calm_e (w0 rfl) rfl (eff_rem rfl rfl rfl (by omega)) ?_
      refine calm_e (w0 rfl) rfl (eff_indexAddr_lst rfl rfl rfl (len_map (fun _ => rfl)) (by first | exact Int.tmod_nonneg _ hn2.1 | (simp only [List.length_map]; exact Int.tmod_lt_of_pos _ (by omega))) (by first | exact Int.tmod_nonneg _ hn2.1 | (simp only [List.length_map]; exact Int.tmod_lt_of_pos _ (by omega)))) ?_
      refine calm_e (w0 rfl) rfl (eff_fieldAddr rfl rfl rfl) ?_
      refine calm_e (w0 rfl) rfl (eff_to (y := sA fZ.name) (eff_loadE rfl rfl (map_get (by omega)) ld_one) (congrArg (fun f : Fld => sA f.name) ((fldD hln).symm.trans hfZ.symm))) ?_
      refine calm_e (w0 rfl) rfl (eff_fieldAddr rfl rfl rfl) ?_
      refine .done ?_
      refine aops_store 1 (w0 rfl) rfl rfl rfl rfl rfl rfl rfl rfl rfl ?_
      refine aops_nil ?_
      refine awp_seq ?_
      refine awp_region ?_
      refine aops_load_ptr 1 (w0 rfl) rfl rfl rfl rfl rfl (ld_agg (Nat.le_of_ble_eq_true rfl)) ?_
      refine aops_store 2 (w0 rfl) rfl rfl rfl rfl rfl rfl rfl rfl rfl ?_
      refine aops_nil ?_
      refine awp_ret ?_
      exact retq rfl (res_cell 2 rfl rfl rfl (ld_agg (Nat.le_of_ble_eq_true rfl)) res_nil) (gvr (by first | (rw [fieldQ_m hq hcY hfZ hmz]; rfl) | (rw [fieldQ_n hq hcY hmz]; rfl) | (rw [fieldQ_z hq]; rfl)))
    · intro hc
      have hmz : ¬ 0 < cY.fields.length := by simpa using hc
      refine awp_skip ?_
      refine awp_seq ?_
      refine awp_region ?_
      refine aops_load_ptr 1 (w0 rfl) rfl rfl rfl rfl rfl (ld_agg (Nat.le_of_ble_eq_true rfl)) ?_
      refine aops_store 2 (w0 rfl) rfl rfl rfl rfl rfl rfl rfl rfl rfl ?_
      refine aops_nil ?_
      refine awp_ret ?_
      exact retq rfl (res_cell 2 rfl rfl rfl (ld_agg (Nat.le_of_ble_eq_true rfl)) res_nil) (gvr (by first | (rw [fieldQ_m hq hcY hfZ hmz]; rfl) | (rw [fieldQ_n hq hcY hmz]; rfl) | (rw [fieldQ_z hq]; rfl)))
  · intro hc
    have hcl : ¬ 0 < p.classes.length := by simpa using hc
    have hq : p.classes.length = 0 := by omega
    refine awp_skip ?_
    refine awp_seq ?_
    refine awp_region ?_
    refine aops_load_ptr 0 (w0 rfl) rfl rfl rfl rfl rfl (ld_agg (Nat.le_of_ble_eq_true rfl)) ?_
    refine aops_store 1 (w0 rfl) rfl rfl rfl rfl rfl rfl rfl rfl rfl ?_
    refine aops_nil ?_
    refine awp_ret ?_
    exact retq rfl (res_cell 1 rfl rfl rfl (ld_agg (Nat.le_of_ble_eq_true rfl)) res_nil) (gvr (by first | (rw [fieldQ_m hq hcY hfZ hmz]; rfl) | (rw [fieldQ_n hq hcY hmz]; rfl) | (rw [fieldQ_z hq]; rfl)))

theorem c_staticO (p : Prog) (hp : p.ok) (hb : p.classes.length ≤ 1000) (m : MRef) {r : Option MRef} (h : declP p (supers p m.cls) m mayS = r) : ACalls Try.prog 52 [p.av, m.av] [] (Gives (.tup [(r.getD zMR).av, bA r.isSome])) := h ▸ c_static p hp hb m
theorem c_dispO (p : Prog) (hp : p.ok) (hb : p.classes.length ≤ 1000) (cl nm d : Str) {r : Option MRef} (h : declP p (supers p cl) ⟨cl, nm, d⟩ mayD = r) : ACalls Try.prog 54 [p.av, sA cl, sA nm, sA d] [] (Gives (.tup [(r.getD zMR).av, bA r.isSome])) := h ▸ c_disp p hp hb cl nm d
theorem c_virtO (p : Prog) (hp : p.ok) (hb : p.classes.length ≤ 1000) (hif : ∀ c, c ∈ p.classes → c.ifaces.length ≤ 1000) (m : MRef) {r : Option MRef} (h : declP p (supers p m.cls ++ ancL p m.cls) m mayV = r) : ACalls Try.prog 55 [p.av, m.av] [] (Gives (.tup [(r.getD zMR).av, bA r.isSome])) := h ▸ c_virt p hp hb hif m
theorem c_fieldO (p : Prog) (hp : p.ok) (hb : p.classes.length ≤ 1000) (f : FRef) {r : Option FRef} (h : fieldW p f = r) : ACalls Try.prog 48 [p.av, f.av] [] (Gives (.tup [(r.getD zFR).av, bA r.isSome])) := h ▸ c_field p hp hb f
theorem c_fieldOfO (p : Prog) (hp : p.ok) (f : FRef) {r : Option Fld} (h : fldP p f = r) : ACalls Try.prog 50 [p.av, f.av] [] (Gives (.tup [(r.getD zFl).av, bA r.isSome])) := h ▸ c_fieldOf p hp f
theorem c_initO (p : Prog) (hp : p.ok) (cl : Str) {r : Option MRef} (h : initP p cl = r) : ACalls Try.prog 76 [p.av, sA cl] [] (Gives (.tup [(r.getD zMR).av, bA r.isSome])) := h ▸ c_init p hp cl

theorem c_live12  : ACalls Try.prog 44 [] [] (Gives (bA true)) := by
  refine acalls_of (n := 126) Try.func44 rfl (by decide +kernel) rfl rfl ?_
  refine awp_seq ?_
  refine awp_region ?_
  refine aops_e (w0 rfl) rfl (eff_assign rfl rfl) ?_
  refine aops_nil ?_
  refine awp_seq ?_
  refine awp_region ?_
  refine aops_e (w0 rfl) rfl (eff_sub (y := lfI.av) (eff_build rfl rfl rfl) (.agg (by repeat' (first | exact .nil | refine .keep ?_ | refine .z ?_)))) ?_
  refine aops_e (w0 rfl) rfl (eff_frz (es := ([lfI] : List Instr).map Instr.cells) (fun id => eff_buildSlice id (ps := [(0, .tmp 19)]) rfl rfl rfl rfl rfl rfl rfl rfl) rfl) ?_
  refine aops_e (w0 rfl) rfl (eff_assign rfl rfl) ?_
  refine aops_nil ?_
  refine awp_seq ?_
  refine awp_region ?_
  refine aops_e (w0 rfl) rfl (eff_move rfl rfl) ?_
  refine aops_e (w0 rfl) rfl (eff_sub (y := lfM.av) (eff_build rfl rfl rfl) (.agg (by repeat' (first | exact .nil | refine .keep ?_ | refine .z ?_)))) ?_
  refine aops_n (w0 rfl) rfl (fun id => eff_alloc id rfl rfl rfl) (fun id1 => ?_)
  refine aops_store 0 (w0 rfl) rfl rfl rfl rfl rfl rfl rfl rfl rfl ?_
  refine aops_nil ?_
  refine awp_seq ?_
  refine awp_region ?_
  refine aops_e (w0 rfl) rfl (eff_move rfl rfl) ?_
  refine aops_e (w0 rfl) rfl (eff_sub (y := lfS.av) (eff_build rfl rfl rfl) (.agg (by repeat' (first | exact .nil | refine .keep ?_ | refine .z ?_)))) ?_
  refine aops_n (w0 rfl) rfl (fun id => eff_alloc id rfl rfl rfl) (fun id2 => ?_)
  refine aops_store 0 (w0 rfl) rfl rfl rfl rfl rfl rfl rfl rfl rfl ?_
  refine aops_nil ?_
  refine awp_seq ?_
  refine awp_region ?_
  refine aops_e (w0 rfl) rfl (eff_build rfl rfl rfl) ?_
  refine aops_e (w0 rfl) rfl (eff_sub (y := lfF.av) (eff_build rfl rfl rfl) (.agg (by repeat' (first | exact .nil | refine .keep ?_ | refine .z ?_)))) ?_
  refine aops_e (w0 rfl) rfl (eff_frz (es := ([lfF] : List Fld).map Fld.cells) (fun id => eff_buildSlice id (ps := [(0, .tmp 26)]) rfl rfl rfl rfl rfl rfl rfl rfl) rfl) ?_
  refine aops_load_ptr 1 (w0 rfl) rfl rfl rfl rfl rfl (ld_agg (Nat.le_of_ble_eq_true rfl)) ?_
  refine aops_load_ptr 0 (w0 rfl) rfl rfl rfl rfl rfl (ld_agg (Nat.le_of_ble_eq_true rfl)) ?_
  refine aops_e (w0 rfl) rfl (eff_frz (es := ([lfM, lfS] : List Meth).map Meth.cells) (fun id => eff_buildSlice id (ps := [(0, .tmp 28), (1, .tmp 29)]) rfl rfl rfl rfl rfl rfl rfl rfl) rfl) ?_
  refine aops_e (w0 rfl) rfl (eff_sub (y := lfA.av) (eff_build rfl rfl rfl) (.agg (by repeat' (first | exact .nil | refine .keep ?_ | refine .z ?_)))) ?_
  refine aops_e (w0 rfl) rfl (eff_sub (y := lfB.av) (eff_build rfl rfl rfl) (.agg (by repeat' (first | exact .nil | refine .keep ?_ | refine .z ?_)))) ?_
  refine aops_e (w0 rfl) rfl (eff_frz (es := lfP.classes.map Cls.cells) (fun id => eff_buildSlice id (ps := [(0, .tmp 31), (1, .tmp 32)]) rfl rfl rfl rfl rfl rfl rfl rfl) rfl) ?_
  refine aops_e (w0 rfl) rfl (eff_sub (y := lfP.av) (eff_build rfl rfl rfl) (.agg (by repeat' (first | exact .nil | refine .keep ?_ | refine .z ?_)))) ?_
  refine aops_n (w0 rfl) rfl (fun id => eff_alloc id rfl rfl rfl) (fun id3 => ?_)
  refine aops_store 0 (w0 rfl) rfl rfl rfl rfl rfl rfl rfl rfl rfl ?_
  refine aops_nil ?_
  refine awp_seq ?_
  refine awp_region ?_
  refine aops_load_ptr 0 (w0 rfl) rfl rfl rfl rfl rfl (ld_agg (Nat.le_of_ble_eq_true rfl)) ?_
  refine aops_e (w0 rfl) rfl (eff_call [] rfl rfl rfl (c_dispO lfP lfP_ok (by decide) nB nm1 nVd (r := some ⟨nA, nm1, nVd⟩) (by decide +kernel)) List.nodup_nil) ?_
  refine aops_e (w0 rfl) rfl (eff_move rfl rfl) ?_
  refine aops_e (w0 rfl) rfl (eff_extract rfl rfl rfl) ?_
  refine aops_e (w0 rfl) rfl (eff_extract rfl rfl rfl) ?_
  refine aops_n (w0 rfl) rfl (fun id => eff_alloc id rfl rfl rfl) (fun id4 => ?_)
  refine aops_store 0 (w0 rfl) rfl rfl rfl rfl rfl rfl rfl rfl rfl ?_
  refine aops_e (w0 rfl) rfl (eff_assign rfl rfl) ?_
  refine aops_nil ?_
  refine awp_seq ?_
  refine awp_region ?_
  refine aops_load_ptr 1 (w0 rfl) rfl rfl rfl rfl rfl (ld_agg (Nat.le_of_ble_eq_true rfl)) ?_
  refine aops_e (w0 rfl) rfl (eff_build rfl rfl rfl) ?_
  refine aops_e (w0 rfl) rfl (eff_call [] rfl rfl rfl (c_staticO lfP lfP_ok (by decide) ⟨nB, ns1, nVd⟩ (r := some ⟨nA, ns1, nVd⟩) (by decide +kernel)) List.nodup_nil) ?_
  refine aops_e (w0 rfl) rfl (eff_move rfl rfl) ?_
  refine aops_e (w0 rfl) rfl (eff_extract rfl rfl rfl) ?_
  refine aops_e (w0 rfl) rfl (eff_extract rfl rfl rfl) ?_
  refine aops_n (w0 rfl) rfl (fun id => eff_alloc id rfl rfl rfl) (fun id5 => ?_)
  refine aops_store 0 (w0 rfl) rfl rfl rfl rfl rfl rfl rfl rfl rfl ?_
  refine aops_e (w0 rfl) rfl (eff_assign rfl rfl) ?_
  refine aops_nil ?_
  refine awp_seq ?_
  refine awp_region ?_
  refine aops_load_ptr 2 (w0 rfl) rfl rfl rfl rfl rfl (ld_agg (Nat.le_of_ble_eq_true rfl)) ?_
  refine aops_e (w0 rfl) rfl (eff_build rfl rfl rfl) ?_
  refine aops_e (w0 rfl) rfl (eff_call [] rfl rfl rfl (c_fieldO lfP lfP_ok (by decide) ⟨nB, nf1⟩ (r := some ⟨nA, nf1⟩) (by decide +kernel)) List.nodup_nil) ?_
  refine aops_e (w0 rfl) rfl (eff_move rfl rfl) ?_
  refine aops_e (w0 rfl) rfl (eff_extract rfl rfl rfl) ?_
  refine aops_e (w0 rfl) rfl (eff_extract rfl rfl rfl) ?_
  refine aops_n (w0 rfl) rfl (fun id => eff_alloc id rfl rfl rfl) (fun id6 => ?_)
  refine aops_store 0 (w0 rfl) rfl rfl rfl rfl rfl rfl rfl rfl rfl ?_
  refine aops_e (w0 rfl) rfl (eff_assign rfl rfl) ?_
  refine aops_nil ?_
  refine awp_seq ?_
  refine awp_region ?_
  refine aops_load_ptr 3 (w0 rfl) rfl rfl rfl rfl rfl (ld_agg (Nat.le_of_ble_eq_true rfl)) ?_
  refine aops_e (w0 rfl) rfl (eff_build rfl rfl rfl) ?_
  refine aops_e (w0 rfl) rfl (eff_call [] rfl rfl rfl (c_virtO lfP lfP_ok (by decide) (by decide) ⟨nB, nm1, nVd⟩ (r := some ⟨nA, nm1, nVd⟩) lfP_virt) List.nodup_nil) ?_
  refine aops_e (w0 rfl) rfl (eff_move rfl rfl) ?_
  refine aops_e (w0 rfl) rfl (eff_extract rfl rfl rfl) ?_
  refine aops_e (w0 rfl) rfl (eff_extract rfl rfl rfl) ?_
  refine aops_n (w0 rfl) rfl (fun id => eff_alloc id rfl rfl rfl) (fun id7 => ?_)
  refine aops_store 0 (w0 rfl) rfl rfl rfl rfl rfl rfl rfl rfl rfl ?_
  refine aops_e (w0 rfl) rfl (eff_assign rfl rfl) ?_
  refine aops_nil ?_
  refine awp_seq ?_
  refine awp_region ?_
  refine aops_load_ptr 4 (w0 rfl) rfl rfl rfl rfl rfl (ld_agg (Nat.le_of_ble_eq_true rfl)) ?_
  refine aops_e (w0 rfl) rfl (eff_call [] rfl rfl rfl (c_initO lfP lfP_ok nA (r := none) (by decide +kernel)) List.nodup_nil) ?_
  refine aops_e (w0 rfl) rfl (eff_move rfl rfl) ?_
  refine aops_e (w0 rfl) rfl (eff_extract rfl rfl rfl) ?_
  refine aops_e (w0 rfl) rfl (eff_extract rfl rfl rfl) ?_
  refine aops_n (w0 rfl) rfl (fun id => eff_alloc id rfl rfl rfl) (fun id8 => ?_)
  refine aops_store 0 (w0 rfl) rfl rfl rfl rfl rfl rfl rfl rfl rfl ?_
  refine aops_e (w0 rfl) rfl (eff_assign rfl rfl) ?_
  refine aops_nil ?_
  refine awp_seq ?_
  refine awp_region ?_
  refine aops_load_ptr 5 (w0 rfl) rfl rfl rfl rfl rfl (ld_agg (Nat.le_of_ble_eq_true rfl)) ?_
  refine aops_load_ptr 4 (w0 rfl) rfl rfl rfl rfl rfl (ld_agg (Nat.le_of_ble_eq_true rfl)) ?_
  refine aops_e (w0 rfl) rfl (eff_call [] rfl rfl rfl (c_getO lfP lfP_ok ⟨nA, nm1, nVd⟩ (r := some lfM) (by decide +kernel)) List.nodup_nil) ?_
  refine aops_e (w0 rfl) rfl (eff_move rfl rfl) ?_
  refine aops_e (w0 rfl) rfl (eff_extract rfl rfl rfl) ?_
  refine aops_e (w0 rfl) rfl (eff_extract rfl rfl rfl) ?_
  refine aops_n (w0 rfl) rfl (fun id => eff_alloc id rfl rfl rfl) (fun id9 => ?_)
  refine aops_store 0 (w0 rfl) rfl rfl rfl rfl rfl rfl rfl rfl rfl ?_
  refine aops_e (w0 rfl) rfl (eff_assign rfl rfl) ?_
  refine aops_nil ?_
  refine awp_seq ?_
  refine awp_region ?_
  refine aops_load_ptr 6 (w0 rfl) rfl rfl rfl rfl rfl (ld_agg (Nat.le_of_ble_eq_true rfl)) ?_
  refine aops_load_ptr 3 (w0 rfl) rfl rfl rfl rfl rfl (ld_agg (Nat.le_of_ble_eq_true rfl)) ?_
  refine aops_e (w0 rfl) rfl (eff_call [] rfl rfl rfl (c_fieldOfO lfP lfP_ok ⟨nA, nf1⟩ (r := some lfF) (by decide +kernel)) List.nodup_nil) ?_
  refine aops_e (w0 rfl) rfl (eff_move rfl rfl) ?_
  refine aops_e (w0 rfl) rfl (eff_extract rfl rfl rfl) ?_
  refine aops_e (w0 rfl) rfl (eff_extract rfl rfl rfl) ?_
  refine aops_n (w0 rfl) rfl (fun id => eff_alloc id rfl rfl rfl) (fun id10 => ?_)
  refine aops_store 0 (w0 rfl) rfl rfl rfl rfl rfl rfl rfl rfl rfl ?_
  refine aops_e (w0 rfl) rfl (eff_assign rfl rfl) ?_
  refine aops_nil ?_
  refine awp_seq ?_
  refine awp_region ?_
  refine aops_e (w0 rfl) rfl (eff_move rfl rfl) ?_
  refine aops_e (w0 rfl) rfl (eff_move rfl rfl) ?_
  refine aops_e (wT (d := true) rfl rfl rfl rfl) rfl (eff_fieldAddr rfl rfl rfl) ?_
  refine aops_load_ptr 6 (wT (d := true) rfl rfl rfl rfl) rfl rfl rfl rfl rfl ld_one ?_
  refine aops_e (wT (d := true) rfl rfl rfl rfl) rfl (eff_to (y := bA true) (eff_scmp rfl rfl rfl rfl) (congrArg bA (by decide +kernel))) ?_
  refine aops_e (w0 rfl) rfl (eff_to (y := bA true) (eff_pick (t := true) rfl rfl rfl rfl) rfl) ?_
  refine aops_e (w0 rfl) rfl (eff_move rfl rfl) ?_
  refine aops_e (wT (d := true) rfl rfl rfl rfl) rfl (eff_move rfl rfl) ?_
  refine aops_e (w0 rfl) rfl (eff_to (y := bA true) (eff_pick (t := true) rfl rfl rfl rfl) rfl) ?_
  refine aops_e (w0 rfl) rfl (eff_move rfl rfl) ?_
  refine aops_e (wT (d := true) rfl rfl rfl rfl) rfl (eff_fieldAddr rfl rfl rfl) ?_
  refine aops_load_ptr 5 (wT (d := true) rfl rfl rfl rfl) rfl rfl rfl rfl rfl ld_one ?_
  refine aops_e (wT (d := true) rfl rfl rfl rfl) rfl (eff_to (y := bA true) (eff_scmp rfl rfl rfl rfl) (congrArg bA (by decide +kernel))) ?_
  refine aops_e (w0 rfl) rfl (eff_to (y := bA true) (eff_pick (t := true) rfl rfl rfl rfl) rfl) ?_
  refine aops_e (w0 rfl) rfl (eff_move rfl rfl) ?_
  refine aops_e (wT (d := true) rfl rfl rfl rfl) rfl (eff_move rfl rfl) ?_
  refine aops_e (w0 rfl) rfl (eff_to (y := bA true) (eff_pick (t := true) rfl rfl rfl rfl) rfl) ?_
  refine aops_e (w0 rfl) rfl (eff_move rfl rfl) ?_
  refine aops_load_ptr 4 (wT (d := true) rfl rfl rfl rfl) rfl rfl rfl rfl rfl (ld_agg (Nat.le_of_ble_eq_true rfl)) ?_
  refine aops_e (wT (d := true) rfl rfl rfl rfl) rfl (eff_build rfl rfl rfl) ?_
  refine aops_e (wT (d := true) rfl rfl rfl rfl) rfl (eff_to (y := bA true) (eff_eql rfl rfl rfl rfl rfl) (congrArg bA (by decide +kernel))) ?_
  refine aops_e (w0 rfl) rfl (eff_to (y := bA true) (eff_pick (t := true) rfl rfl rfl rfl) rfl) ?_
  refine aops_e (w0 rfl) rfl (eff_move rfl rfl) ?_
  refine aops_e (wT (d := true) rfl rfl rfl rfl) rfl (eff_move rfl rfl) ?_
  refine aops_e (w0 rfl) rfl (eff_to (y := bA true) (eff_pick (t := true) rfl rfl rfl rfl) rfl) ?_
  refine aops_e (w0 rfl) rfl (eff_move rfl rfl) ?_
  refine aops_load_ptr 3 (wT (d := true) rfl rfl rfl rfl) rfl rfl rfl rfl rfl (ld_agg (Nat.le_of_ble_eq_true rfl)) ?_
  refine aops_load_ptr 6 (wT (d := true) rfl rfl rfl rfl) rfl rfl rfl rfl rfl (ld_agg (Nat.le_of_ble_eq_true rfl)) ?_
  refine aops_e (wT (d := true) rfl rfl rfl rfl) rfl (eff_to (y := bA true) (eff_eql rfl rfl rfl rfl rfl) (congrArg bA (by decide +kernel))) ?_
  refine aops_e (w0 rfl) rfl (eff_to (y := bA true) (eff_pick (t := true) rfl rfl rfl rfl) rfl) ?_
  refine aops_e (w0 rfl) rfl (eff_move rfl rfl) ?_
  refine aops_e (wT (d := true) rfl rfl rfl rfl) rfl (eff_move rfl rfl) ?_
  refine aops_e (wT (d := true) rfl rfl rfl rfl) rfl (eff_to (y := bA true) (eff_not rfl rfl) (congrArg bA (by decide +kernel))) ?_
  refine aops_e (w0 rfl) rfl (eff_to (y := bA true) (eff_pick (t := true) rfl rfl rfl rfl) rfl) ?_
  refine aops_e (w0 rfl) rfl (eff_move rfl rfl) ?_
  refine aops_e (wT (d := true) rfl rfl rfl rfl) rfl (eff_move rfl rfl) ?_
  refine aops_e (w0 rfl) rfl (eff_to (y := bA true) (eff_pick (t := true) rfl rfl rfl rfl) rfl) ?_
  refine aops_e (w0 rfl) rfl (eff_move rfl rfl) ?_
  refine aops_e (wT (d := true) rfl rfl rfl rfl) rfl (eff_fieldAddr rfl rfl rfl) ?_
  refine aops_load_ptr 1 (wT (d := true) rfl rfl rfl rfl) rfl rfl rfl rfl rfl ld_one ?_
  refine aops_e (wT (d := true) rfl rfl rfl rfl) rfl (eff_to (y := bA true) (eff_scmp rfl rfl rfl rfl) (congrArg bA (by decide +kernel))) ?_
  refine aops_e (w0 rfl) rfl (eff_to (y := bA true) (eff_pick (t := true) rfl rfl rfl rfl) rfl) ?_
  refine aops_e (w0 rfl) rfl (eff_move rfl rfl) ?_
  refine aops_e (wT (d := true) rfl rfl rfl rfl) rfl (eff_move rfl rfl) ?_
  refine aops_e (w0 rfl) rfl (eff_to (y := bA true) (eff_pick (t := true) rfl rfl rfl rfl) rfl) ?_
  refine aops_e (w0 rfl) rfl (eff_move rfl rfl) ?_
  refine aops_e (wT (d := true) rfl rfl rfl rfl) rfl (eff_fieldAddr rfl rfl rfl) ?_
  refine aops_e (wT (d := true) rfl rfl rfl rfl) rfl (eff_fieldAddr rfl rfl rfl) ?_
  refine aops_load_ptr 0 (wT (d := true) rfl rfl rfl rfl) rfl rfl rfl rfl rfl ld_one ?_
  refine aops_e (wT (d := true) rfl rfl rfl rfl) rfl (eff_to (y := bA true) (eff_icmp rfl rfl rfl rfl) (congrArg bA (by decide +kernel))) ?_
  refine aops_e (w0 rfl) rfl (eff_to (y := bA true) (eff_pick (t := true) rfl rfl rfl rfl) rfl) ?_
  refine aops_e (w0 rfl) rfl (eff_assign rfl rfl) ?_
  refine aops_nil ?_
  refine awp_ret ?_
  exact retq rfl (res_tmp rfl res_nil) (gb rfl)

theorem c_findFields (p : Prog) (hp : p.ok) (k : Int) (m : Int) (n : Int) (hk : 0 ≤ k ∧ k ≤ 255) (hm : 0 ≤ m ∧ m ≤ 255) (hn : 0 ≤ n ∧ n ≤ 255) : ACalls Try.prog 11 [p.av, .agg [uA k, uA m, uA n]] [] (Gives (bA true)) := by
  refine acalls_of (n := 70) Try.func11 rfl (by decide +kernel) rfl rfl ?_
  refine awp_seq ?_
  refine awp_region ?_
  refine aops_n (w0 rfl) rfl (fun id => eff_box id rfl rfl rfl rfl rfl) (fun id1 => ?_)
  refine aops_n (w0 rfl) rfl (fun id => eff_box id rfl rfl rfl rfl rfl) (fun id2 => ?_)
  refine aops_e (w0 rfl) rfl (eff_assign rfl rfl) ?_
  refine aops_nil ?_
  refine awp_seq ?_
  refine awp_seq ?_
  refine awp_region ?_
  refine aops_load_ptr 1 (w0 rfl) rfl rfl rfl rfl rfl (ld_agg (Nat.le_of_ble_eq_true rfl)) ?_
  refine aops_e (w0 rfl) rfl (eff_call [] rfl rfl rfl (c_great p hp) List.nodup_nil) ?_
  refine aops_nil ?_
  refine awp_cond rfl ?_ ?_
  · intro hc
    refine awp_seq ?_
    refine awp_region ?_
    refine aops_e (w0 rfl) rfl (eff_call [] rfl rfl rfl c_live12 List.nodup_nil) ?_
    refine aops_e (w0 rfl) rfl (eff_assign rfl rfl) ?_
    refine aops_nil ?_
    refine awp_ret ?_
    exact retq rfl (res_tmp rfl res_nil) (gb rfl)
  · intro hc
    have hq : greatP p = false := hc
    have hb := greatP_len hq
    have hif := greatP_if hq
    have hbs : small p.classes.length := by unfold small; omega
    refine awp_skip ?_
    refine awp_seq ?_
    refine awp_region ?_
    refine aops_load_ptr 1 (w0 rfl) rfl rfl rfl rfl rfl (ld_agg (Nat.le_of_ble_eq_true rfl)) ?_
    refine aops_e (w0 rfl) rfl (eff_indexAddr_arr rfl rfl rfl (by first | omega | (simp only [List.length_map]; omega)) (by first | omega | (simp only [List.length_map]; omega)) rfl) ?_
    refine aops_load_ptr 0 (w0 rfl) rfl rfl rfl rfl rfl ld_one ?_
    refine aops_e (w0 rfl) rfl (eff_indexAddr_arr rfl rfl rfl (by first | omega | (simp only [List.length_map]; omega)) (by first | omega | (simp only [List.length_map]; omega)) rfl) ?_
    refine aops_load_ptr 0 (w0 rfl) rfl rfl rfl rfl rfl ld_one ?_
    refine aops_e (w0 rfl) rfl (eff_indexAddr_arr rfl rfl rfl (by first | omega | (simp only [List.length_map]; omega)) (by first | omega | (simp only [List.length_map]; omega)) rfl) ?_
    refine aops_load_ptr 0 (w0 rfl) rfl rfl rfl rfl rfl ld_one ?_
    refine aops_e (w0 rfl) rfl (eff_call [] rfl rfl rfl (c_fieldQ p hp k m n hk hm hn) List.nodup_nil) ?_
    refine aops_n (w0 rfl) rfl (fun id => eff_alloc id rfl rfl rfl) (fun id3 => ?_)
    refine aops_store 0 (w0 rfl) rfl rfl rfl rfl rfl rfl rfl rfl rfl ?_
    refine aops_nil ?_
    refine awp_seq ?_
    refine awp_region ?_
    refine aops_load_ptr 2 (w0 rfl) rfl rfl rfl rfl rfl (ld_agg (Nat.le_of_ble_eq_true rfl)) ?_
    refine aops_load_ptr 0 (w0 rfl) rfl rfl rfl rfl rfl (ld_agg (Nat.le_of_ble_eq_true rfl)) ?_
    refine aops_e (w0 rfl) rfl (eff_call [] rfl rfl rfl (c_field p hp hb (fieldQ p k m n)) List.nodup_nil) ?_
    refine aops_e (w0 rfl) rfl (eff_move rfl rfl) ?_
    refine aops_e (w0 rfl) rfl (eff_extract rfl rfl rfl) ?_
    refine aops_e (w0 rfl) rfl (eff_extract rfl rfl rfl) ?_
    refine aops_n (w0 rfl) rfl (fun id => eff_alloc id rfl rfl rfl) (fun id4 => ?_)
    refine aops_store 0 (w0 rfl) rfl rfl rfl rfl rfl rfl rfl rfl rfl ?_
    refine aops_e (w0 rfl) rfl (eff_assign rfl rfl) ?_
    refine aops_nil ?_
    refine awp_seq ?_
    refine awp_region ?_
    refine aops_load_ptr 3 (w0 rfl) rfl rfl rfl rfl rfl (ld_agg (Nat.le_of_ble_eq_true rfl)) ?_
    refine aops_load_ptr 1 (w0 rfl) rfl rfl rfl rfl rfl (ld_agg (Nat.le_of_ble_eq_true rfl)) ?_
    refine aops_e (w0 rfl) rfl (eff_call [] rfl rfl rfl (c_refField p hp hb (fieldQ p k m n)) List.nodup_nil) ?_
    refine aops_e (w0 rfl) rfl (eff_move rfl rfl) ?_
    refine aops_e (w0 rfl) rfl (eff_extract rfl rfl rfl) ?_
    refine aops_e (w0 rfl) rfl (eff_extract rfl rfl rfl) ?_
    refine aops_n (w0 rfl) rfl (fun id => eff_alloc id rfl rfl rfl) (fun id5 => ?_)
    refine aops_store 0 (w0 rfl) rfl rfl rfl rfl rfl rfl rfl rfl rfl ?_
    refine aops_e (w0 rfl) rfl (eff_assign rfl rfl) ?_
    refine aops_nil ?_
    refine awp_seq ?_
    refine awp_region ?_
    refine aops_load_ptr 4 (w0 rfl) rfl rfl rfl rfl rfl (ld_agg (Nat.le_of_ble_eq_true rfl)) ?_
    refine aops_load_ptr 2 (w0 rfl) rfl rfl rfl rfl rfl (ld_agg (Nat.le_of_ble_eq_true rfl)) ?_
    refine aops_e (w0 rfl) rfl (eff_call [] rfl rfl rfl (c_fieldOf p hp (fieldQ p k m n)) List.nodup_nil) ?_
    refine aops_e (w0 rfl) rfl (eff_move rfl rfl) ?_
    refine aops_e (w0 rfl) rfl (eff_extract rfl rfl rfl) ?_
    refine aops_e (w0 rfl) rfl (eff_extract rfl rfl rfl) ?_
    refine aops_n (w0 rfl) rfl (fun id => eff_alloc id rfl rfl rfl) (fun id6 => ?_)
    refine aops_store 0 (w0 rfl) rfl rfl rfl rfl rfl rfl rfl rfl rfl ?_
    refine aops_e (w0 rfl) rfl (eff_assign rfl rfl) ?_
    refine aops_nil ?_
    refine awp_seq ?_
    refine awp_region ?_
    refine aops_load_ptr 5 (w0 rfl) rfl rfl rfl rfl rfl (ld_agg (Nat.le_of_ble_eq_true rfl)) ?_
    refine aops_load_ptr 3 (w0 rfl) rfl rfl rfl rfl rfl (ld_agg (Nat.le_of_ble_eq_true rfl)) ?_
    refine aops_e (w0 rfl) rfl (eff_call [] rfl rfl rfl (c_refFieldOf p hp (fieldQ p k m n)) List.nodup_nil) ?_
    refine aops_e (w0 rfl) rfl (eff_move rfl rfl) ?_
    refine aops_e (w0 rfl) rfl (eff_extract rfl rfl rfl) ?_
    refine aops_e (w0 rfl) rfl (eff_extract rfl rfl rfl) ?_
    refine aops_n (w0 rfl) rfl (fun id => eff_alloc id rfl rfl rfl) (fun id7 => ?_)
    refine aops_store 0 (w0 rfl) rfl rfl rfl rfl rfl rfl rfl rfl rfl ?_
    refine aops_e (w0 rfl) rfl (eff_assign rfl rfl) ?_
    refine aops_nil ?_
    refine awp_seq ?_
    refine awp_region ?_
    refine aops_e (w0 rfl) rfl (eff_call [] rfl rfl rfl c_live12 List.nodup_nil) ?_
    refine aops_e (w0 rfl) rfl (eff_move rfl rfl) ?_
    refine aops_gload 3 (wT rfl rfl rfl rfl) rfl rfl (fun hg => rfl) rfl rfl (ld_agg (Nat.le_of_ble_eq_true rfl)) ?_
    refine aops_gload 2 (wT rfl rfl rfl rfl) rfl rfl (fun hg => rfl) rfl rfl (ld_agg (Nat.le_of_ble_eq_true rfl)) ?_
    refine aops_g (wT rfl rfl rfl rfl) rfl (fun hg => (eff_to (y := bA true) (eff_eql rfl (ev_g hg rfl) (ev_g hg rfl) rfl rfl) (congrArg bA (ceqs_qself ((fieldW p (fieldQ p k m n)).getD zFR))))) ?_
    refine aops_e (w0 rfl) rfl (eff_and rfl rfl rfl (fun h => h)) ?_
    refine aops_e (w0 rfl) rfl (eff_move rfl rfl) ?_
    refine aops_g (wT rfl rfl rfl rfl) rfl (fun hg => (eff_move rfl rfl)) ?_
    refine aops_g (wT rfl rfl rfl rfl) rfl (fun hg => (eff_move rfl rfl)) ?_
    refine aops_g (wT rfl rfl rfl rfl) rfl (fun hg => (eff_beq rfl (ev_g hg rfl) (ev_g hg rfl) rfl)) ?_
    refine aops_e (w0 rfl) rfl (eff_and rfl rfl rfl (fun h => h)) ?_
    refine aops_e (w0 rfl) rfl (eff_move rfl rfl) ?_
    refine aops_gload 1 (wT rfl rfl rfl rfl) rfl rfl (fun hg => rfl) rfl rfl (ld_agg (Nat.le_of_ble_eq_true rfl)) ?_
    refine aops_gload 0 (wT rfl rfl rfl rfl) rfl rfl (fun hg => rfl) rfl rfl (ld_agg (Nat.le_of_ble_eq_true rfl)) ?_
    refine aops_g (wT rfl rfl rfl rfl) rfl (fun hg => (eff_to (y := bA true) (eff_eql rfl (ev_g hg rfl) (ev_g hg rfl) rfl rfl) (congrArg bA (ceqs_fself ((fldP p (fieldQ p k m n)).getD zFl))))) ?_
    refine aops_e (w0 rfl) rfl (eff_and rfl rfl rfl (fun h => h)) ?_
    refine aops_e (w0 rfl) rfl (eff_move rfl rfl) ?_
    refine aops_g (wT rfl rfl rfl rfl) rfl (fun hg => (eff_move rfl rfl)) ?_
    refine aops_g (wT rfl rfl rfl rfl) rfl (fun hg => (eff_move rfl rfl)) ?_
    refine aops_g (wT rfl rfl rfl rfl) rfl (fun hg => (eff_beq rfl (ev_g hg rfl) (ev_g hg rfl) rfl)) ?_
    refine aops_e (w0 rfl) rfl (eff_and rfl rfl rfl (fun h => h)) ?_
    refine aops_e (w0 rfl) rfl (eff_assign rfl rfl) ?_
    refine aops_nil ?_
    refine awp_ret ?_
    exact retq rfl (res_tmp rfl res_nil) (gb (by simp))

theorem c_findDeclared (p : Prog) (hp : p.ok) (k : Int) (m : Int) (n : Int) (hk : 0 ≤ k ∧ k ≤ 255) (hm : 0 ≤ m ∧ m ≤ 255) (hn : 0 ≤ n ∧ n ≤ 255) : ACalls Try.prog 12 [p.av, .agg [uA k, uA m, uA n]] [] (Gives (bA true)) := by
  refine acalls_of (n := 149) Try.func12 rfl (by decide +kernel) rfl rfl ?_
  refine awp_seq ?_
  refine awp_region ?_
  refine aops_n (w0 rfl) rfl (fun id => eff_box id rfl rfl rfl rfl rfl) (fun id1 => ?_)
  refine aops_n (w0 rfl) rfl (fun id => eff_box id rfl rfl rfl rfl rfl) (fun id2 => ?_)
  refine aops_e (w0 rfl) rfl (eff_assign rfl rfl) ?_
  refine aops_nil ?_
  refine awp_seq ?_
  refine awp_seq ?_
  refine awp_region ?_
  refine aops_load_ptr 1 (w0 rfl) rfl rfl rfl rfl rfl (ld_agg (Nat.le_of_ble_eq_true rfl)) ?_
  refine aops_e (w0 rfl) rfl (eff_call [] rfl rfl rfl (c_great p hp) List.nodup_nil) ?_
  refine aops_nil ?_
  refine awp_cond rfl ?_ ?_
  · intro hc
    refine awp_seq ?_
    refine awp_region ?_
    refine aops_e (w0 rfl) rfl (eff_call [] rfl rfl rfl c_live12 List.nodup_nil) ?_
    refine aops_e (w0 rfl) rfl (eff_assign rfl rfl) ?_
    refine aops_nil ?_
    refine awp_ret ?_
    exact retq rfl (res_tmp rfl res_nil) (gb rfl)
  · intro hc
    have hq : greatP p = false := hc
    have hb := greatP_len hq
    have hif := greatP_if hq
    have hbs : small p.classes.length := by unfold small; omega
    refine awp_skip ?_
    refine awp_seq ?_
    refine awp_region ?_
    refine aops_load_ptr 1 (w0 rfl) rfl rfl rfl rfl rfl (ld_agg (Nat.le_of_ble_eq_true rfl)) ?_
    refine aops_e (w0 rfl) rfl (eff_indexAddr_arr rfl rfl rfl (by first | omega | (simp only [List.length_map]; omega)) (by first | omega | (simp only [List.length_map]; omega)) rfl) ?_
    refine aops_load_ptr 0 (w0 rfl) rfl rfl rfl rfl rfl ld_one ?_
    refine aops_e (w0 rfl) rfl (eff_indexAddr_arr rfl rfl rfl (by first | omega | (simp only [List.length_map]; omega)) (by first | omega | (simp only [List.length_map]; omega)) rfl) ?_
    refine aops_load_ptr 0 (w0 rfl) rfl rfl rfl rfl rfl ld_one ?_
    refine aops_e (w0 rfl) rfl (eff_indexAddr_arr rfl rfl rfl (by first | omega | (simp only [List.length_map]; omega)) (by first | omega | (simp only [List.length_map]; omega)) rfl) ?_
    refine aops_load_ptr 0 (w0 rfl) rfl rfl rfl rfl rfl ld_one ?_
    refine aops_e (w0 rfl) rfl (eff_call [] rfl rfl rfl (c_asked p hp k m n hk hm hn) List.nodup_nil) ?_
    refine aops_n (w0 rfl) rfl (fun id => eff_alloc id rfl rfl rfl) (fun id3 => ?_)
    refine aops_store 0 (w0 rfl) rfl rfl rfl rfl rfl rfl rfl rfl rfl ?_
    refine aops_nil ?_
    refine awp_seq ?_
    refine awp_seq ?_
    refine declS_elim p (supers p (askedP p k m n).cls) (askedP p k m n) mayS (fun hA => ?_) (fun a xa hA hxa hma => ?_)
    · skip
      refine awp_region ?_
      refine aops_load_ptr 2 (w0 rfl) rfl rfl rfl rfl rfl (ld_agg (Nat.le_of_ble_eq_true rfl)) ?_
      refine aops_load_ptr 0 (w0 rfl) rfl rfl rfl rfl rfl (ld_agg (Nat.le_of_ble_eq_true rfl)) ?_
      refine aops_e (w0 rfl) rfl (eff_call [] rfl rfl rfl (c_staticO p hp hb (askedP p k m n) hA) List.nodup_nil) ?_
      refine aops_e (w0 rfl) rfl (eff_move rfl rfl) ?_
      refine aops_e (w0 rfl) rfl (eff_extract rfl rfl rfl) ?_
      refine aops_e (w0 rfl) rfl (eff_extract rfl rfl rfl) ?_
      refine aops_n (w0 rfl) rfl (fun id => eff_alloc id rfl rfl rfl) (fun id4 => ?_)
      refine aops_store 0 (w0 rfl) rfl rfl rfl rfl rfl rfl rfl rfl rfl ?_
      refine aops_e (w0 rfl) rfl (eff_assign rfl rfl) ?_
      refine aops_nil ?_
      refine awp_seq ?_
      refine awp_region ?_
      refine aops_e (w0 rfl) rfl (eff_move rfl rfl) ?_
      refine aops_nil ?_
      refine awp_cond rfl ?_ ?_
      · intro hc
        exfalso; simp at hc
      · intro hc
        refine awp_skip ?_
        refine awp_seq ?_
        refine declS_elim p (supers p (askedP p k m n).cls) (askedP p k m n) mayD (fun hB => ?_) (fun b xb hB hxb hmb => ?_)
        · skip
          refine awp_region ?_
          refine aops_load_ptr 3 (w0 rfl) rfl rfl rfl rfl rfl (ld_agg (Nat.le_of_ble_eq_true rfl)) ?_
          refine aops_e (w0 rfl) rfl (eff_fieldAddr rfl rfl rfl) ?_
          refine aops_load_ptr 1 (w0 rfl) rfl rfl rfl rfl rfl ld_one ?_
          refine aops_e (w0 rfl) rfl (eff_fieldAddr rfl rfl rfl) ?_
          refine aops_load_ptr 1 (w0 rfl) rfl rfl rfl rfl rfl ld_one ?_
          refine aops_e (w0 rfl) rfl (eff_fieldAddr rfl rfl rfl) ?_
          refine aops_load_ptr 1 (w0 rfl) rfl rfl rfl rfl rfl ld_one ?_
          refine aops_e (w0 rfl) rfl (eff_call [] rfl rfl rfl (c_dispO p hp hb (askedP p k m n).cls (askedP p k m n).name (askedP p k m n).desc hB) List.nodup_nil) ?_
          refine aops_e (w0 rfl) rfl (eff_move rfl rfl) ?_
          refine aops_e (w0 rfl) rfl (eff_extract rfl rfl rfl) ?_
          refine aops_e (w0 rfl) rfl (eff_extract rfl rfl rfl) ?_
          refine aops_n (w0 rfl) rfl (fun id => eff_alloc id rfl rfl rfl) (fun id5 => ?_)
          refine aops_store 0 (w0 rfl) rfl rfl rfl rfl rfl rfl rfl rfl rfl ?_
          refine aops_e (w0 rfl) rfl (eff_assign rfl rfl) ?_
          refine aops_nil ?_
          refine awp_seq ?_
          refine awp_seq ?_
          refine awp_region ?_
          refine aops_e (w0 rfl) rfl (eff_move rfl rfl) ?_
          refine aops_nil ?_
          refine awp_cond rfl ?_ ?_
          · intro hc
            exfalso; simp at hc
          · intro hc
            refine awp_skip ?_
            refine awp_seq ?_
            refine awp_region ?_
            refine aops_load_ptr 4 (w0 rfl) rfl rfl rfl rfl rfl (ld_agg (Nat.le_of_ble_eq_true rfl)) ?_
            refine aops_e (w0 rfl) rfl (eff_indexAddr_arr rfl rfl rfl (by first | omega | (simp only [List.length_map]; omega)) (by first | omega | (simp only [List.length_map]; omega)) rfl) ?_
            refine aops_load_ptr 3 (w0 rfl) rfl rfl rfl rfl rfl ld_one ?_
            refine aops_e (w0 rfl) rfl (eff_indexAddr_arr rfl rfl rfl (by first | omega | (simp only [List.length_map]; omega)) (by first | omega | (simp only [List.length_map]; omega)) rfl) ?_
            refine aops_load_ptr 3 (w0 rfl) rfl rfl rfl rfl rfl ld_one ?_
            refine aops_e (w0 rfl) rfl (eff_indexAddr_arr rfl rfl rfl (by first | omega | (simp only [List.length_map]; omega)) (by first | omega | (simp only [List.length_map]; omega)) rfl) ?_
            refine aops_load_ptr 3 (w0 rfl) rfl rfl rfl rfl rfl ld_one ?_
            refine aops_e (w0 rfl) rfl (eff_call [] rfl rfl rfl (c_fieldQ p hp k m n hk hm hn) List.nodup_nil) ?_
            refine aops_n (w0 rfl) rfl (fun id => eff_alloc id rfl rfl rfl) (fun id6 => ?_)
            refine aops_store 0 (w0 rfl) rfl rfl rfl rfl rfl rfl rfl rfl rfl ?_
            refine aops_nil ?_
            refine awp_seq ?_
            refine awp_seq ?_
            refine fieldW_elim p (fieldQ p k m n) (fun hF => ?_) (fun fa hF hf1 hf2 hf3 => ?_)
            · skip
              refine awp_region ?_
              refine aops_load_ptr 5 (w0 rfl) rfl rfl rfl rfl rfl (ld_agg (Nat.le_of_ble_eq_true rfl)) ?_
              refine aops_load_ptr 0 (w0 rfl) rfl rfl rfl rfl rfl (ld_agg (Nat.le_of_ble_eq_true rfl)) ?_
              refine aops_e (w0 rfl) rfl (eff_call [] rfl rfl rfl (c_fieldO p hp hb (fieldQ p k m n) hF) List.nodup_nil) ?_
              refine aops_e (w0 rfl) rfl (eff_move rfl rfl) ?_
              refine aops_e (w0 rfl) rfl (eff_extract rfl rfl rfl) ?_
              refine aops_e (w0 rfl) rfl (eff_extract rfl rfl rfl) ?_
              refine aops_n (w0 rfl) rfl (fun id => eff_alloc id rfl rfl rfl) (fun id7 => ?_)
              refine aops_store 0 (w0 rfl) rfl rfl rfl rfl rfl rfl rfl rfl rfl ?_
              refine aops_e (w0 rfl) rfl (eff_assign rfl rfl) ?_
              refine aops_nil ?_
              refine awp_seq ?_
              refine awp_region ?_
              refine aops_e (w0 rfl) rfl (eff_move rfl rfl) ?_
              refine aops_nil ?_
              refine awp_cond rfl ?_ ?_
              · intro hc
                exfalso; simp at hc
              · intro hc
                refine awp_skip ?_
                refine awp_seq ?_
                refine awp_region ?_
                refine aops_e (w0 rfl) rfl (eff_call [] rfl rfl rfl c_live12 List.nodup_nil) ?_
                refine aops_e (w0 rfl) rfl (eff_assign rfl rfl) ?_
                refine aops_nil ?_
                refine awp_ret ?_
                exact retq rfl (res_tmp rfl res_nil) (gb rfl)
            · skip
              refine awp_region ?_
              refine aops_load_ptr 5 (w0 rfl) rfl rfl rfl rfl rfl (ld_agg (Nat.le_of_ble_eq_true rfl)) ?_
              refine aops_load_ptr 0 (w0 rfl) rfl rfl rfl rfl rfl (ld_agg (Nat.le_of_ble_eq_true rfl)) ?_
              refine aops_e (w0 rfl) rfl (eff_call [] rfl rfl rfl (c_fieldO p hp hb (fieldQ p k m n) hF) List.nodup_nil) ?_
              refine aops_e (w0 rfl) rfl (eff_move rfl rfl) ?_
              refine aops_e (w0 rfl) rfl (eff_extract rfl rfl rfl) ?_
              refine aops_e (w0 rfl) rfl (eff_extract rfl rfl rfl) ?_
              refine aops_n (w0 rfl) rfl (fun id => eff_alloc id rfl rfl rfl) (fun id8 => ?_)
              refine aops_store 0 (w0 rfl) rfl rfl rfl rfl rfl rfl rfl rfl rfl ?_
              refine aops_e (w0 rfl) rfl (eff_assign rfl rfl) ?_
              refine aops_nil ?_
              refine awp_seq ?_
              refine awp_region ?_
              refine aops_e (w0 rfl) rfl (eff_move rfl rfl) ?_
              refine aops_nil ?_
              refine awp_cond rfl ?_ ?_
              · intro hc
                refine awp_seq ?_
                refine awp_region ?_
                refine aops_load_ptr 6 (w0 rfl) rfl rfl rfl rfl rfl (ld_agg (Nat.le_of_ble_eq_true rfl)) ?_
                refine aops_load_ptr 0 (w0 rfl) rfl rfl rfl rfl rfl (ld_agg (Nat.le_of_ble_eq_true rfl)) ?_
                refine aops_e (w0 rfl) rfl (eff_call [] rfl rfl rfl (c_fieldOf p hp fa) List.nodup_nil) ?_
                refine aops_e (w0 rfl) rfl (eff_move rfl rfl) ?_
                refine aops_e (w0 rfl) rfl (eff_extract rfl rfl rfl) ?_
                refine aops_e (w0 rfl) rfl (eff_extract rfl rfl rfl) ?_
                refine aops_n (w0 rfl) rfl (fun id => eff_alloc id rfl rfl rfl) (fun id9 => ?_)
                refine aops_store 0 (w0 rfl) rfl rfl rfl rfl rfl rfl rfl rfl rfl ?_
                refine aops_e (w0 rfl) rfl (eff_assign rfl rfl) ?_
                refine aops_nil ?_
                refine awp_seq ?_
                refine awp_region ?_
                refine aops_e (w0 rfl) rfl (eff_move rfl rfl) ?_
                refine aops_e (w0 rfl) rfl (eff_not rfl rfl) ?_
                refine aops_e (w0 rfl) rfl (eff_move rfl rfl) ?_
                refine aops_gload 7 (wF rfl rfl rfl rfl) rfl rfl (fun hg => rfl) rfl rfl (ld_agg (Nat.le_of_ble_eq_true rfl)) ?_
                refine aops_g (wF rfl rfl rfl rfl) rfl (fun hg => (eff_fieldAddr rfl rfl rfl)) ?_
                refine aops_gload 2 (wF rfl rfl rfl rfl) rfl rfl (fun hg => (ev_g hg rfl)) rfl rfl ld_one ?_
                refine aops_g (wF rfl rfl rfl rfl) rfl (fun hg => (eff_fieldAddr rfl rfl rfl)) ?_
                refine aops_gload 1 (wF rfl rfl rfl rfl) rfl rfl (fun hg => (ev_g hg rfl)) rfl rfl ld_one ?_
                refine aops_g (wF rfl rfl rfl rfl) rfl (fun hg => (eff_call [] rfl rfl (evs_cons (ev_g hg rfl) (evs_cons (ev_g hg rfl) (evs_cons (ev_g hg rfl) evs_nil))) (c_refSub p hb hif (fieldQ p k m n).cls fa.cls) List.nodup_nil)) ?_
                refine aops_g (wF rfl rfl rfl rfl) rfl (fun hg => (eff_not rfl (ev_g hg rfl))) ?_
                refine aops_e (w0 rfl) rfl (eff_or rfl rfl rfl (fun h => by rw [h]; rfl)) ?_
                refine aops_e (w0 rfl) rfl (eff_move rfl rfl) ?_
                refine aops_g (wF rfl rfl rfl rfl) rfl (fun hg => (eff_fieldAddr rfl rfl rfl)) ?_
                refine aops_gload 1 (wF rfl rfl rfl rfl) rfl rfl (fun hg => (ev_g hg rfl)) rfl rfl ld_one ?_
                refine aops_g (wF rfl rfl rfl rfl) rfl (fun hg => (eff_fieldAddr rfl rfl rfl)) ?_
                refine aops_gload 2 (wF rfl rfl rfl rfl) rfl rfl (fun hg => (ev_g hg rfl)) rfl rfl ld_one ?_
                refine aops_g (wF rfl rfl rfl rfl) rfl (fun hg => (eff_scmp rfl (ev_g hg rfl) (ev_g hg rfl) rfl)) ?_
                refine aops_e (w0 rfl) rfl (eff_or rfl rfl rfl (fun h => by rw [h]; rfl)) ?_
                refine aops_nil ?_
                refine awp_cond rfl ?_ ?_
                · intro hc
                  exfalso
                  simp [hf1, hf2, hf3] at hc
                · intro hc
                  refine awp_skip ?_
                  refine awp_seq ?_
                  refine awp_region ?_
                  refine aops_e (w0 rfl) rfl (eff_call [] rfl rfl rfl c_live12 List.nodup_nil) ?_
                  refine aops_e (w0 rfl) rfl (eff_assign rfl rfl) ?_
                  refine aops_nil ?_
                  refine awp_ret ?_
                  exact retq rfl (res_tmp rfl res_nil) (gb rfl)
              · intro hc
                exfalso; simp at hc
        · skip
          refine awp_region ?_
          refine aops_load_ptr 3 (w0 rfl) rfl rfl rfl rfl rfl (ld_agg (Nat.le_of_ble_eq_true rfl)) ?_
          refine aops_e (w0 rfl) rfl (eff_fieldAddr rfl rfl rfl) ?_
          refine aops_load_ptr 1 (w0 rfl) rfl rfl rfl rfl rfl ld_one ?_
          refine aops_e (w0 rfl) rfl (eff_fieldAddr rfl rfl rfl) ?_
          refine aops_load_ptr 1 (w0 rfl) rfl rfl rfl rfl rfl ld_one ?_
          refine aops_e (w0 rfl) rfl (eff_fieldAddr rfl rfl rfl) ?_
          refine aops_load_ptr 1 (w0 rfl) rfl rfl rfl rfl rfl ld_one ?_
          refine aops_e (w0 rfl) rfl (eff_call [] rfl rfl rfl (c_dispO p hp hb (askedP p k m n).cls (askedP p k m n).name (askedP p k m n).desc hB) List.nodup_nil) ?_
          refine aops_e (w0 rfl) rfl (eff_move rfl rfl) ?_
          refine aops_e (w0 rfl) rfl (eff_extract rfl rfl rfl) ?_
          refine aops_e (w0 rfl) rfl (eff_extract rfl rfl rfl) ?_
          refine aops_n (w0 rfl) rfl (fun id => eff_alloc id rfl rfl rfl) (fun id10 => ?_)
          refine aops_store 0 (w0 rfl) rfl rfl rfl rfl rfl rfl rfl rfl rfl ?_
          refine aops_e (w0 rfl) rfl (eff_assign rfl rfl) ?_
          refine aops_nil ?_
          refine awp_seq ?_
          refine awp_seq ?_
          refine awp_region ?_
          refine aops_e (w0 rfl) rfl (eff_move rfl rfl) ?_
          refine aops_nil ?_
          refine awp_cond rfl ?_ ?_
          · intro hc
            refine awp_seq ?_
            refine awp_region ?_
            refine aops_load_ptr 4 (w0 rfl) rfl rfl rfl rfl rfl (ld_agg (Nat.le_of_ble_eq_true rfl)) ?_
            refine aops_load_ptr 2 (w0 rfl) rfl rfl rfl rfl rfl (ld_agg (Nat.le_of_ble_eq_true rfl)) ?_
            refine aops_e (w0 rfl) rfl (eff_call [] rfl rfl rfl (c_virtO p hp hb hif (askedP p k m n) (disp_virt hB)) List.nodup_nil) ?_
            refine aops_e (w0 rfl) rfl (eff_move rfl rfl) ?_
            refine aops_e (w0 rfl) rfl (eff_extract rfl rfl rfl) ?_
            refine aops_e (w0 rfl) rfl (eff_extract rfl rfl rfl) ?_
            refine aops_n (w0 rfl) rfl (fun id => eff_alloc id rfl rfl rfl) (fun id11 => ?_)
            refine aops_store 0 (w0 rfl) rfl rfl rfl rfl rfl rfl rfl rfl rfl ?_
            refine aops_e (w0 rfl) rfl (eff_assign rfl rfl) ?_
            refine aops_nil ?_
            refine awp_seq ?_
            refine awp_region ?_
            refine aops_load_ptr 5 (w0 rfl) rfl rfl rfl rfl rfl (ld_agg (Nat.le_of_ble_eq_true rfl)) ?_
            refine aops_load_ptr 1 (w0 rfl) rfl rfl rfl rfl rfl (ld_agg (Nat.le_of_ble_eq_true rfl)) ?_
            refine aops_e (w0 rfl) rfl (eff_call [] rfl rfl rfl (c_getO p hp b hxb) List.nodup_nil) ?_
            refine aops_e (w0 rfl) rfl (eff_move rfl rfl) ?_
            refine aops_e (w0 rfl) rfl (eff_extract rfl rfl rfl) ?_
            refine aops_e (w0 rfl) rfl (eff_extract rfl rfl rfl) ?_
            refine aops_n (w0 rfl) rfl (fun id => eff_alloc id rfl rfl rfl) (fun id12 => ?_)
            refine aops_store 0 (w0 rfl) rfl rfl rfl rfl rfl rfl rfl rfl rfl ?_
            refine aops_e (w0 rfl) rfl (eff_assign rfl rfl) ?_
            refine aops_nil ?_
            refine awp_seq ?_
            refine awp_region ?_
            refine aops_e (w0 rfl) rfl (eff_move rfl rfl) ?_
            refine aops_e (w0 rfl) rfl (eff_not rfl rfl) ?_
            refine aops_e (w0 rfl) rfl (eff_move rfl rfl) ?_
            refine aops_gload 1 (wF rfl rfl rfl rfl) rfl rfl (fun hg => rfl) rfl rfl (ld_agg (Nat.le_of_ble_eq_true rfl)) ?_
            refine aops_gload 2 (wF rfl rfl rfl rfl) rfl rfl (fun hg => rfl) rfl rfl (ld_agg (Nat.le_of_ble_eq_true rfl)) ?_
            refine aops_g (wF rfl rfl rfl rfl) rfl (fun hg => (eff_to (y := bA false) (eff_neq rfl (ev_g hg rfl) (ev_g hg rfl) rfl rfl) (congrArg (fun t => bA (!t)) (ceqs_mself b)))) ?_
            refine aops_e (w0 rfl) rfl (eff_or rfl rfl rfl (fun h => by rw [h]; rfl)) ?_
            refine aops_e (w0 rfl) rfl (eff_move rfl rfl) ?_
            refine aops_g (wF rfl rfl rfl rfl) rfl (fun hg => (eff_move rfl rfl)) ?_
            refine aops_g (wF rfl rfl rfl rfl) rfl (fun hg => (eff_not rfl (ev_g hg rfl))) ?_
            refine aops_e (w0 rfl) rfl (eff_or rfl rfl rfl (fun h => by rw [h]; rfl)) ?_
            refine aops_e (w0 rfl) rfl (eff_move rfl rfl) ?_
            refine aops_g (wF rfl rfl rfl rfl) rfl (fun hg => (eff_fieldAddr rfl rfl rfl)) ?_
            refine aops_gload 0 (wF rfl rfl rfl rfl) rfl rfl (fun hg => (ev_g hg rfl)) rfl rfl ld_one ?_
            refine aops_e (w0 rfl) rfl (eff_or rfl rfl rfl (fun h => by rw [h]; rfl)) ?_
            refine aops_e (w0 rfl) rfl (eff_move rfl rfl) ?_
            refine aops_gload 6 (wF rfl rfl rfl rfl) rfl rfl (fun hg => rfl) rfl rfl (ld_agg (Nat.le_of_ble_eq_true rfl)) ?_
            refine aops_g (wF rfl rfl rfl rfl) rfl (fun hg => (eff_fieldAddr rfl rfl rfl)) ?_
            refine aops_gload 4 (wF rfl rfl rfl rfl) rfl rfl (fun hg => (ev_g hg rfl)) rfl rfl ld_one ?_
            refine aops_g (wF rfl rfl rfl rfl) rfl (fun hg => (eff_fieldAddr rfl rfl rfl)) ?_
            refine aops_gload 2 (wF rfl rfl rfl rfl) rfl rfl (fun hg => (ev_g hg rfl)) rfl rfl ld_one ?_
            refine aops_g (wF rfl rfl rfl rfl) rfl (fun hg => (eff_call [] rfl rfl (evs_cons (ev_g hg rfl) (evs_cons (ev_g hg rfl) (evs_cons (ev_g hg rfl) evs_nil))) (c_refSub p hb hif (askedP p k m n).cls b.cls) List.nodup_nil)) ?_
            refine aops_g (wF rfl rfl rfl rfl) rfl (fun hg => (eff_not rfl (ev_g hg rfl))) ?_
            refine aops_e (w0 rfl) rfl (eff_or rfl rfl rfl (fun h => by rw [h]; rfl)) ?_
            refine aops_nil ?_
            refine awp_cond rfl ?_ ?_
            · intro hc
              exfalso
              have h5 := mayD_abs hmb
              have h6 := decl_sub hB
              simp [h5, h6] at hc
            · intro hc
              refine awp_skip ?_
              refine awp_seq ?_
              refine awp_region ?_
              refine aops_load_ptr 6 (w0 rfl) rfl rfl rfl rfl rfl (ld_agg (Nat.le_of_ble_eq_true rfl)) ?_
              refine aops_e (w0 rfl) rfl (eff_indexAddr_arr rfl rfl rfl (by first | omega | (simp only [List.length_map]; omega)) (by first | omega | (simp only [List.length_map]; omega)) rfl) ?_
              refine aops_load_ptr 5 (w0 rfl) rfl rfl rfl rfl rfl ld_one ?_
              refine aops_e (w0 rfl) rfl (eff_indexAddr_arr rfl rfl rfl (by first | omega | (simp only [List.length_map]; omega)) (by first | omega | (simp only [List.length_map]; omega)) rfl) ?_
              refine aops_load_ptr 5 (w0 rfl) rfl rfl rfl rfl rfl ld_one ?_
              refine aops_e (w0 rfl) rfl (eff_indexAddr_arr rfl rfl rfl (by first | omega | (simp only [List.length_map]; omega)) (by first | omega | (simp only [List.length_map]; omega)) rfl) ?_
              refine aops_load_ptr 5 (w0 rfl) rfl rfl rfl rfl rfl ld_one ?_
              refine aops_e (w0 rfl) rfl (eff_call [] rfl rfl rfl (c_fieldQ p hp k m n hk hm hn) List.nodup_nil) ?_
              refine aops_n (w0 rfl) rfl (fun id => eff_alloc id rfl rfl rfl) (fun id13 => ?_)
              refine aops_store 0 (w0 rfl) rfl rfl rfl rfl rfl rfl rfl rfl rfl ?_
              refine aops_nil ?_
              refine awp_seq ?_
              refine awp_seq ?_
              refine fieldW_elim p (fieldQ p k m n) (fun hF => ?_) (fun fa hF hf1 hf2 hf3 => ?_)
              · skip
                refine awp_region ?_
                refine aops_load_ptr 7 (w0 rfl) rfl rfl rfl rfl rfl (ld_agg (Nat.le_of_ble_eq_true rfl)) ?_
                refine aops_load_ptr 0 (w0 rfl) rfl rfl rfl rfl rfl (ld_agg (Nat.le_of_ble_eq_true rfl)) ?_
                refine aops_e (w0 rfl) rfl (eff_call [] rfl rfl rfl (c_fieldO p hp hb (fieldQ p k m n) hF) List.nodup_nil) ?_
                refine aops_e (w0 rfl) rfl (eff_move rfl rfl) ?_
                refine aops_e (w0 rfl) rfl (eff_extract rfl rfl rfl) ?_
                refine aops_e (w0 rfl) rfl (eff_extract rfl rfl rfl) ?_
                refine aops_n (w0 rfl) rfl (fun id => eff_alloc id rfl rfl rfl) (fun id14 => ?_)
                refine aops_store 0 (w0 rfl) rfl rfl rfl rfl rfl rfl rfl rfl rfl ?_
                refine aops_e (w0 rfl) rfl (eff_assign rfl rfl) ?_
                refine aops_nil ?_
                refine awp_seq ?_
                refine awp_region ?_
                refine aops_e (w0 rfl) rfl (eff_move rfl rfl) ?_
                refine aops_nil ?_
                refine awp_cond rfl ?_ ?_
                · intro hc
                  exfalso; simp at hc
                · intro hc
                  refine awp_skip ?_
                  refine awp_seq ?_
                  refine awp_region ?_
                  refine aops_e (w0 rfl) rfl (eff_call [] rfl rfl rfl c_live12 List.nodup_nil) ?_
                  refine aops_e (w0 rfl) rfl (eff_assign rfl rfl) ?_
                  refine aops_nil ?_
                  refine awp_ret ?_
                  exact retq rfl (res_tmp rfl res_nil) (gb rfl)
              · skip
                refine awp_region ?_
                refine aops_load_ptr 7 (w0 rfl) rfl rfl rfl rfl rfl (ld_agg (Nat.le_of_ble_eq_true rfl)) ?_
                refine aops_load_ptr 0 (w0 rfl) rfl rfl rfl rfl rfl (ld_agg (Nat.le_of_ble_eq_true rfl)) ?_
                refine aops_e (w0 rfl) rfl (eff_call [] rfl rfl rfl (c_fieldO p hp hb (fieldQ p k m n) hF) List.nodup_nil) ?_
                refine aops_e (w0 rfl) rfl (eff_move rfl rfl) ?_
                refine aops_e (w0 rfl) rfl (eff_extract rfl rfl rfl) ?_
                refine aops_e (w0 rfl) rfl (eff_extract rfl rfl rfl) ?_
                refine aops_n (w0 rfl) rfl (fun id => eff_alloc id rfl rfl rfl) (fun id15 => ?_)
                refine aops_store 0 (w0 rfl) rfl rfl rfl rfl rfl rfl rfl rfl rfl ?_
                refine aops_e (w0 rfl) rfl (eff_assign rfl rfl) ?_
                refine aops_nil ?_
                refine awp_seq ?_
                refine awp_region ?_
                refine aops_e (w0 rfl) rfl (eff_move rfl rfl) ?_
                refine aops_nil ?_
                refine awp_cond rfl ?_ ?_
                · intro hc
                  refine awp_seq ?_
                  refine awp_region ?_
                  refine aops_load_ptr 8 (w0 rfl) rfl rfl rfl rfl rfl (ld_agg (Nat.le_of_ble_eq_true rfl)) ?_
                  refine aops_load_ptr 0 (w0 rfl) rfl rfl rfl rfl rfl (ld_agg (Nat.le_of_ble_eq_true rfl)) ?_
                  refine aops_e (w0 rfl) rfl (eff_call [] rfl rfl rfl (c_fieldOf p hp fa) List.nodup_nil) ?_
                  refine aops_e (w0 rfl) rfl (eff_move rfl rfl) ?_
                  refine aops_e (w0 rfl) rfl (eff_extract rfl rfl rfl) ?_
                  refine aops_e (w0 rfl) rfl (eff_extract rfl rfl rfl) ?_
                  refine aops_n (w0 rfl) rfl (fun id => eff_alloc id rfl rfl rfl) (fun id16 => ?_)
                  refine aops_store 0 (w0 rfl) rfl rfl rfl rfl rfl rfl rfl rfl rfl ?_
                  refine aops_e (w0 rfl) rfl (eff_assign rfl rfl) ?_
                  refine aops_nil ?_
                  refine awp_seq ?_
                  refine awp_region ?_
                  refine aops_e (w0 rfl) rfl (eff_move rfl rfl) ?_
                  refine aops_e (w0 rfl) rfl (eff_not rfl rfl) ?_
                  refine aops_e (w0 rfl) rfl (eff_move rfl rfl) ?_
                  refine aops_gload 9 (wF rfl rfl rfl rfl) rfl rfl (fun hg => rfl) rfl rfl (ld_agg (Nat.le_of_ble_eq_true rfl)) ?_
                  refine aops_g (wF rfl rfl rfl rfl) rfl (fun hg => (eff_fieldAddr rfl rfl rfl)) ?_
                  refine aops_gload 2 (wF rfl rfl rfl rfl) rfl rfl (fun hg => (ev_g hg rfl)) rfl rfl ld_one ?_
                  refine aops_g (wF rfl rfl rfl rfl) rfl (fun hg => (eff_fieldAddr rfl rfl rfl)) ?_
                  refine aops_gload 1 (wF rfl rfl rfl rfl) rfl rfl (fun hg => (ev_g hg rfl)) rfl rfl ld_one ?_
                  refine aops_g (wF rfl rfl rfl rfl) rfl (fun hg => (eff_call [] rfl rfl (evs_cons (ev_g hg rfl) (evs_cons (ev_g hg rfl) (evs_cons (ev_g hg rfl) evs_nil))) (c_refSub p hb hif (fieldQ p k m n).cls fa.cls) List.nodup_nil)) ?_
                  refine aops_g (wF rfl rfl rfl rfl) rfl (fun hg => (eff_not rfl (ev_g hg rfl))) ?_
                  refine aops_e (w0 rfl) rfl (eff_or rfl rfl rfl (fun h => by rw [h]; rfl)) ?_
                  refine aops_e (w0 rfl) rfl (eff_move rfl rfl) ?_
                  refine aops_g (wF rfl rfl rfl rfl) rfl (fun hg => (eff_fieldAddr rfl rfl rfl)) ?_
                  refine aops_gload 1 (wF rfl rfl rfl rfl) rfl rfl (fun hg => (ev_g hg rfl)) rfl rfl ld_one ?_
                  refine aops_g (wF rfl rfl rfl rfl) rfl (fun hg => (eff_fieldAddr rfl rfl rfl)) ?_
                  refine aops_gload 2 (wF rfl rfl rfl rfl) rfl rfl (fun hg => (ev_g hg rfl)) rfl rfl ld_one ?_
                  refine aops_g (wF rfl rfl rfl rfl) rfl (fun hg => (eff_scmp rfl (ev_g hg rfl) (ev_g hg rfl) rfl)) ?_
                  refine aops_e (w0 rfl) rfl (eff_or rfl rfl rfl (fun h => by rw [h]; rfl)) ?_
                  refine aops_nil ?_
                  refine awp_cond rfl ?_ ?_
                  · intro hc
                    exfalso
                    simp [hf1, hf2, hf3] at hc
                  · intro hc
                    refine awp_skip ?_
                    refine awp_seq ?_
                    refine awp_region ?_
                    refine aops_e (w0 rfl) rfl (eff_call [] rfl rfl rfl c_live12 List.nodup_nil) ?_
                    refine aops_e (w0 rfl) rfl (eff_assign rfl rfl) ?_
                    refine aops_nil ?_
                    refine awp_ret ?_
                    exact retq rfl (res_tmp rfl res_nil) (gb rfl)
                · intro hc
                  exfalso; simp at hc
          · intro hc
            exfalso; simp at hc
    · skip
      refine awp_region ?_
      refine aops_load_ptr 2 (w0 rfl) rfl rfl rfl rfl rfl (ld_agg (Nat.le_of_ble_eq_true rfl)) ?_
      refine aops_load_ptr 0 (w0 rfl) rfl rfl rfl rfl rfl (ld_agg (Nat.le_of_ble_eq_true rfl)) ?_
      refine aops_e (w0 rfl) rfl (eff_call [] rfl rfl rfl (c_staticO p hp hb (askedP p k m n) hA) List.nodup_nil) ?_
      refine aops_e (w0 rfl) rfl (eff_move rfl rfl) ?_
      refine aops_e (w0 rfl) rfl (eff_extract rfl rfl rfl) ?_
      refine aops_e (w0 rfl) rfl (eff_extract rfl rfl rfl) ?_
      refine aops_n (w0 rfl) rfl (fun id => eff_alloc id rfl rfl rfl) (fun id17 => ?_)
      refine aops_store 0 (w0 rfl) rfl rfl rfl rfl rfl rfl rfl rfl rfl ?_
      refine aops_e (w0 rfl) rfl (eff_assign rfl rfl) ?_
      refine aops_nil ?_
      refine awp_seq ?_
      refine awp_region ?_
      refine aops_e (w0 rfl) rfl (eff_move rfl rfl) ?_
      refine aops_nil ?_
      refine awp_cond rfl ?_ ?_
      · intro hc
        refine awp_seq ?_
        refine awp_region ?_
        refine aops_load_ptr 3 (w0 rfl) rfl rfl rfl rfl rfl (ld_agg (Nat.le_of_ble_eq_true rfl)) ?_
        refine aops_load_ptr 0 (w0 rfl) rfl rfl rfl rfl rfl (ld_agg (Nat.le_of_ble_eq_true rfl)) ?_
        refine aops_e (w0 rfl) rfl (eff_call [] rfl rfl rfl (c_getO p hp a hxa) List.nodup_nil) ?_
        refine aops_e (w0 rfl) rfl (eff_move rfl rfl) ?_
        refine aops_e (w0 rfl) rfl (eff_extract rfl rfl rfl) ?_
        refine aops_e (w0 rfl) rfl (eff_extract rfl rfl rfl) ?_
        refine aops_n (w0 rfl) rfl (fun id => eff_alloc id rfl rfl rfl) (fun id18 => ?_)
        refine aops_store 0 (w0 rfl) rfl rfl rfl rfl rfl rfl rfl rfl rfl ?_
        refine aops_e (w0 rfl) rfl (eff_assign rfl rfl) ?_
        refine aops_nil ?_
        refine awp_seq ?_
        refine awp_region ?_
        refine aops_e (w0 rfl) rfl (eff_move rfl rfl) ?_
        refine aops_e (w0 rfl) rfl (eff_not rfl rfl) ?_
        refine aops_e (w0 rfl) rfl (eff_move rfl rfl) ?_
        refine aops_g (wF rfl rfl rfl rfl) rfl (fun hg => (eff_fieldAddr rfl rfl rfl)) ?_
        refine aops_gload 0 (wF rfl rfl rfl rfl) rfl rfl (fun hg => (ev_g hg rfl)) rfl rfl ld_one ?_
        refine aops_g (wF rfl rfl rfl rfl) rfl (fun hg => (eff_not rfl (ev_g hg rfl))) ?_
        refine aops_e (w0 rfl) rfl (eff_or rfl rfl rfl (fun h => by rw [h]; rfl)) ?_
        refine aops_e (w0 rfl) rfl (eff_move rfl rfl) ?_
        refine aops_gload 4 (wF rfl rfl rfl rfl) rfl rfl (fun hg => rfl) rfl rfl (ld_agg (Nat.le_of_ble_eq_true rfl)) ?_
        refine aops_g (wF rfl rfl rfl rfl) rfl (fun hg => (eff_fieldAddr rfl rfl rfl)) ?_
        refine aops_gload 2 (wF rfl rfl rfl rfl) rfl rfl (fun hg => (ev_g hg rfl)) rfl rfl ld_one ?_
        refine aops_g (wF rfl rfl rfl rfl) rfl (fun hg => (eff_fieldAddr rfl rfl rfl)) ?_
        refine aops_gload 1 (wF rfl rfl rfl rfl) rfl rfl (fun hg => (ev_g hg rfl)) rfl rfl ld_one ?_
        refine aops_g (wF rfl rfl rfl rfl) rfl (fun hg => (eff_call [] rfl rfl (evs_cons (ev_g hg rfl) (evs_cons (ev_g hg rfl) (evs_cons (ev_g hg rfl) evs_nil))) (c_refSub p hb hif (askedP p k m n).cls a.cls) List.nodup_nil)) ?_
        refine aops_g (wF rfl rfl rfl rfl) rfl (fun hg => (eff_not rfl (ev_g hg rfl))) ?_
        refine aops_e (w0 rfl) rfl (eff_or rfl rfl rfl (fun h => by rw [h]; rfl)) ?_
        refine aops_nil ?_
        refine awp_cond rfl ?_ ?_
        · intro hc
          exfalso
          have h5 : xa.static = true := hma
          have h6 := decl_sub hA
          simp [h5, h6] at hc
        · intro hc
          refine awp_skip ?_
          refine awp_seq ?_
          refine declS_elim p (supers p (askedP p k m n).cls) (askedP p k m n) mayD (fun hB => ?_) (fun b xb hB hxb hmb => ?_)
          · skip
            refine awp_region ?_
            refine aops_load_ptr 4 (w0 rfl) rfl rfl rfl rfl rfl (ld_agg (Nat.le_of_ble_eq_true rfl)) ?_
            refine aops_e (w0 rfl) rfl (eff_fieldAddr rfl rfl rfl) ?_
            refine aops_load_ptr 2 (w0 rfl) rfl rfl rfl rfl rfl ld_one ?_
            refine aops_e (w0 rfl) rfl (eff_fieldAddr rfl rfl rfl) ?_
            refine aops_load_ptr 2 (w0 rfl) rfl rfl rfl rfl rfl ld_one ?_
            refine aops_e (w0 rfl) rfl (eff_fieldAddr rfl rfl rfl) ?_
            refine aops_load_ptr 2 (w0 rfl) rfl rfl rfl rfl rfl ld_one ?_
            refine aops_e (w0 rfl) rfl (eff_call [] rfl rfl rfl (c_dispO p hp hb (askedP p k m n).cls (askedP p k m n).name (askedP p k m n).desc hB) List.nodup_nil) ?_
            refine aops_e (w0 rfl) rfl (eff_move rfl rfl) ?_
            refine aops_e (w0 rfl) rfl (eff_extract rfl rfl rfl) ?_
            refine aops_e (w0 rfl) rfl (eff_extract rfl rfl rfl) ?_
            refine aops_n (w0 rfl) rfl (fun id => eff_alloc id rfl rfl rfl) (fun id19 => ?_)
            refine aops_store 0 (w0 rfl) rfl rfl rfl rfl rfl rfl rfl rfl rfl ?_
            refine aops_e (w0 rfl) rfl (eff_assign rfl rfl) ?_
            refine aops_nil ?_
            refine awp_seq ?_
            refine awp_seq ?_
            refine awp_region ?_
            refine aops_e (w0 rfl) rfl (eff_move rfl rfl) ?_
            refine aops_nil ?_
            refine awp_cond rfl ?_ ?_
            · intro hc
              exfalso; simp at hc
            · intro hc
              refine awp_skip ?_
              refine awp_seq ?_
              refine awp_region ?_
              refine aops_load_ptr 5 (w0 rfl) rfl rfl rfl rfl rfl (ld_agg (Nat.le_of_ble_eq_true rfl)) ?_
              refine aops_e (w0 rfl) rfl (eff_indexAddr_arr rfl rfl rfl (by first | omega | (simp only [List.length_map]; omega)) (by first | omega | (simp only [List.length_map]; omega)) rfl) ?_
              refine aops_load_ptr 4 (w0 rfl) rfl rfl rfl rfl rfl ld_one ?_
              refine aops_e (w0 rfl) rfl (eff_indexAddr_arr rfl rfl rfl (by first | omega | (simp only [List.length_map]; omega)) (by first | omega | (simp only [List.length_map]; omega)) rfl) ?_
              refine aops_load_ptr 4 (w0 rfl) rfl rfl rfl rfl rfl ld_one ?_
              refine aops_e (w0 rfl) rfl (eff_indexAddr_arr rfl rfl rfl (by first | omega | (simp only [List.length_map]; omega)) (by first | omega | (simp only [List.length_map]; omega)) rfl) ?_
              refine aops_load_ptr 4 (w0 rfl) rfl rfl rfl rfl rfl ld_one ?_
              refine aops_e (w0 rfl) rfl (eff_call [] rfl rfl rfl (c_fieldQ p hp k m n hk hm hn) List.nodup_nil) ?_
              refine aops_n (w0 rfl) rfl (fun id => eff_alloc id rfl rfl rfl) (fun id20 => ?_)
              refine aops_store 0 (w0 rfl) rfl rfl rfl rfl rfl rfl rfl rfl rfl ?_
              refine aops_nil ?_
              refine awp_seq ?_
              refine awp_seq ?_
              refine fieldW_elim p (fieldQ p k m n) (fun hF => ?_) (fun fa hF hf1 hf2 hf3 => ?_)
              · skip
                refine awp_region ?_
                refine aops_load_ptr 6 (w0 rfl) rfl rfl rfl rfl rfl (ld_agg (Nat.le_of_ble_eq_true rfl)) ?_
                refine aops_load_ptr 0 (w0 rfl) rfl rfl rfl rfl rfl (ld_agg (Nat.le_of_ble_eq_true rfl)) ?_
                refine aops_e (w0 rfl) rfl (eff_call [] rfl rfl rfl (c_fieldO p hp hb (fieldQ p k m n) hF) List.nodup_nil) ?_
                refine aops_e (w0 rfl) rfl (eff_move rfl rfl) ?_
                refine aops_e (w0 rfl) rfl (eff_extract rfl rfl rfl) ?_
                refine aops_e (w0 rfl) rfl (eff_extract rfl rfl rfl) ?_
                refine aops_n (w0 rfl) rfl (fun id => eff_alloc id rfl rfl rfl) (fun id21 => ?_)
                refine aops_store 0 (w0 rfl) rfl rfl rfl rfl rfl rfl rfl rfl rfl ?_
                refine aops_e (w0 rfl) rfl (eff_assign rfl rfl) ?_
                refine aops_nil ?_
                refine awp_seq ?_
                refine awp_region ?_
                refine aops_e (w0 rfl) rfl (eff_move rfl rfl) ?_
                refine aops_nil ?_
                refine awp_cond rfl ?_ ?_
                · intro hc
                  exfalso; simp at hc
                · intro hc
                  refine awp_skip ?_
                  refine awp_seq ?_
                  refine awp_region ?_
                  refine aops_e (w0 rfl) rfl (eff_call [] rfl rfl rfl c_live12 List.nodup_nil) ?_
                  refine aops_e (w0 rfl) rfl (eff_assign rfl rfl) ?_
                  refine aops_nil ?_
                  refine awp_ret ?_
                  exact retq rfl (res_tmp rfl res_nil) (gb rfl)
              · skip
                refine awp_region ?_
                refine aops_load_ptr 6 (w0 rfl) rfl rfl rfl rfl rfl (ld_agg (Nat.le_of_ble_eq_true rfl)) ?_
                refine aops_load_ptr 0 (w0 rfl) rfl rfl rfl rfl rfl (ld_agg (Nat.le_of_ble_eq_true rfl)) ?_
                refine aops_e (w0 rfl) rfl (eff_call [] rfl rfl rfl (c_fieldO p hp hb (fieldQ p k m n) hF) List.nodup_nil) ?_
                refine aops_e (w0 rfl) rfl (eff_move rfl rfl) ?_
                refine aops_e (w0 rfl) rfl (eff_extract rfl rfl rfl) ?_
                refine aops_e (w0 rfl) rfl (eff_extract rfl rfl rfl) ?_
                refine aops_n (w0 rfl) rfl (fun id => eff_alloc id rfl rfl rfl) (fun id22 => ?_)
                refine aops_store 0 (w0 rfl) rfl rfl rfl rfl rfl rfl rfl rfl rfl ?_
                refine aops_e (w0 rfl) rfl (eff_assign rfl rfl) ?_
                refine aops_nil ?_
                refine awp_seq ?_
                refine awp_region ?_
                refine aops_e (w0 rfl) rfl (eff_move rfl rfl) ?_
                refine aops_nil ?_
                refine awp_cond rfl ?_ ?_
                · intro hc
                  refine awp_seq ?_
                  refine awp_region ?_
                  refine aops_load_ptr 7 (w0 rfl) rfl rfl rfl rfl rfl (ld_agg (Nat.le_of_ble_eq_true rfl)) ?_
                  refine aops_load_ptr 0 (w0 rfl) rfl rfl rfl rfl rfl (ld_agg (Nat.le_of_ble_eq_true rfl)) ?_
                  refine aops_e (w0 rfl) rfl (eff_call [] rfl rfl rfl (c_fieldOf p hp fa) List.nodup_nil) ?_
                  refine aops_e (w0 rfl) rfl (eff_move rfl rfl) ?_
                  refine aops_e (w0 rfl) rfl (eff_extract rfl rfl rfl) ?_
                  refine aops_e (w0 rfl) rfl (eff_extract rfl rfl rfl) ?_
                  refine aops_n (w0 rfl) rfl (fun id => eff_alloc id rfl rfl rfl) (fun id23 => ?_)
                  refine aops_store 0 (w0 rfl) rfl rfl rfl rfl rfl rfl rfl rfl rfl ?_
                  refine aops_e (w0 rfl) rfl (eff_assign rfl rfl) ?_
                  refine aops_nil ?_
                  refine awp_seq ?_
                  refine awp_region ?_
                  refine aops_e (w0 rfl) rfl (eff_move rfl rfl) ?_
                  refine aops_e (w0 rfl) rfl (eff_not rfl rfl) ?_
                  refine aops_e (w0 rfl) rfl (eff_move rfl rfl) ?_
                  refine aops_gload 8 (wF rfl rfl rfl rfl) rfl rfl (fun hg => rfl) rfl rfl (ld_agg (Nat.le_of_ble_eq_true rfl)) ?_
                  refine aops_g (wF rfl rfl rfl rfl) rfl (fun hg => (eff_fieldAddr rfl rfl rfl)) ?_
                  refine aops_gload 2 (wF rfl rfl rfl rfl) rfl rfl (fun hg => (ev_g hg rfl)) rfl rfl ld_one ?_
                  refine aops_g (wF rfl rfl rfl rfl) rfl (fun hg => (eff_fieldAddr rfl rfl rfl)) ?_
                  refine aops_gload 1 (wF rfl rfl rfl rfl) rfl rfl (fun hg => (ev_g hg rfl)) rfl rfl ld_one ?_
                  refine aops_g (wF rfl rfl rfl rfl) rfl (fun hg => (eff_call [] rfl rfl (evs_cons (ev_g hg rfl) (evs_cons (ev_g hg rfl) (evs_cons (ev_g hg rfl) evs_nil))) (c_refSub p hb hif (fieldQ p k m n).cls fa.cls) List.nodup_nil)) ?_
                  refine aops_g (wF rfl rfl rfl rfl) rfl (fun hg => (eff_not rfl (ev_g hg rfl))) ?_
                  refine aops_e (w0 rfl) rfl (eff_or rfl rfl rfl (fun h => by rw [h]; rfl)) ?_
                  refine aops_e (w0 rfl) rfl (eff_move rfl rfl) ?_
                  refine aops_g (wF rfl rfl rfl rfl) rfl (fun hg => (eff_fieldAddr rfl rfl rfl)) ?_
                  refine aops_gload 1 (wF rfl rfl rfl rfl) rfl rfl (fun hg => (ev_g hg rfl)) rfl rfl ld_one ?_
                  refine aops_g (wF rfl rfl rfl rfl) rfl (fun hg => (eff_fieldAddr rfl rfl rfl)) ?_
                  refine aops_gload 2 (wF rfl rfl rfl rfl) rfl rfl (fun hg => (ev_g hg rfl)) rfl rfl ld_one ?_
                  refine aops_g (wF rfl rfl rfl rfl) rfl (fun hg => (eff_scmp rfl (ev_g hg rfl) (ev_g hg rfl) rfl)) ?_
                  refine aops_e (w0 rfl) rfl (eff_or rfl rfl rfl (fun h => by rw [h]; rfl)) ?_
                  refine aops_nil ?_
                  refine awp_cond rfl ?_ ?_
                  · intro hc
                    exfalso
                    simp [hf1, hf2, hf3] at hc
                  · intro hc
                    refine awp_skip ?_
                    refine awp_seq ?_
                    refine awp_region ?_
                    refine aops_e (w0 rfl) rfl (eff_call [] rfl rfl rfl c_live12 List.nodup_nil) ?_
                    refine aops_e (w0 rfl) rfl (eff_assign rfl rfl) ?_
                    refine aops_nil ?_
                    refine awp_ret ?_
                    exact retq rfl (res_tmp rfl res_nil) (gb rfl)
                · intro hc
                  exfalso; simp at hc
          · skip
            refine awp_region ?_
            refine aops_load_ptr 4 (w0 rfl) rfl rfl rfl rfl rfl (ld_agg (Nat.le_of_ble_eq_true rfl)) ?_
            refine aops_e (w0 rfl) rfl (eff_fieldAddr rfl rfl rfl) ?_
            refine aops_load_ptr 2 (w0 rfl) rfl rfl rfl rfl rfl ld_one ?_
            refine aops_e (w0 rfl) rfl (eff_fieldAddr rfl rfl rfl) ?_
            refine aops_load_ptr 2 (w0 rfl) rfl rfl rfl rfl rfl ld_one ?_
            refine aops_e (w0 rfl) rfl (eff_fieldAddr rfl rfl rfl) ?_
            refine aops_load_ptr 2 (w0 rfl) rfl rfl rfl rfl rfl ld_one ?_
            refine aops_e (w0 rfl) rfl (eff_call [] rfl rfl rfl (c_dispO p hp hb (askedP p k m n).cls (askedP p k m n).name (askedP p k m n).desc hB) List.nodup_nil) ?_
            refine aops_e (w0 rfl) rfl (eff_move rfl rfl) ?_
            refine aops_e (w0 rfl) rfl (eff_extract rfl rfl rfl) ?_
            refine aops_e (w0 rfl) rfl (eff_extract rfl rfl rfl) ?_
            refine aops_n (w0 rfl) rfl (fun id => eff_alloc id rfl rfl rfl) (fun id24 => ?_)
            refine aops_store 0 (w0 rfl) rfl rfl rfl rfl rfl rfl rfl rfl rfl ?_
            refine aops_e (w0 rfl) rfl (eff_assign rfl rfl) ?_
            refine aops_nil ?_
            refine awp_seq ?_
            refine awp_seq ?_
            refine awp_region ?_
            refine aops_e (w0 rfl) rfl (eff_move rfl rfl) ?_
            refine aops_nil ?_
            refine awp_cond rfl ?_ ?_
            · intro hc
              refine awp_seq ?_
              refine awp_region ?_
              refine aops_load_ptr 5 (w0 rfl) rfl rfl rfl rfl rfl (ld_agg (Nat.le_of_ble_eq_true rfl)) ?_
              refine aops_load_ptr 3 (w0 rfl) rfl rfl rfl rfl rfl (ld_agg (Nat.le_of_ble_eq_true rfl)) ?_
              refine aops_e (w0 rfl) rfl (eff_call [] rfl rfl rfl (c_virtO p hp hb hif (askedP p k m n) (disp_virt hB)) List.nodup_nil) ?_
              refine aops_e (w0 rfl) rfl (eff_move rfl rfl) ?_
              refine aops_e (w0 rfl) rfl (eff_extract rfl rfl rfl) ?_
              refine aops_e (w0 rfl) rfl (eff_extract rfl rfl rfl) ?_
              refine aops_n (w0 rfl) rfl (fun id => eff_alloc id rfl rfl rfl) (fun id25 => ?_)
              refine aops_store 0 (w0 rfl) rfl rfl rfl rfl rfl rfl rfl rfl rfl ?_
              refine aops_e (w0 rfl) rfl (eff_assign rfl rfl) ?_
              refine aops_nil ?_
              refine awp_seq ?_
              refine awp_region ?_
              refine aops_load_ptr 6 (w0 rfl) rfl rfl rfl rfl rfl (ld_agg (Nat.le_of_ble_eq_true rfl)) ?_
              refine aops_load_ptr 1 (w0 rfl) rfl rfl rfl rfl rfl (ld_agg (Nat.le_of_ble_eq_true rfl)) ?_
              refine aops_e (w0 rfl) rfl (eff_call [] rfl rfl rfl (c_getO p hp b hxb) List.nodup_nil) ?_
              refine aops_e (w0 rfl) rfl (eff_move rfl rfl) ?_
              refine aops_e (w0 rfl) rfl (eff_extract rfl rfl rfl) ?_
              refine aops_e (w0 rfl) rfl (eff_extract rfl rfl rfl) ?_
              refine aops_n (w0 rfl) rfl (fun id => eff_alloc id rfl rfl rfl) (fun id26 => ?_)
              refine aops_store 0 (w0 rfl) rfl rfl rfl rfl rfl rfl rfl rfl rfl ?_
              refine aops_e (w0 rfl) rfl (eff_assign rfl rfl) ?_
              refine aops_nil ?_
              refine awp_seq ?_
              refine awp_region ?_
              refine aops_e (w0 rfl) rfl (eff_move rfl rfl) ?_
              refine aops_e (w0 rfl) rfl (eff_not rfl rfl) ?_
              refine aops_e (w0 rfl) rfl (eff_move rfl rfl) ?_
              refine aops_gload 1 (wF rfl rfl rfl rfl) rfl rfl (fun hg => rfl) rfl rfl (ld_agg (Nat.le_of_ble_eq_true rfl)) ?_
              refine aops_gload 2 (wF rfl rfl rfl rfl) rfl rfl (fun hg => rfl) rfl rfl (ld_agg (Nat.le_of_ble_eq_true rfl)) ?_
              refine aops_g (wF rfl rfl rfl rfl) rfl (fun hg => (eff_to (y := bA false) (eff_neq rfl (ev_g hg rfl) (ev_g hg rfl) rfl rfl) (congrArg (fun t => bA (!t)) (ceqs_mself b)))) ?_
              refine aops_e (w0 rfl) rfl (eff_or rfl rfl rfl (fun h => by rw [h]; rfl)) ?_
              refine aops_e (w0 rfl) rfl (eff_move rfl rfl) ?_
              refine aops_g (wF rfl rfl rfl rfl) rfl (fun hg => (eff_move rfl rfl)) ?_
              refine aops_g (wF rfl rfl rfl rfl) rfl (fun hg => (eff_not rfl (ev_g hg rfl))) ?_
              refine aops_e (w0 rfl) rfl (eff_or rfl rfl rfl (fun h => by rw [h]; rfl)) ?_
              refine aops_e (w0 rfl) rfl (eff_move rfl rfl) ?_
              refine aops_g (wF rfl rfl rfl rfl) rfl (fun hg => (eff_fieldAddr rfl rfl rfl)) ?_
              refine aops_gload 0 (wF rfl rfl rfl rfl) rfl rfl (fun hg => (ev_g hg rfl)) rfl rfl ld_one ?_
              refine aops_e (w0 rfl) rfl (eff_or rfl rfl rfl (fun h => by rw [h]; rfl)) ?_
              refine aops_e (w0 rfl) rfl (eff_move rfl rfl) ?_
              refine aops_gload 7 (wF rfl rfl rfl rfl) rfl rfl (fun hg => rfl) rfl rfl (ld_agg (Nat.le_of_ble_eq_true rfl)) ?_
              refine aops_g (wF rfl rfl rfl rfl) rfl (fun hg => (eff_fieldAddr rfl rfl rfl)) ?_
              refine aops_gload 5 (wF rfl rfl rfl rfl) rfl rfl (fun hg => (ev_g hg rfl)) rfl rfl ld_one ?_
              refine aops_g (wF rfl rfl rfl rfl) rfl (fun hg => (eff_fieldAddr rfl rfl rfl)) ?_
              refine aops_gload 2 (wF rfl rfl rfl rfl) rfl rfl (fun hg => (ev_g hg rfl)) rfl rfl ld_one ?_
              refine aops_g (wF rfl rfl rfl rfl) rfl (fun hg => (eff_call [] rfl rfl (evs_cons (ev_g hg rfl) (evs_cons (ev_g hg rfl) (evs_cons (ev_g hg rfl) evs_nil))) (c_refSub p hb hif (askedP p k m n).cls b.cls) List.nodup_nil)) ?_
              refine aops_g (wF rfl rfl rfl rfl) rfl (fun hg => (eff_not rfl (ev_g hg rfl))) ?_
              refine aops_e (w0 rfl) rfl (eff_or rfl rfl rfl (fun h => by rw [h]; rfl)) ?_
              refine aops_nil ?_
              refine awp_cond rfl ?_ ?_
              · intro hc
                exfalso
                have h5 := mayD_abs hmb
                have h6 := decl_sub hB
                simp [h5, h6] at hc
              · intro hc
                refine awp_skip ?_
                refine awp_seq ?_
                refine awp_region ?_
                refine aops_load_ptr 7 (w0 rfl) rfl rfl rfl rfl rfl (ld_agg (Nat.le_of_ble_eq_true rfl)) ?_
                refine aops_e (w0 rfl) rfl (eff_indexAddr_arr rfl rfl rfl (by first | omega | (simp only [List.length_map]; omega)) (by first | omega | (simp only [List.length_map]; omega)) rfl) ?_
                refine aops_load_ptr 6 (w0 rfl) rfl rfl rfl rfl rfl ld_one ?_
                refine aops_e (w0 rfl) rfl (eff_indexAddr_arr rfl rfl rfl (by first | omega | (simp only [List.length_map]; omega)) (by first | omega | (simp only [List.length_map]; omega)) rfl) ?_
                refine aops_load_ptr 6 (w0 rfl) rfl rfl rfl rfl rfl ld_one ?_
                refine aops_e (w0 rfl) rfl (eff_indexAddr_arr rfl rfl rfl (by first | omega | (simp only [List.length_map]; omega)) (by first | omega | (simp only [List.length_map]; omega)) rfl) ?_
                refine aops_load_ptr 6 (w0 rfl) rfl rfl rfl rfl rfl ld_one ?_
                refine aops_e (w0 rfl) rfl (eff_call [] rfl rfl rfl (c_fieldQ p hp k m n hk hm hn) List.nodup_nil) ?_
                refine aops_n (w0 rfl) rfl (fun id => eff_alloc id rfl rfl rfl) (fun id27 => ?_)
                refine aops_store 0 (w0 rfl) rfl rfl rfl rfl rfl rfl rfl rfl rfl ?_
                refine aops_nil ?_
                refine awp_seq ?_
                refine awp_seq ?_
                refine fieldW_elim p (fieldQ p k m n) (fun hF => ?_) (fun fa hF hf1 hf2 hf3 => ?_)
                · skip
                  refine awp_region ?_
                  refine aops_load_ptr 8 (w0 rfl) rfl rfl rfl rfl rfl (ld_agg (Nat.le_of_ble_eq_true rfl)) ?_
                  refine aops_load_ptr 0 (w0 rfl) rfl rfl rfl rfl rfl (ld_agg (Nat.le_of_ble_eq_true rfl)) ?_
                  refine aops_e (w0 rfl) rfl (eff_call [] rfl rfl rfl (c_fieldO p hp hb (fieldQ p k m n) hF) List.nodup_nil) ?_
                  refine aops_e (w0 rfl) rfl (eff_move rfl rfl) ?_
                  refine aops_e (w0 rfl) rfl (eff_extract rfl rfl rfl) ?_
                  refine aops_e (w0 rfl) rfl (eff_extract rfl rfl rfl) ?_
                  refine aops_n (w0 rfl) rfl (fun id => eff_alloc id rfl rfl rfl) (fun id28 => ?_)
                  refine aops_store 0 (w0 rfl) rfl rfl rfl rfl rfl rfl rfl rfl rfl ?_
                  refine aops_e (w0 rfl) rfl (eff_assign rfl rfl) ?_
                  refine aops_nil ?_
                  refine awp_seq ?_
                  refine awp_region ?_
                  refine aops_e (w0 rfl) rfl (eff_move rfl rfl) ?_
                  refine aops_nil ?_
                  refine awp_cond rfl ?_ ?_
                  · intro hc
                    exfalso; simp at hc
                  · intro hc
                    refine awp_skip ?_
                    refine awp_seq ?_
                    refine awp_region ?_
                    refine aops_e (w0 rfl) rfl (eff_call [] rfl rfl rfl c_live12 List.nodup_nil) ?_
                    refine aops_e (w0 rfl) rfl (eff_assign rfl rfl) ?_
                    refine aops_nil ?_
                    refine awp_ret ?_
                    exact retq rfl (res_tmp rfl res_nil) (gb rfl)
                · skip
                  refine awp_region ?_
                  refine aops_load_ptr 8 (w0 rfl) rfl rfl rfl rfl rfl (ld_agg (Nat.le_of_ble_eq_true rfl)) ?_
                  refine aops_load_ptr 0 (w0 rfl) rfl rfl rfl rfl rfl (ld_agg (Nat.le_of_ble_eq_true rfl)) ?_
                  refine aops_e (w0 rfl) rfl (eff_call [] rfl rfl rfl (c_fieldO p hp hb (fieldQ p k m n) hF) List.nodup_nil) ?_
                  refine aops_e (w0 rfl) rfl (eff_move rfl rfl) ?_
                  refine aops_e (w0 rfl) rfl (eff_extract rfl rfl rfl) ?_
                  refine aops_e (w0 rfl) rfl (eff_extract rfl rfl rfl) ?_
                  refine aops_n (w0 rfl) rfl (fun id => eff_alloc id rfl rfl rfl) (fun id29 => ?_)
                  refine aops_store 0 (w0 rfl) rfl rfl rfl rfl rfl rfl rfl rfl rfl ?_
                  refine aops_e (w0 rfl) rfl (eff_assign rfl rfl) ?_
                  refine aops_nil ?_
                  refine awp_seq ?_
                  refine awp_region ?_
                  refine aops_e (w0 rfl) rfl (eff_move rfl rfl) ?_
                  refine aops_nil ?_
                  refine awp_cond rfl ?_ ?_
                  · intro hc
                    refine awp_seq ?_
                    refine awp_region ?_
                    refine aops_load_ptr 9 (w0 rfl) rfl rfl rfl rfl rfl (ld_agg (Nat.le_of_ble_eq_true rfl)) ?_
                    refine aops_load_ptr 0 (w0 rfl) rfl rfl rfl rfl rfl (ld_agg (Nat.le_of_ble_eq_true rfl)) ?_
                    refine aops_e (w0 rfl) rfl (eff_call [] rfl rfl rfl (c_fieldOf p hp fa) List.nodup_nil) ?_
                    refine aops_e (w0 rfl) rfl (eff_move rfl rfl) ?_
                    refine aops_e (w0 rfl) rfl (eff_extract rfl rfl rfl) ?_
                    refine aops_e (w0 rfl) rfl (eff_extract rfl rfl rfl) ?_
                    refine aops_n (w0 rfl) rfl (fun id => eff_alloc id rfl rfl rfl) (fun id30 => ?_)
                    refine aops_store 0 (w0 rfl) rfl rfl rfl rfl rfl rfl rfl rfl rfl ?_
                    refine aops_e (w0 rfl) rfl (eff_assign rfl rfl) ?_
                    refine aops_nil ?_
                    refine awp_seq ?_
                    refine awp_region ?_
                    refine aops_e (w0 rfl) rfl (eff_move rfl rfl) ?_
                    refine aops_e (w0 rfl) rfl (eff_not rfl rfl) ?_
                    refine aops_e (w0 rfl) rfl (eff_move rfl rfl) ?_
                    refine aops_gload 10 (wF rfl rfl rfl rfl) rfl rfl (fun hg => rfl) rfl rfl (ld_agg (Nat.le_of_ble_eq_true rfl)) ?_
                    refine aops_g (wF rfl rfl rfl rfl) rfl (fun hg => (eff_fieldAddr rfl rfl rfl)) ?_
                    refine aops_gload 2 (wF rfl rfl rfl rfl) rfl rfl (fun hg => (ev_g hg rfl)) rfl rfl ld_one ?_
                    refine aops_g (wF rfl rfl rfl rfl) rfl (fun hg => (eff_fieldAddr rfl rfl rfl)) ?_
                    refine aops_gload 1 (wF rfl rfl rfl rfl) rfl rfl (fun hg => (ev_g hg rfl)) rfl rfl ld_one ?_
                    refine aops_g (wF rfl rfl rfl rfl) rfl (fun hg => (eff_call [] rfl rfl (evs_cons (ev_g hg rfl) (evs_cons (ev_g hg rfl) (evs_cons (ev_g hg rfl) evs_nil))) (c_refSub p hb hif (fieldQ p k m n).cls fa.cls) List.nodup_nil)) ?_
                    refine aops_g (wF rfl rfl rfl rfl) rfl (fun hg => (eff_not rfl (ev_g hg rfl))) ?_
                    refine aops_e (w0 rfl) rfl (eff_or rfl rfl rfl (fun h => by rw [h]; rfl)) ?_
                    refine aops_e (w0 rfl) rfl (eff_move rfl rfl) ?_
                    refine aops_g (wF rfl rfl rfl rfl) rfl (fun hg => (eff_fieldAddr rfl rfl rfl)) ?_
                    refine aops_gload 1 (wF rfl rfl rfl rfl) rfl rfl (fun hg => (ev_g hg rfl)) rfl rfl ld_one ?_
                    refine aops_g (wF rfl rfl rfl rfl) rfl (fun hg => (eff_fieldAddr rfl rfl rfl)) ?_
                    refine aops_gload 2 (wF rfl rfl rfl rfl) rfl rfl (fun hg => (ev_g hg rfl)) rfl rfl ld_one ?_
                    refine aops_g (wF rfl rfl rfl rfl) rfl (fun hg => (eff_scmp rfl (ev_g hg rfl) (ev_g hg rfl) rfl)) ?_
                    refine aops_e (w0 rfl) rfl (eff_or rfl rfl rfl (fun h => by rw [h]; rfl)) ?_
                    refine aops_nil ?_
                    refine awp_cond rfl ?_ ?_
                    · intro hc
                      exfalso
                      simp [hf1, hf2, hf3] at hc
                    · intro hc
                      refine awp_skip ?_
                      refine awp_seq ?_
                      refine awp_region ?_
                      refine aops_e (w0 rfl) rfl (eff_call [] rfl rfl rfl c_live12 List.nodup_nil) ?_
                      refine aops_e (w0 rfl) rfl (eff_assign rfl rfl) ?_
                      refine aops_nil ?_
                      refine awp_ret ?_
                      exact retq rfl (res_tmp rfl res_nil) (gb rfl)
                  · intro hc
                    exfalso; simp at hc
            · intro hc
              exfalso; simp at hc
      · intro hc
        exfalso; simp at hc

theorem c_findOverrides (p : Prog) (hp : p.ok) (k : Int) (m : Int) (n : Int) (hk : 0 ≤ k ∧ k ≤ 255) (hm : 0 ≤ m ∧ m ≤ 255) (hn : 0 ≤ n ∧ n ≤ 255) : ACalls Try.prog 13 [p.av, .agg [uA k, uA m, uA n]] [] (Gives (bA true)) := by
  refine acalls_of (n := 119) Try.func13 rfl (by decide +kernel) rfl rfl ?_
  refine awp_seq ?_
  refine awp_region ?_
  refine aops_n (w0 rfl) rfl (fun id => eff_box id rfl rfl rfl rfl rfl) (fun id1 => ?_)
  refine aops_n (w0 rfl) rfl (fun id => eff_box id rfl rfl rfl rfl rfl) (fun id2 => ?_)
  refine aops_e (w0 rfl) rfl (eff_assign rfl rfl) ?_
  refine aops_nil ?_
  refine awp_seq ?_
  refine awp_seq ?_
  refine awp_region ?_
  refine aops_load_ptr 1 (w0 rfl) rfl rfl rfl rfl rfl (ld_agg (Nat.le_of_ble_eq_true rfl)) ?_
  refine aops_e (w0 rfl) rfl (eff_call [] rfl rfl rfl (c_great p hp) List.nodup_nil) ?_
  refine aops_nil ?_
  refine awp_cond rfl ?_ ?_
  · intro hc
    refine awp_seq ?_
    refine awp_region ?_
    refine aops_e (w0 rfl) rfl (eff_call [] rfl rfl rfl c_live12 List.nodup_nil) ?_
    refine aops_e (w0 rfl) rfl (eff_assign rfl rfl) ?_
    refine aops_nil ?_
    refine awp_ret ?_
    exact retq rfl (res_tmp rfl res_nil) (gb rfl)
  · intro hc
    have hq : greatP p = false := hc
    have hb := greatP_len hq
    have hif := greatP_if hq
    have hbs : small p.classes.length := by unfold small; omega
    refine awp_skip ?_
    refine awp_seq ?_
    refine awp_region ?_
    refine aops_load_ptr 1 (w0 rfl) rfl rfl rfl rfl rfl (ld_agg (Nat.le_of_ble_eq_true rfl)) ?_
    refine aops_e (w0 rfl) rfl (eff_indexAddr_arr rfl rfl rfl (by first | omega | (simp only [List.length_map]; omega)) (by first | omega | (simp only [List.length_map]; omega)) rfl) ?_
    refine aops_load_ptr 0 (w0 rfl) rfl rfl rfl rfl rfl ld_one ?_
    refine aops_e (w0 rfl) rfl (eff_indexAddr_arr rfl rfl rfl (by first | omega | (simp only [List.length_map]; omega)) (by first | omega | (simp only [List.length_map]; omega)) rfl) ?_
    refine aops_load_ptr 0 (w0 rfl) rfl rfl rfl rfl rfl ld_one ?_
    refine aops_e (w0 rfl) rfl (eff_indexAddr_arr rfl rfl rfl (by first | omega | (simp only [List.length_map]; omega)) (by first | omega | (simp only [List.length_map]; omega)) rfl) ?_
    refine aops_load_ptr 0 (w0 rfl) rfl rfl rfl rfl rfl ld_one ?_
    refine aops_e (w0 rfl) rfl (eff_call [] rfl rfl rfl (c_asked p hp k m n hk hm hn) List.nodup_nil) ?_
    refine aops_n (w0 rfl) rfl (fun id => eff_alloc id rfl rfl rfl) (fun id3 => ?_)
    refine aops_store 0 (w0 rfl) rfl rfl rfl rfl rfl rfl rfl rfl rfl ?_
    refine aops_nil ?_
    refine awp_seq ?_
    refine classAt_elim p (askedP p k m n).cls (fun h1 h2 => ?_) (fun j hj h1 h2 => ?_)
    · skip
      refine awp_region ?_
      refine aops_load_ptr 2 (w0 rfl) rfl rfl rfl rfl rfl (ld_agg (Nat.le_of_ble_eq_true rfl)) ?_
      refine aops_e (w0 rfl) rfl (eff_fieldAddr rfl rfl rfl) ?_
      refine aops_load_ptr 0 (w0 rfl) rfl rfl rfl rfl rfl ld_one ?_
      refine aops_e (w0 rfl) rfl (eff_call [] rfl rfl rfl (c_clsX p hbs (askedP p k m n).cls h1) List.nodup_nil) ?_
      refine aops_e (w0 rfl) rfl (eff_assign rfl rfl) ?_
      refine aops_nil ?_
      refine awp_seq ?_
      refine awp_seq ?_
      refine awp_region ?_
      refine aops_e (w0 rfl) rfl (eff_move rfl rfl) ?_
      refine aops_e (w0 rfl) rfl (eff_icmp rfl rfl rfl rfl) ?_
      refine aops_e (w0 rfl) rfl (eff_move rfl rfl) ?_
      refine aops_g (wF rfl rfl rfl rfl) rfl (fun hg => (eff_fieldAddr rfl rfl rfl)) ?_
      refine aops_gload 0 (wF rfl rfl rfl rfl) rfl rfl (fun hg => (ev_g hg rfl)) rfl rfl ld_one ?_
      refine aops_g (wF rfl rfl rfl rfl) rfl (fun hg => (eff_scmp rfl (ev_g hg rfl) rfl rfl)) ?_
      refine aops_e (w0 rfl) rfl (eff_or rfl rfl rfl (fun h => by rw [h]; rfl)) ?_
      refine aops_nil ?_
      refine awp_cond rfl ?_ ?_
      · intro hc
        refine awp_seq ?_
        refine awp_region ?_
        refine aops_e (w0 rfl) rfl (eff_call [] rfl rfl rfl c_live12 List.nodup_nil) ?_
        refine aops_e (w0 rfl) rfl (eff_assign rfl rfl) ?_
        refine aops_nil ?_
        refine awp_ret ?_
        exact retq rfl (res_tmp rfl res_nil) (gb rfl)
      · intro hc
        exfalso; simp at hc
    · skip
      refine awp_region ?_
      refine aops_load_ptr 2 (w0 rfl) rfl rfl rfl rfl rfl (ld_agg (Nat.le_of_ble_eq_true rfl)) ?_
      refine aops_e (w0 rfl) rfl (eff_fieldAddr rfl rfl rfl) ?_
      refine aops_load_ptr 0 (w0 rfl) rfl rfl rfl rfl rfl ld_one ?_
      refine aops_e (w0 rfl) rfl (eff_call [] rfl rfl rfl (c_clsX p hbs (askedP p k m n).cls h1) List.nodup_nil) ?_
      refine aops_e (w0 rfl) rfl (eff_assign rfl rfl) ?_
      refine aops_nil ?_
      refine awp_seq ?_
      refine awp_seq ?_
      refine awp_region ?_
      refine aops_e (w0 rfl) rfl (eff_move rfl rfl) ?_
      refine aops_e (w0 rfl) rfl (eff_icmp rfl rfl rfl rfl) ?_
      refine aops_e (w0 rfl) rfl (eff_move rfl rfl) ?_
      refine aops_g (wF rfl rfl rfl rfl) rfl (fun hg => (eff_fieldAddr rfl rfl rfl)) ?_
      refine aops_gload 0 (wF rfl rfl rfl rfl) rfl rfl (fun hg => (ev_g hg rfl)) rfl rfl ld_one ?_
      refine aops_g (wF rfl rfl rfl rfl) rfl (fun hg => (eff_scmp rfl (ev_g hg rfl) rfl rfl)) ?_
      refine aops_e (w0 rfl) rfl (eff_or rfl rfl rfl (fun h => by rw [h]; rfl)) ?_
      refine aops_nil ?_
      refine awp_cond rfl ?_ ?_
      · intro hc
        refine awp_seq ?_
        refine awp_region ?_
        refine aops_e (w0 rfl) rfl (eff_call [] rfl rfl rfl c_live12 List.nodup_nil) ?_
        refine aops_e (w0 rfl) rfl (eff_assign rfl rfl) ?_
        refine aops_nil ?_
        refine awp_ret ?_
        exact retq rfl (res_tmp rfl res_nil) (gb rfl)
      · intro hc
        have hnn : (askedP p k m n).name ≠ nInit := beqS_no.1 (by have h5 : (decide ((j : Int) < 0) || beqS (askedP p k m n).name nInit) = false := hc; exact (Bool.or_eq_false_iff.1 h5).2)
        have hkc : hasC p (askedP p k m n).cls = true := by unfold hasC; rw [h2]; rfl
        refine awp_skip ?_
        refine awp_seq ?_
        refine own_elim p (askedP p k m n) hkc hnn (fun hG => ?_) (fun x hG hxb hD => ?_) (fun x hG hxb hD => ?_)
        · skip
          refine awp_region ?_
          refine aops_load_ptr 2 (w0 rfl) rfl rfl rfl rfl rfl (ld_agg (Nat.le_of_ble_eq_true rfl)) ?_
          refine aops_e (w0 rfl) rfl (eff_fieldAddr rfl rfl rfl) ?_
          refine aops_load_ptr 0 (w0 rfl) rfl rfl rfl rfl rfl ld_one ?_
          refine aops_e (w0 rfl) rfl (eff_fieldAddr rfl rfl rfl) ?_
          refine aops_load_ptr 0 (w0 rfl) rfl rfl rfl rfl rfl ld_one ?_
          refine aops_e (w0 rfl) rfl (eff_fieldAddr rfl rfl rfl) ?_
          refine aops_load_ptr 0 (w0 rfl) rfl rfl rfl rfl rfl ld_one ?_
          refine aops_e (w0 rfl) rfl (eff_call [] rfl rfl rfl (c_disp p hp hb (askedP p k m n).cls (askedP p k m n).name (askedP p k m n).desc) List.nodup_nil) ?_
          refine aops_e (w0 rfl) rfl (eff_move rfl rfl) ?_
          refine aops_e (w0 rfl) rfl (eff_extract rfl rfl rfl) ?_
          refine aops_e (w0 rfl) rfl (eff_extract rfl rfl rfl) ?_
          refine aops_n (w0 rfl) rfl (fun id => eff_alloc id rfl rfl rfl) (fun id4 => ?_)
          refine aops_store 0 (w0 rfl) rfl rfl rfl rfl rfl rfl rfl rfl rfl ?_
          refine aops_e (w0 rfl) rfl (eff_assign rfl rfl) ?_
          refine aops_nil ?_
          refine awp_seq ?_
          refine awp_region ?_
          refine aops_load_ptr 3 (w0 rfl) rfl rfl rfl rfl rfl (ld_agg (Nat.le_of_ble_eq_true rfl)) ?_
          refine aops_load_ptr 1 (w0 rfl) rfl rfl rfl rfl rfl (ld_agg (Nat.le_of_ble_eq_true rfl)) ?_
          refine aops_e (w0 rfl) rfl (eff_call [] rfl rfl rfl (c_getO p hp (askedP p k m n) hG) List.nodup_nil) ?_
          refine aops_e (w0 rfl) rfl (eff_move rfl rfl) ?_
          refine aops_e (w0 rfl) rfl (eff_extract rfl rfl rfl) ?_
          refine aops_e (w0 rfl) rfl (eff_extract rfl rfl rfl) ?_
          refine aops_n (w0 rfl) rfl (fun id => eff_alloc id rfl rfl rfl) (fun id5 => ?_)
          refine aops_store 0 (w0 rfl) rfl rfl rfl rfl rfl rfl rfl rfl rfl ?_
          refine aops_e (w0 rfl) rfl (eff_assign rfl rfl) ?_
          refine aops_nil ?_
          refine awp_seq ?_
          refine awp_seq ?_
          refine awp_region ?_
          refine aops_e (w0 rfl) rfl (eff_move rfl rfl) ?_
          refine aops_nil ?_
          refine awp_cond rfl ?_ ?_
          · intro hc
            exfalso; simp at hc
          · intro hc
            refine awp_skip ?_
            refine awp_seq ?_
            refine awp_region ?_
            refine aops_e (w0 rfl) rfl (eff_fieldAddr rfl rfl rfl) ?_
            refine aops_load_ptr 4 (w0 rfl) rfl rfl rfl rfl rfl ld_one ?_
            refine aops_e (w0 rfl) rfl (eff_move rfl rfl) ?_
            refine aops_e (w0 rfl) rfl (eff_indexAddr_lst rfl rfl rfl (len_map (fun _ => rfl)) (by first | omega | (simp only [List.length_map]; omega)) (by first | omega | (simp only [List.length_map]; omega))) ?_
            refine aops_e (w0 rfl) rfl (eff_loadE rfl rfl (map_get (by first | assumption | omega)) (ld_agg (Nat.le_of_ble_eq_true rfl))) ?_
            refine aops_n (w0 rfl) rfl (fun id => eff_alloc id rfl rfl rfl) (fun id6 => ?_)
            refine aops_store 0 (w0 rfl) rfl rfl rfl rfl rfl rfl rfl rfl rfl ?_
            refine aops_nil ?_
            refine awp_seq ?_
            refine awp_seq ?_
            refine awp_region ?_
            refine aops_load_ptr 5 (w0 rfl) rfl rfl rfl rfl rfl (ld_agg (Nat.le_of_ble_eq_true rfl)) ?_
            refine aops_e (w0 rfl) rfl (eff_call [] rfl rfl rfl (c_refCheck p hb hif) List.nodup_nil) ?_
            refine aops_e (w0 rfl) rfl (eff_move rfl rfl) ?_
            refine aops_e (w0 rfl) rfl (eff_extract rfl rfl rfl) ?_
            refine aops_e (w0 rfl) rfl (eff_extract rfl rfl rfl) ?_
            refine aops_e (w0 rfl) rfl (eff_assign rfl rfl) ?_
            refine aops_e (w0 rfl) rfl (eff_assign rfl rfl) ?_
            refine aops_nil ?_
            refine awp_seq ?_
            refine awp_region ?_
            refine aops_e (w0 rfl) rfl (eff_move rfl rfl) ?_
            refine aops_e (w0 rfl) rfl (eff_icmp rfl rfl rfl rfl) ?_
            refine aops_e (w0 rfl) rfl (eff_move rfl rfl) ?_
            refine aops_g (wF rfl rfl rfl rfl) rfl (fun hg => (eff_fieldAddr rfl rfl rfl)) ?_
            refine aops_gload 0 (wF rfl rfl rfl rfl) rfl rfl (fun hg => (ev_g hg rfl)) rfl rfl ld_one ?_
            refine aops_g (wF rfl rfl rfl rfl) rfl (fun hg => (eff_scmp rfl (ev_g hg rfl) rfl rfl)) ?_
            refine aops_e (w0 rfl) rfl (eff_or rfl rfl rfl (fun h => by rw [h]; rfl)) ?_
            refine aops_nil ?_
            refine awp_cond rfl ?_ ?_
            · intro hc
              refine awp_seq ?_
              refine awp_region ?_
              refine aops_e (w0 rfl) rfl (eff_call [] rfl rfl rfl c_live12 List.nodup_nil) ?_
              refine aops_e (w0 rfl) rfl (eff_assign rfl rfl) ?_
              refine aops_nil ?_
              refine awp_ret ?_
              exact retq rfl (res_tmp rfl res_nil) (gb rfl)
            · intro hc
              have h13 : ((checkP p).1 != 0 || beqS p.classes[j].super zS) = false := hc
              have hs : SoundP p := checkP_sound (by have := (Bool.or_eq_false_iff.1 h13).1; simpa using this)
              have hsup : p.classes[j].super ≠ zS := beqS_no.1 (Bool.or_eq_false_iff.1 h13).2
              refine awp_skip ?_
              refine awp_seq ?_
              refine awp_region ?_
              refine aops_load_ptr 5 (w0 rfl) rfl rfl rfl rfl rfl (ld_agg (Nat.le_of_ble_eq_true rfl)) ?_
              refine aops_e (w0 rfl) rfl (eff_fieldAddr rfl rfl rfl) ?_
              refine aops_load_ptr 0 (w0 rfl) rfl rfl rfl rfl rfl ld_one ?_
              refine aops_e (w0 rfl) rfl (eff_fieldAddr rfl rfl rfl) ?_
              refine aops_load_ptr 3 (w0 rfl) rfl rfl rfl rfl rfl ld_one ?_
              refine aops_e (w0 rfl) rfl (eff_fieldAddr rfl rfl rfl) ?_
              refine aops_load_ptr 3 (w0 rfl) rfl rfl rfl rfl rfl ld_one ?_
              refine aops_e (w0 rfl) rfl (eff_call [] rfl rfl rfl (c_dispO p hp hb p.classes[j].super (askedP p k m n).name (askedP p k m n).desc (disp_up hs h2 hsup hG p.classes[j].super).symm) List.nodup_nil) ?_
              refine aops_e (w0 rfl) rfl (eff_move rfl rfl) ?_
              refine aops_e (w0 rfl) rfl (eff_extract rfl rfl rfl) ?_
              refine aops_e (w0 rfl) rfl (eff_extract rfl rfl rfl) ?_
              refine aops_n (w0 rfl) rfl (fun id => eff_alloc id rfl rfl rfl) (fun id7 => ?_)
              refine aops_store 0 (w0 rfl) rfl rfl rfl rfl rfl rfl rfl rfl rfl ?_
              refine aops_e (w0 rfl) rfl (eff_assign rfl rfl) ?_
              refine aops_nil ?_
              refine awp_seq ?_
              refine awp_region ?_
              refine aops_e (w0 rfl) rfl (eff_call [] rfl rfl rfl c_live12 List.nodup_nil) ?_
              refine aops_e (w0 rfl) rfl (eff_move rfl rfl) ?_
              refine aops_g (wT rfl rfl rfl rfl) rfl (fun hg => (eff_move rfl rfl)) ?_
              refine aops_g (wT rfl rfl rfl rfl) rfl (fun hg => (eff_move rfl rfl)) ?_
              refine aops_g (wT rfl rfl rfl rfl) rfl (fun hg => (eff_beq rfl (ev_g hg rfl) (ev_g hg rfl) rfl)) ?_
              refine aops_e (w0 rfl) rfl (eff_and rfl rfl rfl (fun h => h)) ?_
              refine aops_e (w0 rfl) rfl (eff_move rfl rfl) ?_
              refine aops_gload 3 (wT rfl rfl rfl rfl) rfl rfl (fun hg => rfl) rfl rfl (ld_agg (Nat.le_of_ble_eq_true rfl)) ?_
              refine aops_gload 0 (wT rfl rfl rfl rfl) rfl rfl (fun hg => rfl) rfl rfl (ld_agg (Nat.le_of_ble_eq_true rfl)) ?_
              refine aops_g (wT rfl rfl rfl rfl) rfl (fun hg => (eff_to (y := bA true) (eff_eql rfl (ev_g hg rfl) (ev_g hg rfl) rfl rfl) (congrArg bA (ceqs_mself ((declP p (supers p (askedP p k m n).cls) (askedP p k m n) mayD).getD zMR))))) ?_
              refine aops_e (w0 rfl) rfl (eff_and rfl rfl rfl (fun h => h)) ?_
              refine aops_e (w0 rfl) rfl (eff_assign rfl rfl) ?_
              refine aops_nil ?_
              refine awp_ret ?_
              exact retq rfl (res_tmp rfl res_nil) (gb (by simp [ceqs_mself]))
        · skip
          refine awp_region ?_
          refine aops_load_ptr 2 (w0 rfl) rfl rfl rfl rfl rfl (ld_agg (Nat.le_of_ble_eq_true rfl)) ?_
          refine aops_e (w0 rfl) rfl (eff_fieldAddr rfl rfl rfl) ?_
          refine aops_load_ptr 0 (w0 rfl) rfl rfl rfl rfl rfl ld_one ?_
          refine aops_e (w0 rfl) rfl (eff_fieldAddr rfl rfl rfl) ?_
          refine aops_load_ptr 0 (w0 rfl) rfl rfl rfl rfl rfl ld_one ?_
          refine aops_e (w0 rfl) rfl (eff_fieldAddr rfl rfl rfl) ?_
          refine aops_load_ptr 0 (w0 rfl) rfl rfl rfl rfl rfl ld_one ?_
          refine aops_e (w0 rfl) rfl (eff_call [] rfl rfl rfl (c_dispO p hp hb (askedP p k m n).cls (askedP p k m n).name (askedP p k m n).desc hD) List.nodup_nil) ?_
          refine aops_e (w0 rfl) rfl (eff_move rfl rfl) ?_
          refine aops_e (w0 rfl) rfl (eff_extract rfl rfl rfl) ?_
          refine aops_e (w0 rfl) rfl (eff_extract rfl rfl rfl) ?_
          refine aops_n (w0 rfl) rfl (fun id => eff_alloc id rfl rfl rfl) (fun id8 => ?_)
          refine aops_store 0 (w0 rfl) rfl rfl rfl rfl rfl rfl rfl rfl rfl ?_
          refine aops_e (w0 rfl) rfl (eff_assign rfl rfl) ?_
          refine aops_nil ?_
          refine awp_seq ?_
          refine awp_region ?_
          refine aops_load_ptr 3 (w0 rfl) rfl rfl rfl rfl rfl (ld_agg (Nat.le_of_ble_eq_true rfl)) ?_
          refine aops_load_ptr 1 (w0 rfl) rfl rfl rfl rfl rfl (ld_agg (Nat.le_of_ble_eq_true rfl)) ?_
          refine aops_e (w0 rfl) rfl (eff_call [] rfl rfl rfl (c_getO p hp (askedP p k m n) hG) List.nodup_nil) ?_
          refine aops_e (w0 rfl) rfl (eff_move rfl rfl) ?_
          refine aops_e (w0 rfl) rfl (eff_extract rfl rfl rfl) ?_
          refine aops_e (w0 rfl) rfl (eff_extract rfl rfl rfl) ?_
          refine aops_n (w0 rfl) rfl (fun id => eff_alloc id rfl rfl rfl) (fun id9 => ?_)
          refine aops_store 0 (w0 rfl) rfl rfl rfl rfl rfl rfl rfl rfl rfl ?_
          refine aops_e (w0 rfl) rfl (eff_assign rfl rfl) ?_
          refine aops_nil ?_
          refine awp_seq ?_
          refine awp_seq ?_
          refine awp_region ?_
          refine aops_e (w0 rfl) rfl (eff_move rfl rfl) ?_
          refine aops_nil ?_
          refine awp_cond rfl ?_ ?_
          · intro hc
            refine awp_seq ?_
            refine awp_region ?_
            refine aops_e (w0 rfl) rfl (eff_call [] rfl rfl rfl c_live12 List.nodup_nil) ?_
            refine aops_e (w0 rfl) rfl (eff_move rfl rfl) ?_
            refine aops_g (wT rfl rfl rfl rfl) rfl (fun hg => (eff_move rfl rfl)) ?_
            refine aops_g (wT rfl rfl rfl rfl) rfl (fun hg => (eff_fieldAddr rfl rfl rfl)) ?_
            refine aops_gload 0 (wT rfl rfl rfl rfl) rfl rfl (fun hg => (ev_g hg rfl)) rfl rfl ld_one ?_
            refine aops_g (wT rfl rfl rfl rfl) rfl (fun hg => (eff_not rfl (ev_g hg rfl))) ?_
            refine aops_g (wT rfl rfl rfl rfl) rfl (fun hg => (eff_move rfl (ev_g hg rfl))) ?_
            refine aops_g (wTg rfl rfl rfl rfl) rfl (fun hg => (eff_fieldAddr rfl rfl rfl)) ?_
            refine aops_gload 0 (wTg rfl rfl rfl rfl) rfl rfl (fun hg => (ev_g hg rfl)) rfl rfl ld_one ?_
            refine aops_g (wTg rfl rfl rfl rfl) rfl (fun hg => (eff_not rfl (ev_g hg rfl))) ?_
            refine aops_g (wT rfl rfl rfl rfl) rfl (fun hg => (eff_and rfl (ev_g hg rfl) rfl (fun h => by first | (simp [h, hg]; done) | (rw [hg, h]; rfl) | (simp_all; done)))) ?_
            refine aops_g (wT rfl rfl rfl rfl) rfl (fun hg => (eff_beq rfl (ev_g hg rfl) (ev_g hg rfl) rfl)) ?_
            refine aops_e (w0 rfl) rfl (eff_and rfl rfl rfl (fun h => h)) ?_
            refine aops_e (w0 rfl) rfl (eff_move rfl rfl) ?_
            refine aops_g (wT rfl rfl rfl rfl) rfl (fun hg => (eff_move rfl rfl)) ?_
            refine aops_g (wT rfl rfl rfl rfl) rfl (fun hg => (eff_not rfl (ev_g hg rfl))) ?_
            refine aops_g (wT rfl rfl rfl rfl) rfl (fun hg => (eff_move rfl (ev_g hg rfl))) ?_
            refine aops_gload 1 (wFg rfl rfl rfl rfl) rfl rfl (fun hg => rfl) rfl rfl (ld_agg (Nat.le_of_ble_eq_true rfl)) ?_
            refine aops_gload 2 (wFg rfl rfl rfl rfl) rfl rfl (fun hg => rfl) rfl rfl (ld_agg (Nat.le_of_ble_eq_true rfl)) ?_
            refine aops_g (wFg rfl rfl rfl rfl) rfl (fun hg => (eff_to (y := bA true) (eff_eql rfl (ev_g hg rfl) (ev_g hg rfl) rfl rfl) (congrArg bA (ceqs_mself (askedP p k m n))))) ?_
            refine aops_g (wT rfl rfl rfl rfl) rfl (fun hg => (eff_or rfl (ev_g hg rfl) rfl (fun h => by first | (simp [h, hg]; done) | (rw [hg, h]; rfl) | (simp_all; done)))) ?_
            refine aops_e (w0 rfl) rfl (eff_and rfl rfl rfl (fun h => h)) ?_
            refine aops_e (w0 rfl) rfl (eff_assign rfl rfl) ?_
            refine aops_nil ?_
            refine awp_ret ?_
            exact retq rfl (res_tmp rfl res_nil) (gb (by simp [hxb, ceqs_mself]))
          · intro hc
            exfalso; simp at hc
        · skip
          refine awp_region ?_
          refine aops_load_ptr 2 (w0 rfl) rfl rfl rfl rfl rfl (ld_agg (Nat.le_of_ble_eq_true rfl)) ?_
          refine aops_e (w0 rfl) rfl (eff_fieldAddr rfl rfl rfl) ?_
          refine aops_load_ptr 0 (w0 rfl) rfl rfl rfl rfl rfl ld_one ?_
          refine aops_e (w0 rfl) rfl (eff_fieldAddr rfl rfl rfl) ?_
          refine aops_load_ptr 0 (w0 rfl) rfl rfl rfl rfl rfl ld_one ?_
          refine aops_e (w0 rfl) rfl (eff_fieldAddr rfl rfl rfl) ?_
          refine aops_load_ptr 0 (w0 rfl) rfl rfl rfl rfl rfl ld_one ?_
          refine aops_e (w0 rfl) rfl (eff_call [] rfl rfl rfl (c_dispO p hp hb (askedP p k m n).cls (askedP p k m n).name (askedP p k m n).desc hD) List.nodup_nil) ?_
          refine aops_e (w0 rfl) rfl (eff_move rfl rfl) ?_
          refine aops_e (w0 rfl) rfl (eff_extract rfl rfl rfl) ?_
          refine aops_e (w0 rfl) rfl (eff_extract rfl rfl rfl) ?_
          refine aops_n (w0 rfl) rfl (fun id => eff_alloc id rfl rfl rfl) (fun id10 => ?_)
          refine aops_store 0 (w0 rfl) rfl rfl rfl rfl rfl rfl rfl rfl rfl ?_
          refine aops_e (w0 rfl) rfl (eff_assign rfl rfl) ?_
          refine aops_nil ?_
          refine awp_seq ?_
          refine awp_region ?_
          refine aops_load_ptr 3 (w0 rfl) rfl rfl rfl rfl rfl (ld_agg (Nat.le_of_ble_eq_true rfl)) ?_
          refine aops_load_ptr 1 (w0 rfl) rfl rfl rfl rfl rfl (ld_agg (Nat.le_of_ble_eq_true rfl)) ?_
          refine aops_e (w0 rfl) rfl (eff_call [] rfl rfl rfl (c_getO p hp (askedP p k m n) hG) List.nodup_nil) ?_
          refine aops_e (w0 rfl) rfl (eff_move rfl rfl) ?_
          refine aops_e (w0 rfl) rfl (eff_extract rfl rfl rfl) ?_
          refine aops_e (w0 rfl) rfl (eff_extract rfl rfl rfl) ?_
          refine aops_n (w0 rfl) rfl (fun id => eff_alloc id rfl rfl rfl) (fun id11 => ?_)
          refine aops_store 0 (w0 rfl) rfl rfl rfl rfl rfl rfl rfl rfl rfl ?_
          refine aops_e (w0 rfl) rfl (eff_assign rfl rfl) ?_
          refine aops_nil ?_
          refine awp_seq ?_
          refine awp_seq ?_
          refine awp_region ?_
          refine aops_e (w0 rfl) rfl (eff_move rfl rfl) ?_
          refine aops_nil ?_
          refine awp_cond rfl ?_ ?_
          · intro hc
            refine awp_seq ?_
            refine awp_region ?_
            refine aops_e (w0 rfl) rfl (eff_call [] rfl rfl rfl c_live12 List.nodup_nil) ?_
            refine aops_e (w0 rfl) rfl (eff_move rfl rfl) ?_
            refine aops_g (wT rfl rfl rfl rfl) rfl (fun hg => (eff_move rfl rfl)) ?_
            refine aops_g (wT rfl rfl rfl rfl) rfl (fun hg => (eff_fieldAddr rfl rfl rfl)) ?_
            refine aops_gload 0 (wT rfl rfl rfl rfl) rfl rfl (fun hg => (ev_g hg rfl)) rfl rfl ld_one ?_
            refine aops_g (wT rfl rfl rfl rfl) rfl (fun hg => (eff_not rfl (ev_g hg rfl))) ?_
            refine aops_g (wT rfl rfl rfl rfl) rfl (fun hg => (eff_move rfl (ev_g hg rfl))) ?_
            refine aops_g (wTg rfl rfl rfl rfl) rfl (fun hg => (eff_fieldAddr rfl rfl rfl)) ?_
            refine aops_gload 0 (wTg rfl rfl rfl rfl) rfl rfl (fun hg => (ev_g hg rfl)) rfl rfl ld_one ?_
            refine aops_g (wTg rfl rfl rfl rfl) rfl (fun hg => (eff_not rfl (ev_g hg rfl))) ?_
            refine aops_g (wT rfl rfl rfl rfl) rfl (fun hg => (eff_and rfl (ev_g hg rfl) rfl (fun h => by first | (simp [h, hg]; done) | (rw [hg, h]; rfl) | (simp_all; done)))) ?_
            refine aops_g (wT rfl rfl rfl rfl) rfl (fun hg => (eff_beq rfl (ev_g hg rfl) (ev_g hg rfl) rfl)) ?_
            refine aops_e (w0 rfl) rfl (eff_and rfl rfl rfl (fun h => h)) ?_
            refine aops_e (w0 rfl) rfl (eff_move rfl rfl) ?_
            refine aops_g (wT rfl rfl rfl rfl) rfl (fun hg => (eff_move rfl rfl)) ?_
            refine aops_g (wT rfl rfl rfl rfl) rfl (fun hg => (eff_not rfl (ev_g hg rfl))) ?_
            refine aops_g (wT rfl rfl rfl rfl) rfl (fun hg => (eff_move rfl (ev_g hg rfl))) ?_
            refine aops_gload 1 (wFg rfl rfl rfl rfl) rfl rfl (fun hg => rfl) rfl rfl (ld_agg (Nat.le_of_ble_eq_true rfl)) ?_
            refine aops_gload 2 (wFg rfl rfl rfl rfl) rfl rfl (fun hg => rfl) rfl rfl (ld_agg (Nat.le_of_ble_eq_true rfl)) ?_
            refine aops_g (wFg rfl rfl rfl rfl) rfl (fun hg => (eff_eql rfl (ev_g hg rfl) (ev_g hg rfl) rfl rfl)) ?_
            refine aops_g (wT rfl rfl rfl rfl) rfl (fun hg => (eff_or rfl (ev_g hg rfl) rfl (fun h => by first | (simp [h, hg]; done) | (rw [hg, h]; rfl) | (simp_all; done)))) ?_
            refine aops_e (w0 rfl) rfl (eff_and rfl rfl rfl (fun h => h)) ?_
            refine aops_e (w0 rfl) rfl (eff_assign rfl rfl) ?_
            refine aops_nil ?_
            refine awp_ret ?_
            exact retq rfl (res_tmp rfl res_nil) (gb (by simp [hxb]))
          · intro hc
            exfalso; simp at hc

end Go.Sx
