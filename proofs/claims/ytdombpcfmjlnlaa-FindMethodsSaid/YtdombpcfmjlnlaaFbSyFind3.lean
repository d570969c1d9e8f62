/- Layer 12's laws, walked. -/
import Derived.Test.YtdombpcfmjlnlaaFbSyFind2
set_option linter.unusedVariables false
set_option linter.unusedSimpArgs false
namespace Go.Sx
open Go Go.Proofs

theorem c_asked (p : Prog) (hp : p.ok) (k : Int) (m : Int) (n : Int) (hk : 0 ≤ k ∧ k ≤ 255) (hm : 0 ≤ m ∧ m ≤ 255) (hn : 0 ≤ n ∧ n ≤ 255) : ACalls Try.prog 46 [p.av, uA k, uA m, uA n] [] (Gives (askedP p k m n).av) := by
  have hbs := hp.classes.1
  simp only [small] at hbs
  obtain ⟨cX, hcX⟩ : ∃ c, c = p.classes.getD (k.tmod p.classes.length).toNat default := ⟨_, rfl⟩
  obtain ⟨cY, hcY⟩ : ∃ c, c = p.classes.getD (m.tmod p.classes.length).toNat default := ⟨_, rfl⟩
  obtain ⟨kZ, hkZ⟩ : ∃ c, c = cY.methods.getD (n.tmod cY.methods.length).toNat default := ⟨_, rfl⟩
  have hym : cY ∈ p.classes ∨ p.classes.length = 0 := cls_mem hm.1 hcY
  refine acalls_of (n := 60) Try.func46 rfl (by decide +kernel) rfl rfl ?_
  refine awp_seq ?_
  refine awp_region ?_
  refine aops_n (w0 rfl) rfl (fun id => eff_box id rfl rfl rfl rfl rfl) (fun id1 => ?_)
  refine aops_n (w0 rfl) rfl (fun id => eff_alloc id rfl rfl rfl) (fun id2 => ?_)
  refine aops_nil ?_
  refine awp_seq ?_
  refine awp_seq ?_
  refine awp_region ?_
  refine aops_e (w0 rfl) rfl (eff_fieldAddr rfl rfl rfl) ?_
  refine aops_load_ptr 1 (w0 rfl) rfl rfl rfl rfl rfl ld_one ?_
  refine aops_e (w0 rfl) rfl (eff_len rfl rfl rfl rfl) ?_
  refine aops_e (w0 rfl) rfl (eff_icmp rfl rfl rfl rfl) ?_
  refine aops_nil ?_
  refine awp_cond rfl ?_ ?_
  · intro hc
    have hq : p.classes.length = 0 := by simp only [beq_iff_eq, beq_eq_false_iff_ne, ne_eq, List.length_map] at hc; omega
    refine awp_seq ?_
    refine awp_region ?_
    refine aops_e (w0 rfl) rfl (eff_build rfl rfl rfl) ?_
    refine aops_store 0 (w0 rfl) rfl rfl rfl rfl rfl rfl rfl rfl rfl ?_
    refine aops_nil ?_
    refine awp_ret ?_
    exact retq rfl (res_cell 0 rfl rfl rfl (ld_agg (Nat.le_of_ble_eq_true rfl)) res_nil) (gvr (by rw [askedP_z hq]; rfl))
  · intro hc
    have hq : ¬ p.classes.length = 0 := by simp only [beq_iff_eq, beq_eq_false_iff_ne, ne_eq, List.length_map] at hc; omega
    have hn2 := hn
    have hcl : 0 < p.classes.length := by omega
    have hlk := near_lt hcl hk.1
    have hlm := near_lt hcl hm.1
    have hms := (hp.classes.2 cY (hym.resolve_right hq)).methods.1
    simp only [small] at hms
    refine awp_skip ?_
    refine awp_seq ?_
    refine awp_drawM [0, 1, 0, 4, 0, 16, 48, 124, 255, 511, 1023, 2047, 0, 8191] 13 rfl (by kernel_rfl) ?_
    refine calm_e (w0 rfl) rfl (eff_fieldAddr rfl rfl rfl) ?_
    refine calm_load_ptr 1 (w0 rfl) rfl rfl rfl rfl rfl ld_one ?_
    refine calm_e (w0 rfl) rfl (eff_move rfl rfl) ?_
    refine calm_e (w0 rfl) rfl (eff_to (y := iA k) (eff_convInt rfl rfl) (congrArg iA (i64_wrap (by omega)))) ?_
    refine calm_e (w0 rfl) rfl (eff_fieldAddr rfl rfl rfl) ?_
    refine calm_load_ptr 1 (w0 rfl) rfl rfl rfl rfl rfl ld_one ?_
    refine calm_e (w0 rfl) rfl (eff_to (y := iA p.classes.length) (eff_len rfl rfl rfl rfl) (congrArg iA (by simp))) ?_
    refine calm_e (w0 rfl) rfl (eff_rem rfl rfl rfl (by omega)) ?_
    refine calm_e (w0 rfl) rfl (eff_indexAddr_lst rfl rfl rfl (len_map (fun _ => rfl)) (by first | exact Int.tmod_nonneg _ hk.1 | (simp only [List.length_map]; exact Int.tmod_lt_of_pos _ (by omega))) (by first | exact Int.tmod_nonneg _ hk.1 | (simp only [List.length_map]; exact Int.tmod_lt_of_pos _ (by omega)))) ?_
    refine calm_e (w0 rfl) rfl (eff_fieldAddr rfl rfl rfl) ?_
    refine calm_e (w0 rfl) rfl (eff_to (y := sA cX.name) (eff_loadE rfl rfl (map_get (by omega)) ld_one) (congrArg (fun c : Cls => sA c.name) ((clsD hlk).symm.trans hcX.symm))) ?_
    refine calm_e (w0 rfl) rfl (eff_build rfl rfl rfl) ?_
    refine calm_n (w0 rfl) rfl (fun id => eff_alloc id rfl rfl rfl) (fun id3 => ?_)
    refine .done ?_
    refine aops_store 0 (w0 rfl) rfl rfl rfl rfl rfl rfl rfl rfl rfl ?_
    refine aops_nil ?_
    refine awp_seq ?_
    refine awp_drawN 11 rfl (by kernel_rfl) ?_
    refine calm_e (w0 rfl) rfl (eff_fieldAddr rfl rfl rfl) ?_
    refine calm_load_ptr 2 (w0 rfl) rfl rfl rfl rfl rfl ld_one ?_
    refine calm_e (w0 rfl) rfl (eff_move rfl rfl) ?_
    refine calm_e (w0 rfl) rfl (eff_to (y := iA m) (eff_convInt rfl rfl) (congrArg iA (i64_wrap (by omega)))) ?_
    refine calm_e (w0 rfl) rfl (eff_fieldAddr rfl rfl rfl) ?_
    refine calm_load_ptr 2 (w0 rfl) rfl rfl rfl rfl rfl ld_one ?_
    refine calm_e (w0 rfl) rfl (eff_to (y := iA p.classes.length) (eff_len rfl rfl rfl rfl) (congrArg iA (by simp))) ?_
    refine calm_e (w0 rfl) rfl (eff_rem rfl rfl rfl (by omega)) ?_
    refine calm_e (w0 rfl) rfl (eff_indexAddr_lst rfl rfl rfl (len_map (fun _ => rfl)) (by first | exact Int.tmod_nonneg _ hm.1 | (simp only [List.length_map]; exact Int.tmod_lt_of_pos _ (by omega))) (by first | exact Int.tmod_nonneg _ hm.1 | (simp only [List.length_map]; exact Int.tmod_lt_of_pos _ (by omega)))) ?_
    refine calm_e (w0 rfl) rfl (eff_to (y := cY.av) (eff_loadE rfl rfl (map_get (by omega)) (ld_agg (Nat.le_of_ble_eq_true rfl))) (congrArg Cls.av ((clsD hlm).symm.trans hcY.symm))) ?_
    refine calm_n (w0 rfl) rfl (fun id => eff_alloc id rfl rfl rfl) (fun id4 => ?_)
    refine .done ?_
    refine aops_store 0 (w0 rfl) rfl rfl rfl rfl rfl rfl rfl rfl rfl ?_
    refine aops_nil ?_
    refine awp_seq ?_
    refine awp_seq ?_
    refine awp_region ?_
    refine aops_e (w0 rfl) rfl (eff_fieldAddr rfl rfl rfl) ?_
    refine aops_load_ptr 0 (w0 rfl) rfl rfl rfl rfl rfl ld_one ?_
    refine aops_e (w0 rfl) rfl (eff_len rfl rfl rfl rfl) ?_
    refine aops_e (w0 rfl) rfl (eff_icmp rfl rfl rfl rfl) ?_
    refine aops_nil ?_
    refine awp_cond rfl ?_ ?_
    · intro hc
      have hmz : 0 < cY.methods.length := by simpa using hc
      have hln := near_lt hmz hn.1
      refine awp_seq ?_
      refine awp_drawN 11 rfl (by kernel_rfl) ?_
      refine calm_e (w0 rfl) rfl (eff_fieldAddr rfl rfl rfl) ?_
      refine calm_load_ptr 0 (w0 rfl) rfl rfl rfl rfl rfl ld_one ?_
      refine calm_e (w0 rfl) rfl (eff_move rfl rfl) ?_
      refine calm_e (w0 rfl) rfl (eff_to (y := iA n) (eff_convInt rfl rfl) (congrArg iA (i64_wrap (by omega)))) ?_
      refine calm_e (w0 rfl) rfl (eff_fieldAddr rfl rfl rfl) ?_
      refine calm_load_ptr 0 (w0 rfl) rfl rfl rfl rfl rfl ld_one ?_
      refine calm_e (w0 rfl) rfl (eff_to (y := iA cY.methods.length) (eff_len rfl rfl rfl rfl) (congrArg iA (by simp))) ?_
      refine calm_e (w0 rfl) rfl (eff_rem rfl rfl rfl (by omega)) ?_
      refine calm_e (w0 rfl) rfl (eff_indexAddr_lst rfl rfl rfl (len_map (fun _ => rfl)) (by first | exact Int.tmod_nonneg _ hn2.1 | (simp only [List.length_map]; exact Int.tmod_lt_of_pos _ (by omega))) (by first | exact Int.tmod_nonneg _ hn2.1 | (simp only [List.length_map]; exact Int.tmod_lt_of_pos _ (by omega)))) ?_
      refine calm_e (w0 rfl) rfl (eff_to (y := kZ.av) (eff_loadE rfl rfl (map_get (by omega)) (ld_agg (Nat.le_of_ble_eq_true rfl))) (congrArg Meth.av ((mthD hln).symm.trans hkZ.symm))) ?_
      refine calm_n (w0 rfl) rfl (fun id => eff_alloc id rfl rfl rfl) (fun id5 => ?_)
      refine .done ?_
      refine aops_store 0 (w0 rfl) rfl rfl rfl rfl rfl rfl rfl rfl rfl ?_
      refine aops_nil ?_
      refine awp_seq ?_
      refine awp_region ?_
      refine aops_e (w0 rfl) rfl (eff_fieldAddr rfl rfl rfl) ?_
      refine aops_load_ptr 0 (w0 rfl) rfl rfl rfl rfl rfl ld_one ?_
      refine aops_e (w0 rfl) rfl (eff_fieldAddr rfl rfl rfl) ?_
      refine aops_store 2 (w0 rfl) rfl rfl rfl rfl rfl rfl rfl rfl rfl ?_
      refine aops_nil ?_
      refine awp_region ?_
      refine aops_e (w0 rfl) rfl (eff_fieldAddr rfl rfl rfl) ?_
      refine aops_load_ptr 0 (w0 rfl) rfl rfl rfl rfl rfl ld_one ?_
      refine aops_e (w0 rfl) rfl (eff_fieldAddr rfl rfl rfl) ?_
      refine aops_store 2 (w0 rfl) rfl rfl rfl rfl rfl rfl rfl rfl rfl ?_
      refine aops_nil ?_
      refine awp_seq ?_
      refine awp_region ?_
      refine aops_load_ptr 2 (w0 rfl) rfl rfl rfl rfl rfl (ld_agg (Nat.le_of_ble_eq_true rfl)) ?_
      refine aops_store 3 (w0 rfl) rfl rfl rfl rfl rfl rfl rfl rfl rfl ?_
      refine aops_nil ?_
      refine awp_ret ?_
      exact retq rfl (res_cell 3 rfl rfl rfl (ld_agg (Nat.le_of_ble_eq_true rfl)) res_nil) (gvr (by first | (rw [askedP_m hq hcX hcY hkZ hmz]; rfl) | (rw [askedP_n hq hcX hcY hmz]; rfl)))
    · intro hc
      have hmz : ¬ 0 < cY.methods.length := by simpa using hc
      refine awp_skip ?_
      refine awp_seq ?_
      refine awp_region ?_
      refine aops_load_ptr 1 (w0 rfl) rfl rfl rfl rfl rfl (ld_agg (Nat.le_of_ble_eq_true rfl)) ?_
      refine aops_store 2 (w0 rfl) rfl rfl rfl rfl rfl rfl rfl rfl rfl ?_
      refine aops_nil ?_
      refine awp_ret ?_
      exact retq rfl (res_cell 2 rfl rfl rfl (ld_agg (Nat.le_of_ble_eq_true rfl)) res_nil) (gvr (by first | (rw [askedP_m hq hcX hcY hkZ hmz]; rfl) | (rw [askedP_n hq hcX hcY hmz]; rfl)))

theorem c_staticO (p : Prog) (hp : p.ok) (hb : p.classes.length ≤ 1000) (m : MRef) {r : Option MRef} (h : declP p (supers p m.cls) m mayS = r) : ACalls Try.prog 52 [p.av, m.av] [] (Gives (.tup [(r.getD zMR).av, bA r.isSome])) := h ▸ c_static p hp hb m
theorem c_dispO (p : Prog) (hp : p.ok) (hb : p.classes.length ≤ 1000) (cl nm d : Str) {r : Option MRef} (h : declP p (supers p cl) ⟨cl, nm, d⟩ mayD = r) : ACalls Try.prog 54 [p.av, sA cl, sA nm, sA d] [] (Gives (.tup [(r.getD zMR).av, bA r.isSome])) := h ▸ c_disp p hp hb cl nm d
theorem c_virtO (p : Prog) (hp : p.ok) (hb : p.classes.length ≤ 1000) (hif : ∀ c, c ∈ p.classes → c.ifaces.length ≤ 1000) (m : MRef) {r : Option MRef} (h : declP p (supers p m.cls ++ ancL p m.cls) m mayV = r) : ACalls Try.prog 55 [p.av, m.av] [] (Gives (.tup [(r.getD zMR).av, bA r.isSome])) := h ▸ c_virt p hp hb hif m
theorem c_fieldO (p : Prog) (hp : p.ok) (hb : p.classes.length ≤ 1000) (f : FRef) {r : Option FRef} (h : fieldW p f = r) : ACalls Try.prog 48 [p.av, f.av] [] (Gives (.tup [(r.getD zFR).av, bA r.isSome])) := h ▸ c_field p hp hb f
theorem c_fieldOfO (p : Prog) (hp : p.ok) (f : FRef) {r : Option Fld} (h : fldP p f = r) : ACalls Try.prog 50 [p.av, f.av] [] (Gives (.tup [(r.getD zFl).av, bA r.isSome])) := h ▸ c_fieldOf p hp f
theorem c_initO (p : Prog) (hp : p.ok) (cl : Str) {r : Option MRef} (h : initP p cl = r) : ACalls Try.prog 76 [p.av, sA cl] [] (Gives (.tup [(r.getD zMR).av, bA r.isSome])) := h ▸ c_init p hp cl

theorem c_live12  : ACalls Try.prog 44 [] [] (Gives (bA true)) := by
  refine acalls_of (n := 126) Try.func44 rfl (by decide +kernel) rfl rfl ?_
  refine awp_seq ?_
  refine awp_region ?_
  refine aops_e (w0 rfl) rfl (eff_assign rfl rfl) ?_
  refine aops_nil ?_
  refine awp_seq ?_
  refine awp_region ?_
  refine aops_e (w0 rfl) rfl (eff_sub (y := lfI.av) (eff_build rfl rfl rfl) (.agg (by repeat' (first | exact .nil | refine .keep ?_ | refine .z ?_)))) ?_
  refine aops_e (w0 rfl) rfl (eff_frz (es := ([lfI] : List Instr).map Instr.cells) (fun id => eff_buildSlice id (ps := [(0, .tmp 19)]) rfl rfl rfl rfl rfl rfl rfl rfl) rfl) ?_
  refine aops_e (w0 rfl) rfl (eff_assign rfl rfl) ?_
  refine aops_nil ?_
  refine awp_seq ?_
  refine awp_region ?_
  refine aops_e (w0 rfl) rfl (eff_move rfl rfl) ?_
  refine aops_e (w0 rfl) rfl (eff_sub (y := lfM.av) (eff_build rfl rfl rfl) (.agg (by repeat' (first | exact .nil | refine .keep ?_ | refine .z ?_)))) ?_
  refine aops_n (w0 rfl) rfl (fun id => eff_alloc id rfl rfl rfl) (fun id1 => ?_)
  refine aops_store 0 (w0 rfl) rfl rfl rfl rfl rfl rfl rfl rfl rfl ?_
  refine aops_nil ?_
  refine awp_seq ?_
  refine awp_region ?_
  refine aops_e (w0 rfl) rfl (eff_move rfl rfl) ?_
  refine aops_e (w0 rfl) rfl (eff_sub (y := lfS.av) (eff_build rfl rfl rfl) (.agg (by repeat' (first | exact .nil | refine .keep ?_ | refine .z ?_)))) ?_
  refine aops_n (w0 rfl) rfl (fun id => eff_alloc id rfl rfl rfl) (fun id2 => ?_)
  refine aops_store 0 (w0 rfl) rfl rfl rfl rfl rfl rfl rfl rfl rfl ?_
  refine aops_nil ?_
  refine awp_seq ?_
  refine awp_region ?_
  refine aops_e (w0 rfl) rfl (eff_build rfl rfl rfl) ?_
  refine aops_e (w0 rfl) rfl (eff_sub (y := lfF.av) (eff_build rfl rfl rfl) (.agg (by repeat' (first | exact .nil | refine .keep ?_ | refine .z ?_)))) ?_
  refine aops_e (w0 rfl) rfl (eff_frz (es := ([lfF] : List Fld).map Fld.cells) (fun id => eff_buildSlice id (ps := [(0, .tmp 26)]) rfl rfl rfl rfl rfl rfl rfl rfl) rfl) ?_
  refine aops_load_ptr 1 (w0 rfl) rfl rfl rfl rfl rfl (ld_agg (Nat.le_of_ble_eq_true rfl)) ?_
  refine aops_load_ptr 0 (w0 rfl) rfl rfl rfl rfl rfl (ld_agg (Nat.le_of_ble_eq_true rfl)) ?_
  refine aops_e (w0 rfl) rfl (eff_frz (es := ([lfM, lfS] : List Meth).map Meth.cells) (fun id => eff_buildSlice id (ps := [(0, .tmp 28), (1, .tmp 29)]) rfl rfl rfl rfl rfl rfl rfl rfl) rfl) ?_
  refine aops_e (w0 rfl) rfl (eff_sub (y := lfA.av) (eff_build rfl rfl rfl) (.agg (by repeat' (first | exact .nil | refine .keep ?_ | refine .z ?_)))) ?_
  refine aops_e (w0 rfl) rfl (eff_sub (y := lfB.av) (eff_build rfl rfl rfl) (.agg (by repeat' (first | exact .nil | refine .keep ?_ | refine .z ?_)))) ?_
  refine aops_e (w0 rfl) rfl (eff_frz (es := lfP.classes.map Cls.cells) (fun id => eff_buildSlice id (ps := [(0, .tmp 31), (1, .tmp 32)]) rfl rfl rfl rfl rfl rfl rfl rfl) rfl) ?_
  refine aops_e (w0 rfl) rfl (eff_sub (y := lfP.av) (eff_build rfl rfl rfl) (.agg (by repeat' (first | exact .nil | refine .keep ?_ | refine .z ?_)))) ?_
  refine aops_n (w0 rfl) rfl (fun id => eff_alloc id rfl rfl rfl) (fun id3 => ?_)
  refine aops_store 0 (w0 rfl) rfl rfl rfl rfl rfl rfl rfl rfl rfl ?_
  refine aops_nil ?_
  refine awp_seq ?_
  refine awp_region ?_
  refine aops_load_ptr 0 (w0 rfl) rfl rfl rfl rfl rfl (ld_agg (Nat.le_of_ble_eq_true rfl)) ?_
  refine aops_e (w0 rfl) rfl (eff_call [] rfl rfl rfl (c_dispO lfP lfP_ok (by decide) nB nm1 nVd (r := some ⟨nA, nm1, nVd⟩) (by decide +kernel)) List.nodup_nil) ?_
  refine aops_e (w0 rfl) rfl (eff_move rfl rfl) ?_
  refine aops_e (w0 rfl) rfl (eff_extract rfl rfl rfl) ?_
  refine aops_e (w0 rfl) rfl (eff_extract rfl rfl rfl) ?_
  refine aops_n (w0 rfl) rfl (fun id => eff_alloc id rfl rfl rfl) (fun id4 => ?_)
  refine aops_store 0 (w0 rfl) rfl rfl rfl rfl rfl rfl rfl rfl rfl ?_
  refine aops_e (w0 rfl) rfl (eff_assign rfl rfl) ?_
  refine aops_nil ?_
  refine awp_seq ?_
  refine awp_region ?_
  refine aops_load_ptr 1 (w0 rfl) rfl rfl rfl rfl rfl (ld_agg (Nat.le_of_ble_eq_true rfl)) ?_
  refine aops_e (w0 rfl) rfl (eff_build rfl rfl rfl) ?_
  refine aops_e (w0 rfl) rfl (eff_call [] rfl rfl rfl (c_staticO lfP lfP_ok (by decide) ⟨nB, ns1, nVd⟩ (r := some ⟨nA, ns1, nVd⟩) (by decide +kernel)) List.nodup_nil) ?_
  refine aops_e (w0 rfl) rfl (eff_move rfl rfl) ?_
  refine aops_e (w0 rfl) rfl (eff_extract rfl rfl rfl) ?_
  refine aops_e (w0 rfl) rfl (eff_extract rfl rfl rfl) ?_
  refine aops_n (w0 rfl) rfl (fun id => eff_alloc id rfl rfl rfl) (fun id5 => ?_)
  refine aops_store 0 (w0 rfl) rfl rfl rfl rfl rfl rfl rfl rfl rfl ?_
  refine aops_e (w0 rfl) rfl (eff_assign rfl rfl) ?_
  refine aops_nil ?_
  refine awp_seq ?_
  refine awp_region ?_
  refine aops_load_ptr 2 (w0 rfl) rfl rfl rfl rfl rfl (ld_agg (Nat.le_of_ble_eq_true rfl)) ?_
  refine aops_e (w0 rfl) rfl (eff_build rfl rfl rfl) ?_
  refine aops_e (w0 rfl) rfl (eff_call [] rfl rfl rfl (c_fieldO lfP lfP_ok (by decide) ⟨nB, nf1⟩ (r := some ⟨nA, nf1⟩) (by decide +kernel)) List.nodup_nil) ?_
  refine aops_e (w0 rfl) rfl (eff_move rfl rfl) ?_
  refine aops_e (w0 rfl) rfl (eff_extract rfl rfl rfl) ?_
  refine aops_e (w0 rfl) rfl (eff_extract rfl rfl rfl) ?_
  refine aops_n (w0 rfl) rfl (fun id => eff_alloc id rfl rfl rfl) (fun id6 => ?_)
  refine aops_store 0 (w0 rfl) rfl rfl rfl rfl rfl rfl rfl rfl rfl ?_
  refine aops_e (w0 rfl) rfl (eff_assign rfl rfl) ?_
  refine aops_nil ?_
  refine awp_seq ?_
  refine awp_region ?_
  refine aops_load_ptr 3 (w0 rfl) rfl rfl rfl rfl rfl (ld_agg (Nat.le_of_ble_eq_true rfl)) ?_
  refine aops_e (w0 rfl) rfl (eff_build rfl rfl rfl) ?_
  refine aops_e (w0 rfl) rfl (eff_call [] rfl rfl rfl (c_virtO lfP lfP_ok (by decide) (by decide) ⟨nB, nm1, nVd⟩ (r := some ⟨nA, nm1, nVd⟩) lfP_virt) List.nodup_nil) ?_
  refine aops_e (w0 rfl) rfl (eff_move rfl rfl) ?_
  refine aops_e (w0 rfl) rfl (eff_extract rfl rfl rfl) ?_
  refine aops_e (w0 rfl) rfl (eff_extract rfl rfl rfl) ?_
  refine aops_n (w0 rfl) rfl (fun id => eff_alloc id rfl rfl rfl) (fun id7 => ?_)
  refine aops_store 0 (w0 rfl) rfl rfl rfl rfl rfl rfl rfl rfl rfl ?_
  refine aops_e (w0 rfl) rfl (eff_assign rfl rfl) ?_
  refine aops_nil ?_
  refine awp_seq ?_
  refine awp_region ?_
  refine aops_load_ptr 4 (w0 rfl) rfl rfl rfl rfl rfl (ld_agg (Nat.le_of_ble_eq_true rfl)) ?_
  refine aops_e (w0 rfl) rfl (eff_call [] rfl rfl rfl (c_initO lfP lfP_ok nA (r := none) (by decide +kernel)) List.nodup_nil) ?_
  refine aops_e (w0 rfl) rfl (eff_move rfl rfl) ?_
  refine aops_e (w0 rfl) rfl (eff_extract rfl rfl rfl) ?_
  refine aops_e (w0 rfl) rfl (eff_extract rfl rfl rfl) ?_
  refine aops_n (w0 rfl) rfl (fun id => eff_alloc id rfl rfl rfl) (fun id8 => ?_)
  refine aops_store 0 (w0 rfl) rfl rfl rfl rfl rfl rfl rfl rfl rfl ?_
  refine aops_e (w0 rfl) rfl (eff_assign rfl rfl) ?_
  refine aops_nil ?_
  refine awp_seq ?_
  refine awp_region ?_
  refine aops_load_ptr 5 (w0 rfl) rfl rfl rfl rfl rfl (ld_agg (Nat.le_of_ble_eq_true rfl)) ?_
  refine aops_load_ptr 4 (w0 rfl) rfl rfl rfl rfl rfl (ld_agg (Nat.le_of_ble_eq_true rfl)) ?_
  refine aops_e (w0 rfl) rfl (eff_call [] rfl rfl rfl (c_getO lfP lfP_ok ⟨nA, nm1, nVd⟩ (r := some lfM) (by decide +kernel)) List.nodup_nil) ?_
  refine aops_e (w0 rfl) rfl (eff_move rfl rfl) ?_
  refine aops_e (w0 rfl) rfl (eff_extract rfl rfl rfl) ?_
  refine aops_e (w0 rfl) rfl (eff_extract rfl rfl rfl) ?_
  refine aops_n (w0 rfl) rfl (fun id => eff_alloc id rfl rfl rfl) (fun id9 => ?_)
  refine aops_store 0 (w0 rfl) rfl rfl rfl rfl rfl rfl rfl rfl rfl ?_
  refine aops_e (w0 rfl) rfl (eff_assign rfl rfl) ?_
  refine aops_nil ?_
  refine awp_seq ?_
  refine awp_region ?_
  refine aops_load_ptr 6 (w0 rfl) rfl rfl rfl rfl rfl (ld_agg (Nat.le_of_ble_eq_true rfl)) ?_
  refine aops_load_ptr 3 (w0 rfl) rfl rfl rfl rfl rfl (ld_agg (Nat.le_of_ble_eq_true rfl)) ?_
  refine aops_e (w0 rfl) rfl (eff_call [] rfl rfl rfl (c_fieldOfO lfP lfP_ok ⟨nA, nf1⟩ (r := some lfF) (by decide +kernel)) List.nodup_nil) ?_
  refine aops_e (w0 rfl) rfl (eff_move rfl rfl) ?_
  refine aops_e (w0 rfl) rfl (eff_extract rfl rfl rfl) ?_
  refine aops_e (w0 rfl) rfl (eff_extract rfl rfl rfl) ?_
  refine aops_n (w0 rfl) rfl (fun id => eff_alloc id rfl rfl rfl) (fun id10 => ?_)
  refine aops_store 0 (w0 rfl) rfl rfl rfl rfl rfl rfl rfl rfl rfl ?_
  refine aops_e (w0 rfl) rfl (eff_assign rfl rfl) ?_
  refine aops_nil ?_
  refine awp_seq ?_
  refine awp_region ?_
  refine aops_e (w0 rfl) rfl (eff_move rfl rfl) ?_
  refine aops_e (w0 rfl) rfl (eff_move rfl rfl) ?_
  refine aops_e (wT (d := true) rfl rfl rfl rfl) rfl (eff_fieldAddr rfl rfl rfl) ?_
  refine aops_load_ptr 6 (wT (d := true) rfl rfl rfl rfl) rfl rfl rfl rfl rfl ld_one ?_
  refine aops_e (wT (d := true) rfl rfl rfl rfl) rfl (eff_to (y := bA true) (eff_scmp rfl rfl rfl rfl) (congrArg bA (by decide +kernel))) ?_
  refine aops_e (w0 rfl) rfl (eff_to (y := bA true) (eff_pick (t := true) rfl rfl rfl rfl) rfl) ?_
  refine aops_e (w0 rfl) rfl (eff_move rfl rfl) ?_
  refine aops_e (wT (d := true) rfl rfl rfl rfl) rfl (eff_move rfl rfl) ?_
  refine aops_e (w0 rfl) rfl (eff_to (y := bA true) (eff_pick (t := true) rfl rfl rfl rfl) rfl) ?_
  refine aops_e (w0 rfl) rfl (eff_move rfl rfl) ?_
  refine aops_e (wT (d := true) rfl rfl rfl rfl) rfl (eff_fieldAddr rfl rfl rfl) ?_
  refine aops_load_ptr 5 (wT (d := true) rfl rfl rfl rfl) rfl rfl rfl rfl rfl ld_one ?_
  refine aops_e (wT (d := true) rfl rfl rfl rfl) rfl (eff_to (y := bA true) (eff_scmp rfl rfl rfl rfl) (congrArg bA (by decide +kernel))) ?_
  refine aops_e (w0 rfl) rfl (eff_to (y := bA true) (eff_pick (t := true) rfl rfl rfl rfl) rfl) ?_
  refine aops_e (w0 rfl) rfl (eff_move rfl rfl) ?_
  refine aops_e (wT (d := true) rfl rfl rfl rfl) rfl (eff_move rfl rfl) ?_
  refine aops_e (w0 rfl) rfl (eff_to (y := bA true) (eff_pick (t := true) rfl rfl rfl rfl) rfl) ?_
  refine aops_e (w0 rfl) rfl (eff_move rfl rfl) ?_
  refine aops_load_ptr 4 (wT (d := true) rfl rfl rfl rfl) rfl rfl rfl rfl rfl (ld_agg (Nat.le_of_ble_eq_true rfl)) ?_
  refine aops_e (wT (d := true) rfl rfl rfl rfl) rfl (eff_build rfl rfl rfl) ?_
  refine aops_e (wT (d := true) rfl rfl rfl rfl) rfl (eff_to (y := bA true) (eff_eql rfl rfl rfl rfl rfl) (congrArg bA (by decide +kernel))) ?_
  refine aops_e (w0 rfl) rfl (eff_to (y := bA true) (eff_pick (t := true) rfl rfl rfl rfl) rfl) ?_
  refine aops_e (w0 rfl) rfl (eff_move rfl rfl) ?_
  refine aops_e (wT (d := true) rfl rfl rfl rfl) rfl (eff_move rfl rfl) ?_
  refine aops_e (w0 rfl) rfl (eff_to (y := bA true) (eff_pick (t := true) rfl rfl rfl rfl) rfl) ?_
  refine aops_e (w0 rfl) rfl (eff_move rfl rfl) ?_
  refine aops_load_ptr 3 (wT (d := true) rfl rfl rfl rfl) rfl rfl rfl rfl rfl (ld_agg (Nat.le_of_ble_eq_true rfl)) ?_
  refine aops_load_ptr 6 (wT (d := true) rfl rfl rfl rfl) rfl rfl rfl rfl rfl (ld_agg (Nat.le_of_ble_eq_true rfl)) ?_
  refine aops_e (wT (d := true) rfl rfl rfl rfl) rfl (eff_to (y := bA true) (eff_eql rfl rfl rfl rfl rfl) (congrArg bA (by decide +kernel))) ?_
  refine aops_e (w0 rfl) rfl (eff_to (y := bA true) (eff_pick (t := true) rfl rfl rfl rfl) rfl) ?_
  refine aops_e (w0 rfl) rfl (eff_move rfl rfl) ?_
  refine aops_e (wT (d := true) rfl rfl rfl rfl) rfl (eff_move rfl rfl) ?_
  refine aops_e (wT (d := true) rfl rfl rfl rfl) rfl (eff_to (y := bA true) (eff_not rfl rfl) (congrArg bA (by decide +kernel))) ?_
  refine aops_e (w0 rfl) rfl (eff_to (y := bA true) (eff_pick (t := true) rfl rfl rfl rfl) rfl) ?_
  refine aops_e (w0 rfl) rfl (eff_move rfl rfl) ?_
  refine aops_e (wT (d := true) rfl rfl rfl rfl) rfl (eff_move rfl rfl) ?_
  refine aops_e (w0 rfl) rfl (eff_to (y := bA true) (eff_pick (t := true) rfl rfl rfl rfl) rfl) ?_
  refine aops_e (w0 rfl) rfl (eff_move rfl rfl) ?_
  refine aops_e (wT (d := true) rfl rfl rfl rfl) rfl (eff_fieldAddr rfl rfl rfl) ?_
  refine aops_load_ptr 1 (wT (d := true) rfl rfl rfl rfl) rfl rfl rfl rfl rfl ld_one ?_
  refine aops_e (wT (d := true) rfl rfl rfl rfl) rfl (eff_to (y := bA true) (eff_scmp rfl rfl rfl rfl) (congrArg bA (by decide +kernel))) ?_
  refine aops_e (w0 rfl) rfl (eff_to (y := bA true) (eff_pick (t := true) rfl rfl rfl rfl) rfl) ?_
  refine aops_e (w0 rfl) rfl (eff_move rfl rfl) ?_
  refine aops_e (wT (d := true) rfl rfl rfl rfl) rfl (eff_move rfl rfl) ?_
  refine aops_e (w0 rfl) rfl (eff_to (y := bA true) (eff_pick (t := true) rfl rfl rfl rfl) rfl) ?_
  refine aops_e (w0 rfl) rfl (eff_move rfl rfl) ?_
  refine aops_e (wT (d := true) rfl rfl rfl rfl) rfl (eff_fieldAddr rfl rfl rfl) ?_
  refine aops_e (wT (d := true) rfl rfl rfl rfl) rfl (eff_fieldAddr rfl rfl rfl) ?_
  refine aops_load_ptr 0 (wT (d := true) rfl rfl rfl rfl) rfl rfl rfl rfl rfl ld_one ?_
  refine aops_e (wT (d := true) rfl rfl rfl rfl) rfl (eff_to (y := bA true) (eff_icmp rfl rfl rfl rfl) (congrArg bA (by decide +kernel))) ?_
  refine aops_e (w0 rfl) rfl (eff_to (y := bA true) (eff_pick (t := true) rfl rfl rfl rfl) rfl) ?_
  refine aops_e (w0 rfl) rfl (eff_assign rfl rfl) ?_
  refine aops_nil ?_
  refine awp_ret ?_
  exact retq rfl (res_tmp rfl res_nil) (gb rfl)

end Go.Sx
