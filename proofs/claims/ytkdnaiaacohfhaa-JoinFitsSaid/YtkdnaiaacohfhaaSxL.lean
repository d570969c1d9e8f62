/- The other laws of layer 15, walked. -/
import Derived.Test.YtkdnaiaacohfhaaSxS
import Derived.Test.YtkdnaiaacohfhaaSxForest
set_option linter.unusedVariables false
set_option linter.unusedSimpArgs false
namespace Go.Sx
open Go Go.Proofs

theorem gen_of' {α : Type} {G : Prop} (x : α) (h : ∀ y, y = x → G) : G := h x rfl
theorem c_joinS (p : Prog) (hb : p.classes.length ≤ 1000) (a b : Fact) : ACalls Try.prog 15 [p.av, a.av, b.av] [] (Gives (Fact.av (joinBy (com p) a b))) := c_join p a b _ (c_common p hb _ _)
theorem c_belowS (p : Prog) (hb : p.classes.length ≤ 1000) (a b : Fact) : ACalls Try.prog 16 [p.av, a.av, b.av] [] (Gives (bA (eqF (joinBy (com p) a b) b))) := c_below p a b _ (c_joinS p hb a b)
theorem c_fitsS (p : Prog) (hb : p.classes.length ≤ 1000) (hif : ∀ c, c ∈ p.classes → c.ifaces.length ≤ 1000) (f : Fact) (t : Ty) : ACalls Try.prog 17 [p.av, f.av, t.av] [] (Gives (bA (fitsBy (subP p f.cls t.cls) f t))) := c_fits p f t _ (c_sub p hb hif _ _)
abbrev u8 (k : Int) : Prop := 0 ≤ k ∧ k ≤ 255

theorem c_joinSides (p : Prog) (hp : p.ok) (a b : Fact) (k l : Int) (hk : u8 k) (hl : u8 l) : ACalls Try.prog 4 [p.av, .agg (a.cells ++ b.cells), .agg [uA k, uA l]] [] (Gives (bA true)) := by
  refine acalls_of (n := 49) Try.func4 rfl (by decide +kernel) rfl rfl ?_
  refine awp_seq ?_
  refine awp_region ?_
  refine aops_n (w0 rfl) rfl (fun id => eff_box id rfl rfl rfl rfl rfl) (fun id1 => ?_)
  refine aops_n (w0 rfl) rfl (fun id => eff_box id rfl rfl rfl rfl rfl) (fun id2 => ?_)
  refine aops_n (w0 rfl) rfl (fun id => eff_box id rfl rfl rfl rfl rfl) (fun id3 => ?_)
  refine aops_e (w0 rfl) rfl (eff_assign rfl rfl) ?_
  refine aops_nil ?_
  refine awp_seq ?_
  refine awp_seq ?_
  refine awp_region ?_
  refine aops_load_ptr 2 (w0 rfl) rfl rfl rfl rfl rfl (ld_agg (Nat.le_of_ble_eq_true rfl)) ?_
  refine aops_e (w0 rfl) rfl (eff_call [] rfl rfl rfl (c_great p hp) List.nodup_nil) ?_
  refine aops_e (w0 rfl) rfl (eff_move rfl rfl) ?_
  refine aops_gload 2 (wF rfl rfl rfl rfl) rfl rfl (fun hg => rfl) rfl rfl (ld_agg (Nat.le_of_ble_eq_true rfl)) ?_
  refine aops_gcallS (wF rfl rfl rfl rfl) rfl rfl (fun hg => rfl) (fun hg => (evs_cons (ev_g hg rfl) evs_nil)) (fun hg => (c_sound p hp (greatP_len (by simpa using hg)) (greatP_if (by simpa using hg)))) (fun v4 hv4 => ?_)
  refine aops_g (wF rfl rfl rfl rfl) rfl (fun hg => (eff_not rfl (ev_g hg rfl))) ?_
  refine aops_e (w0 rfl) rfl (eff_or rfl rfl rfl (fun h => by rw [h]; rfl)) ?_
  refine aops_nil ?_
  refine awp_cond rfl ?_ ?_
  · intro hc
    refine awp_seq ?_
    refine awp_region ?_
    refine aops_e (w0 rfl) rfl (eff_call [] rfl rfl rfl c_live15 List.nodup_nil) ?_
    refine aops_e (w0 rfl) rfl (eff_assign rfl rfl) ?_
    refine aops_nil ?_
    refine awp_ret ?_
    exact retq rfl (res_tmp rfl res_nil) (gb rfl)
  · intro hc
    have hq : greatP p = false := by cases h : greatP p with | false => rfl | true => simp [h] at hc
    have hsd : SoundP p := hv4 (by rw [hq]; rfl) (by rw [hq] at hc; simpa using hc)
    have hb := greatP_len hq
    have hif := greatP_if hq
    refine awp_skip ?_
    refine awp_seq ?_
    refine awp_drawM [0, 0, 2, 0, 8, 31, 0, 0, 128, 0, 512, 2047, 0, 0, 16383, 32767] 14 rfl (by kernel_rfl) ?_
    refine calm_load_ptr 2 (w0 rfl) rfl rfl rfl rfl rfl (ld_agg (Nat.le_of_ble_eq_true rfl)) ?_
    refine calm_e (w0 rfl) rfl (eff_indexAddr_arr rfl rfl rfl (by first | omega | (simp only [List.length_map]; omega)) (by first | omega | (simp only [List.length_map]; omega)) rfl) ?_
    refine calm_load_ptr 1 (w0 rfl) rfl rfl rfl rfl rfl (ld_agg (Nat.le_of_ble_eq_true rfl)) ?_
    refine calm_e (w0 rfl) rfl (eff_indexAddr_arr rfl rfl rfl (by first | omega | (simp only [List.length_map]; omega)) (by first | omega | (simp only [List.length_map]; omega)) rfl) ?_
    refine calm_load_ptr 0 (w0 rfl) rfl rfl rfl rfl rfl ld_one ?_
    refine calm_e (w0 rfl) rfl (eff_call [] rfl rfl rfl (c_near p hb a k hk.1 hk.2) List.nodup_nil) ?_
    refine calm_load_ptr 2 (w0 rfl) rfl rfl rfl rfl rfl (ld_agg (Nat.le_of_ble_eq_true rfl)) ?_
    refine calm_e (w0 rfl) rfl (eff_indexAddr_arr rfl rfl rfl (by first | omega | (simp only [List.length_map]; omega)) (by first | omega | (simp only [List.length_map]; omega)) rfl) ?_
    refine calm_load_ptr 1 (w0 rfl) rfl rfl rfl rfl rfl (ld_agg (Nat.le_of_ble_eq_true rfl)) ?_
    refine calm_e (w0 rfl) rfl (eff_indexAddr_arr rfl rfl rfl (by first | omega | (simp only [List.length_map]; omega)) (by first | omega | (simp only [List.length_map]; omega)) rfl) ?_
    refine calm_load_ptr 0 (w0 rfl) rfl rfl rfl rfl rfl ld_one ?_
    refine calm_e (w0 rfl) rfl (eff_call [] rfl rfl rfl (c_near p hb b l hl.1 hl.2) List.nodup_nil) ?_
    refine calm_n (w0 rfl) rfl (fun id => eff_alloc id rfl rfl rfl) (fun id5 => ?_)
    refine calm_n (w0 rfl) rfl (fun id => eff_alloc id rfl rfl rfl) (fun id6 => ?_)
    refine .done ?_
    refine aops_store 1 (w0 rfl) rfl rfl rfl rfl rfl rfl rfl rfl rfl ?_
    refine aops_store 0 (w0 rfl) rfl rfl rfl rfl rfl rfl rfl rfl rfl ?_
    refine aops_nil ?_
    refine awp_seq ?_
    refine awp_drawM [0, 1, 3, 3, 3, 31, 3, 3, 3, 511, 1023, 2047, 4095, 8191, 8191, 8191, 65535, 8191, 262143, 524287, 1048575] 21 rfl (by kernel_rfl) ?_
    refine calm_e (w0 rfl) rfl (eff_call [] rfl rfl rfl c_live15 List.nodup_nil) ?_
    refine calm_e (w0 rfl) rfl (eff_move rfl rfl) ?_
    refine calm_gload 4 (wT rfl rfl rfl rfl) rfl rfl (fun hg => rfl) rfl rfl (ld_agg (Nat.le_of_ble_eq_true rfl)) ?_
    refine calm_gload 1 (wT rfl rfl rfl rfl) rfl rfl (fun hg => rfl) rfl rfl (ld_agg (Nat.le_of_ble_eq_true rfl)) ?_
    refine calm_gload 0 (wT rfl rfl rfl rfl) rfl rfl (fun hg => rfl) rfl rfl (ld_agg (Nat.le_of_ble_eq_true rfl)) ?_
    refine calm_g (wT rfl rfl rfl rfl) rfl (fun hg => (eff_call [] rfl rfl (evs_cons (ev_g hg rfl) (evs_cons (ev_g hg rfl) (evs_cons (ev_g hg rfl) evs_nil))) (c_joinS p hb (nearF p a k) (nearF p b l)) List.nodup_nil)) ?_
    refine calm_gload 4 (wT rfl rfl rfl rfl) rfl rfl (fun hg => rfl) rfl rfl (ld_agg (Nat.le_of_ble_eq_true rfl)) ?_
    refine calm_gload 0 (wT rfl rfl rfl rfl) rfl rfl (fun hg => rfl) rfl rfl (ld_agg (Nat.le_of_ble_eq_true rfl)) ?_
    refine calm_gload 1 (wT rfl rfl rfl rfl) rfl rfl (fun hg => rfl) rfl rfl (ld_agg (Nat.le_of_ble_eq_true rfl)) ?_
    refine calm_g (wT rfl rfl rfl rfl) rfl (fun hg => (eff_call [] rfl rfl (evs_cons (ev_g hg rfl) (evs_cons (ev_g hg rfl) (evs_cons (ev_g hg rfl) evs_nil))) (c_joinS p hb (nearF p b l) (nearF p a k)) List.nodup_nil)) ?_
    refine calm_g (wT rfl rfl rfl rfl) rfl (fun hg => (eff_to (y := bA (eqF (joinBy (com p) (nearF p a k) (nearF p b l)) (joinBy (com p) (nearF p b l) (nearF p a k)))) (eff_eql rfl (ev_g hg rfl) (ev_g hg rfl) rfl rfl) (congrArg bA (ceqs_fact (joinBy (com p) (nearF p a k) (nearF p b l)) (joinBy (com p) (nearF p b l) (nearF p a k)))))) ?_
    refine calm_e (w0 rfl) rfl (eff_and rfl rfl rfl (fun h => h)) ?_
    refine calm_e (w0 rfl) rfl (eff_move rfl rfl) ?_
    refine calm_gload 4 (wT rfl rfl rfl rfl) rfl rfl (fun hg => rfl) rfl rfl (ld_agg (Nat.le_of_ble_eq_true rfl)) ?_
    refine calm_gload 1 (wT rfl rfl rfl rfl) rfl rfl (fun hg => rfl) rfl rfl (ld_agg (Nat.le_of_ble_eq_true rfl)) ?_
    refine calm_gload 1 (wT rfl rfl rfl rfl) rfl rfl (fun hg => rfl) rfl rfl (ld_agg (Nat.le_of_ble_eq_true rfl)) ?_
    refine calm_g (wT rfl rfl rfl rfl) rfl (fun hg => (eff_call [] rfl rfl (evs_cons (ev_g hg rfl) (evs_cons (ev_g hg rfl) (evs_cons (ev_g hg rfl) evs_nil))) (c_joinS p hb (nearF p a k) (nearF p a k)) List.nodup_nil)) ?_
    refine calm_gload 1 (wT rfl rfl rfl rfl) rfl rfl (fun hg => rfl) rfl rfl (ld_agg (Nat.le_of_ble_eq_true rfl)) ?_
    refine calm_g (wT rfl rfl rfl rfl) rfl (fun hg => (eff_to (y := bA (eqF (joinBy (com p) (nearF p a k) (nearF p a k)) (nearF p a k))) (eff_eql rfl (ev_g hg rfl) (ev_g hg rfl) rfl rfl) (congrArg bA (ceqs_fact (joinBy (com p) (nearF p a k) (nearF p a k)) (nearF p a k))))) ?_
    refine calm_e (w0 rfl) rfl (eff_and rfl rfl rfl (fun h => h)) ?_
    refine calm_e (w0 rfl) rfl (eff_assign rfl rfl) ?_
    refine .done ?_
    refine aops_nil ?_
    refine awp_ret ?_
    exact retq rfl (res_tmp rfl res_nil) (gb (law_sides hsd (near_ok ..) (near_ok ..)))

theorem c_joinOrder (p : Prog) (hp : p.ok) (a b c : Fact) (k l m : Int) (hk : u8 k) (hl : u8 l) (hm : u8 m) : ACalls Try.prog 5 [p.av, .agg (a.cells ++ (b.cells ++ c.cells)), .agg [uA k, uA l, uA m]] [] (Gives (bA true)) := by
  refine acalls_of (n := 54) Try.func5 rfl (by decide +kernel) rfl rfl ?_
  refine awp_seq ?_
  refine awp_region ?_
  refine aops_n (w0 rfl) rfl (fun id => eff_box id rfl rfl rfl rfl rfl) (fun id1 => ?_)
  refine aops_n (w0 rfl) rfl (fun id => eff_box id rfl rfl rfl rfl rfl) (fun id2 => ?_)
  refine aops_n (w0 rfl) rfl (fun id => eff_box id rfl rfl rfl rfl rfl) (fun id3 => ?_)
  refine aops_e (w0 rfl) rfl (eff_assign rfl rfl) ?_
  refine aops_nil ?_
  refine awp_seq ?_
  refine awp_seq ?_
  refine awp_region ?_
  refine aops_load_ptr 2 (w0 rfl) rfl rfl rfl rfl rfl (ld_agg (Nat.le_of_ble_eq_true rfl)) ?_
  refine aops_e (w0 rfl) rfl (eff_call [] rfl rfl rfl (c_great p hp) List.nodup_nil) ?_
  refine aops_e (w0 rfl) rfl (eff_move rfl rfl) ?_
  refine aops_gload 2 (wF rfl rfl rfl rfl) rfl rfl (fun hg => rfl) rfl rfl (ld_agg (Nat.le_of_ble_eq_true rfl)) ?_
  refine aops_gcallS (wF rfl rfl rfl rfl) rfl rfl (fun hg => rfl) (fun hg => (evs_cons (ev_g hg rfl) evs_nil)) (fun hg => (c_sound p hp (greatP_len (by simpa using hg)) (greatP_if (by simpa using hg)))) (fun v4 hv4 => ?_)
  refine aops_g (wF rfl rfl rfl rfl) rfl (fun hg => (eff_not rfl (ev_g hg rfl))) ?_
  refine aops_e (w0 rfl) rfl (eff_or rfl rfl rfl (fun h => by rw [h]; rfl)) ?_
  refine aops_nil ?_
  refine awp_cond rfl ?_ ?_
  · intro hc
    refine awp_seq ?_
    refine awp_region ?_
    refine aops_e (w0 rfl) rfl (eff_call [] rfl rfl rfl c_live15 List.nodup_nil) ?_
    refine aops_e (w0 rfl) rfl (eff_assign rfl rfl) ?_
    refine aops_nil ?_
    refine awp_ret ?_
    exact retq rfl (res_tmp rfl res_nil) (gb rfl)
  · intro hc
    have hq : greatP p = false := by cases h : greatP p with | false => rfl | true => simp [h] at hc
    have hsd : SoundP p := hv4 (by rw [hq]; rfl) (by rw [hq] at hc; simpa using hc)
    have hb := greatP_len hq
    have hif := greatP_if hq
    refine awp_skip ?_
    refine awp_seq ?_
    refine awp_drawM [0, 0, 2, 0, 8, 31, 0, 0, 128, 0, 512, 2047, 0, 0, 8192, 0, 32768, 131071, 0, 0, 0, 2097151, 4194303, 8388607] 21 rfl (by kernel_rfl) ?_
    refine calm_load_ptr 2 (w0 rfl) rfl rfl rfl rfl rfl (ld_agg (Nat.le_of_ble_eq_true rfl)) ?_
    refine calm_e (w0 rfl) rfl (eff_indexAddr_arr rfl rfl rfl (by first | omega | (simp only [List.length_map]; omega)) (by first | omega | (simp only [List.length_map]; omega)) rfl) ?_
    refine calm_load_ptr 1 (w0 rfl) rfl rfl rfl rfl rfl (ld_agg (Nat.le_of_ble_eq_true rfl)) ?_
    refine calm_e (w0 rfl) rfl (eff_indexAddr_arr rfl rfl rfl (by first | omega | (simp only [List.length_map]; omega)) (by first | omega | (simp only [List.length_map]; omega)) rfl) ?_
    refine calm_load_ptr 0 (w0 rfl) rfl rfl rfl rfl rfl ld_one ?_
    refine calm_e (w0 rfl) rfl (eff_call [] rfl rfl rfl (c_near p hb a k hk.1 hk.2) List.nodup_nil) ?_
    refine calm_load_ptr 2 (w0 rfl) rfl rfl rfl rfl rfl (ld_agg (Nat.le_of_ble_eq_true rfl)) ?_
    refine calm_e (w0 rfl) rfl (eff_indexAddr_arr rfl rfl rfl (by first | omega | (simp only [List.length_map]; omega)) (by first | omega | (simp only [List.length_map]; omega)) rfl) ?_
    refine calm_load_ptr 1 (w0 rfl) rfl rfl rfl rfl rfl (ld_agg (Nat.le_of_ble_eq_true rfl)) ?_
    refine calm_e (w0 rfl) rfl (eff_indexAddr_arr rfl rfl rfl (by first | omega | (simp only [List.length_map]; omega)) (by first | omega | (simp only [List.length_map]; omega)) rfl) ?_
    refine calm_load_ptr 0 (w0 rfl) rfl rfl rfl rfl rfl ld_one ?_
    refine calm_e (w0 rfl) rfl (eff_call [] rfl rfl rfl (c_near p hb b l hl.1 hl.2) List.nodup_nil) ?_
    refine calm_load_ptr 2 (w0 rfl) rfl rfl rfl rfl rfl (ld_agg (Nat.le_of_ble_eq_true rfl)) ?_
    refine calm_e (w0 rfl) rfl (eff_indexAddr_arr rfl rfl rfl (by first | omega | (simp only [List.length_map]; omega)) (by first | omega | (simp only [List.length_map]; omega)) rfl) ?_
    refine calm_load_ptr 1 (w0 rfl) rfl rfl rfl rfl rfl (ld_agg (Nat.le_of_ble_eq_true rfl)) ?_
    refine calm_e (w0 rfl) rfl (eff_indexAddr_arr rfl rfl rfl (by first | omega | (simp only [List.length_map]; omega)) (by first | omega | (simp only [List.length_map]; omega)) rfl) ?_
    refine calm_load_ptr 0 (w0 rfl) rfl rfl rfl rfl rfl ld_one ?_
    refine calm_e (w0 rfl) rfl (eff_call [] rfl rfl rfl (c_near p hb c m hm.1 hm.2) List.nodup_nil) ?_
    refine calm_n (w0 rfl) rfl (fun id => eff_alloc id rfl rfl rfl) (fun id5 => ?_)
    refine calm_n (w0 rfl) rfl (fun id => eff_alloc id rfl rfl rfl) (fun id6 => ?_)
    refine calm_n (w0 rfl) rfl (fun id => eff_alloc id rfl rfl rfl) (fun id7 => ?_)
    refine .done ?_
    refine aops_store 2 (w0 rfl) rfl rfl rfl rfl rfl rfl rfl rfl rfl ?_
    refine aops_store 1 (w0 rfl) rfl rfl rfl rfl rfl rfl rfl rfl rfl ?_
    refine aops_store 0 (w0 rfl) rfl rfl rfl rfl rfl rfl rfl rfl rfl ?_
    refine aops_nil ?_
    refine awp_seq ?_
    refine awp_drawM [0, 1, 3, 3, 3, 3, 59, 3, 255, 3, 3, 3, 3, 3, 14847, 32767, 65535, 131071, 262143] 19 rfl (by kernel_rfl) ?_
    refine calm_e (w0 rfl) rfl (eff_call [] rfl rfl rfl c_live15 List.nodup_nil) ?_
    refine calm_e (w0 rfl) rfl (eff_move rfl rfl) ?_
    refine calm_gload 5 (wT rfl rfl rfl rfl) rfl rfl (fun hg => rfl) rfl rfl (ld_agg (Nat.le_of_ble_eq_true rfl)) ?_
    refine calm_gload 5 (wT rfl rfl rfl rfl) rfl rfl (fun hg => rfl) rfl rfl (ld_agg (Nat.le_of_ble_eq_true rfl)) ?_
    refine calm_gload 2 (wT rfl rfl rfl rfl) rfl rfl (fun hg => rfl) rfl rfl (ld_agg (Nat.le_of_ble_eq_true rfl)) ?_
    refine calm_gload 1 (wT rfl rfl rfl rfl) rfl rfl (fun hg => rfl) rfl rfl (ld_agg (Nat.le_of_ble_eq_true rfl)) ?_
    refine calm_g (wT rfl rfl rfl rfl) rfl (fun hg => (eff_call [] rfl rfl (evs_cons (ev_g hg rfl) (evs_cons (ev_g hg rfl) (evs_cons (ev_g hg rfl) evs_nil))) (c_joinS p hb (nearF p a k) (nearF p b l)) List.nodup_nil)) ?_
    refine calm_gload 0 (wT rfl rfl rfl rfl) rfl rfl (fun hg => rfl) rfl rfl (ld_agg (Nat.le_of_ble_eq_true rfl)) ?_
    refine calm_g (wT rfl rfl rfl rfl) rfl (fun hg => (eff_call [] rfl rfl (evs_cons (ev_g hg rfl) (evs_cons (ev_g hg rfl) (evs_cons (ev_g hg rfl) evs_nil))) (c_joinS p hb (joinBy (com p) (nearF p a k) (nearF p b l)) (nearF p c m)) List.nodup_nil)) ?_
    refine calm_gload 5 (wT rfl rfl rfl rfl) rfl rfl (fun hg => rfl) rfl rfl (ld_agg (Nat.le_of_ble_eq_true rfl)) ?_
    refine calm_gload 2 (wT rfl rfl rfl rfl) rfl rfl (fun hg => rfl) rfl rfl (ld_agg (Nat.le_of_ble_eq_true rfl)) ?_
    refine calm_gload 5 (wT rfl rfl rfl rfl) rfl rfl (fun hg => rfl) rfl rfl (ld_agg (Nat.le_of_ble_eq_true rfl)) ?_
    refine calm_gload 1 (wT rfl rfl rfl rfl) rfl rfl (fun hg => rfl) rfl rfl (ld_agg (Nat.le_of_ble_eq_true rfl)) ?_
    refine calm_gload 0 (wT rfl rfl rfl rfl) rfl rfl (fun hg => rfl) rfl rfl (ld_agg (Nat.le_of_ble_eq_true rfl)) ?_
    refine calm_g (wT rfl rfl rfl rfl) rfl (fun hg => (eff_call [] rfl rfl (evs_cons (ev_g hg rfl) (evs_cons (ev_g hg rfl) (evs_cons (ev_g hg rfl) evs_nil))) (c_joinS p hb (nearF p b l) (nearF p c m)) List.nodup_nil)) ?_
    refine calm_g (wT rfl rfl rfl rfl) rfl (fun hg => (eff_call [] rfl rfl (evs_cons (ev_g hg rfl) (evs_cons (ev_g hg rfl) (evs_cons (ev_g hg rfl) evs_nil))) (c_joinS p hb (nearF p a k) (joinBy (com p) (nearF p b l) (nearF p c m))) List.nodup_nil)) ?_
    refine calm_g (wT rfl rfl rfl rfl) rfl (fun hg => (eff_to (y := bA (eqF (joinBy (com p) (joinBy (com p) (nearF p a k) (nearF p b l)) (nearF p c m)) (joinBy (com p) (nearF p a k) (joinBy (com p) (nearF p b l) (nearF p c m))))) (eff_eql rfl (ev_g hg rfl) (ev_g hg rfl) rfl rfl) (congrArg bA (ceqs_fact (joinBy (com p) (joinBy (com p) (nearF p a k) (nearF p b l)) (nearF p c m)) (joinBy (com p) (nearF p a k) (joinBy (com p) (nearF p b l) (nearF p c m))))))) ?_
    refine calm_e (w0 rfl) rfl (eff_and rfl rfl rfl (fun h => h)) ?_
    refine calm_e (w0 rfl) rfl (eff_assign rfl rfl) ?_
    refine .done ?_
    refine aops_nil ?_
    refine awp_ret ?_
    exact retq rfl (res_tmp rfl res_nil) (gb (law_order hsd (near_ok ..) (near_ok ..) (near_ok ..)))

theorem c_joinLeast (p : Prog) (hp : p.ok) (a b c : Fact) (k l m : Int) (hk : u8 k) (hl : u8 l) (hm : u8 m) : ACalls Try.prog 6 [p.av, .agg (a.cells ++ (b.cells ++ c.cells)), .agg [uA k, uA l, uA m]] [] (Gives (bA true)) := by
  refine acalls_of (n := 74) Try.func6 rfl (by decide +kernel) rfl rfl ?_
  refine awp_seq ?_
  refine awp_region ?_
  refine aops_n (w0 rfl) rfl (fun id => eff_box id rfl rfl rfl rfl rfl) (fun id1 => ?_)
  refine aops_n (w0 rfl) rfl (fun id => eff_box id rfl rfl rfl rfl rfl) (fun id2 => ?_)
  refine aops_n (w0 rfl) rfl (fun id => eff_box id rfl rfl rfl rfl rfl) (fun id3 => ?_)
  refine aops_e (w0 rfl) rfl (eff_assign rfl rfl) ?_
  refine aops_nil ?_
  refine awp_seq ?_
  refine awp_seq ?_
  refine awp_region ?_
  refine aops_load_ptr 2 (w0 rfl) rfl rfl rfl rfl rfl (ld_agg (Nat.le_of_ble_eq_true rfl)) ?_
  refine aops_e (w0 rfl) rfl (eff_call [] rfl rfl rfl (c_great p hp) List.nodup_nil) ?_
  refine aops_e (w0 rfl) rfl (eff_move rfl rfl) ?_
  refine aops_gload 2 (wF rfl rfl rfl rfl) rfl rfl (fun hg => rfl) rfl rfl (ld_agg (Nat.le_of_ble_eq_true rfl)) ?_
  refine aops_gcallS (wF rfl rfl rfl rfl) rfl rfl (fun hg => rfl) (fun hg => (evs_cons (ev_g hg rfl) evs_nil)) (fun hg => (c_sound p hp (greatP_len (by simpa using hg)) (greatP_if (by simpa using hg)))) (fun v4 hv4 => ?_)
  refine aops_g (wF rfl rfl rfl rfl) rfl (fun hg => (eff_not rfl (ev_g hg rfl))) ?_
  refine aops_e (w0 rfl) rfl (eff_or rfl rfl rfl (fun h => by rw [h]; rfl)) ?_
  refine aops_nil ?_
  refine awp_cond rfl ?_ ?_
  · intro hc
    refine awp_seq ?_
    refine awp_region ?_
    refine aops_e (w0 rfl) rfl (eff_call [] rfl rfl rfl c_live15 List.nodup_nil) ?_
    refine aops_e (w0 rfl) rfl (eff_assign rfl rfl) ?_
    refine aops_nil ?_
    refine awp_ret ?_
    exact retq rfl (res_tmp rfl res_nil) (gb rfl)
  · intro hc
    have hq : greatP p = false := by cases h : greatP p with | false => rfl | true => simp [h] at hc
    have hsd : SoundP p := hv4 (by rw [hq]; rfl) (by rw [hq] at hc; simpa using hc)
    have hb := greatP_len hq
    have hif := greatP_if hq
    refine awp_skip ?_
    refine awp_seq ?_
    refine awp_drawM [0, 0, 2, 0, 8, 31, 0, 0, 128, 0, 512, 2047, 0, 0, 8192, 0, 32768, 131071, 0, 0, 0, 2097151, 4194303, 8388607] 21 rfl (by kernel_rfl) ?_
    refine calm_load_ptr 2 (w0 rfl) rfl rfl rfl rfl rfl (ld_agg (Nat.le_of_ble_eq_true rfl)) ?_
    refine calm_e (w0 rfl) rfl (eff_indexAddr_arr rfl rfl rfl (by first | omega | (simp only [List.length_map]; omega)) (by first | omega | (simp only [List.length_map]; omega)) rfl) ?_
    refine calm_load_ptr 1 (w0 rfl) rfl rfl rfl rfl rfl (ld_agg (Nat.le_of_ble_eq_true rfl)) ?_
    refine calm_e (w0 rfl) rfl (eff_indexAddr_arr rfl rfl rfl (by first | omega | (simp only [List.length_map]; omega)) (by first | omega | (simp only [List.length_map]; omega)) rfl) ?_
    refine calm_load_ptr 0 (w0 rfl) rfl rfl rfl rfl rfl ld_one ?_
    refine calm_e (w0 rfl) rfl (eff_call [] rfl rfl rfl (c_near p hb a k hk.1 hk.2) List.nodup_nil) ?_
    refine calm_load_ptr 2 (w0 rfl) rfl rfl rfl rfl rfl (ld_agg (Nat.le_of_ble_eq_true rfl)) ?_
    refine calm_e (w0 rfl) rfl (eff_indexAddr_arr rfl rfl rfl (by first | omega | (simp only [List.length_map]; omega)) (by first | omega | (simp only [List.length_map]; omega)) rfl) ?_
    refine calm_load_ptr 1 (w0 rfl) rfl rfl rfl rfl rfl (ld_agg (Nat.le_of_ble_eq_true rfl)) ?_
    refine calm_e (w0 rfl) rfl (eff_indexAddr_arr rfl rfl rfl (by first | omega | (simp only [List.length_map]; omega)) (by first | omega | (simp only [List.length_map]; omega)) rfl) ?_
    refine calm_load_ptr 0 (w0 rfl) rfl rfl rfl rfl rfl ld_one ?_
    refine calm_e (w0 rfl) rfl (eff_call [] rfl rfl rfl (c_near p hb b l hl.1 hl.2) List.nodup_nil) ?_
    refine calm_load_ptr 2 (w0 rfl) rfl rfl rfl rfl rfl (ld_agg (Nat.le_of_ble_eq_true rfl)) ?_
    refine calm_e (w0 rfl) rfl (eff_indexAddr_arr rfl rfl rfl (by first | omega | (simp only [List.length_map]; omega)) (by first | omega | (simp only [List.length_map]; omega)) rfl) ?_
    refine calm_load_ptr 1 (w0 rfl) rfl rfl rfl rfl rfl (ld_agg (Nat.le_of_ble_eq_true rfl)) ?_
    refine calm_e (w0 rfl) rfl (eff_indexAddr_arr rfl rfl rfl (by first | omega | (simp only [List.length_map]; omega)) (by first | omega | (simp only [List.length_map]; omega)) rfl) ?_
    refine calm_load_ptr 0 (w0 rfl) rfl rfl rfl rfl rfl ld_one ?_
    refine calm_e (w0 rfl) rfl (eff_call [] rfl rfl rfl (c_near p hb c m hm.1 hm.2) List.nodup_nil) ?_
    refine calm_n (w0 rfl) rfl (fun id => eff_alloc id rfl rfl rfl) (fun id5 => ?_)
    refine calm_n (w0 rfl) rfl (fun id => eff_alloc id rfl rfl rfl) (fun id6 => ?_)
    refine calm_n (w0 rfl) rfl (fun id => eff_alloc id rfl rfl rfl) (fun id7 => ?_)
    refine .done ?_
    refine aops_store 2 (w0 rfl) rfl rfl rfl rfl rfl rfl rfl rfl rfl ?_
    refine aops_store 1 (w0 rfl) rfl rfl rfl rfl rfl rfl rfl rfl rfl ?_
    refine aops_store 0 (w0 rfl) rfl rfl rfl rfl rfl rfl rfl rfl rfl ?_
    refine aops_nil ?_
    refine awp_seq ?_
    refine awp_region ?_
    refine aops_load_ptr 5 (w0 rfl) rfl rfl rfl rfl rfl (ld_agg (Nat.le_of_ble_eq_true rfl)) ?_
    refine aops_load_ptr 2 (w0 rfl) rfl rfl rfl rfl rfl (ld_agg (Nat.le_of_ble_eq_true rfl)) ?_
    refine aops_load_ptr 1 (w0 rfl) rfl rfl rfl rfl rfl (ld_agg (Nat.le_of_ble_eq_true rfl)) ?_
    refine aops_e (w0 rfl) rfl (eff_call [] rfl rfl rfl (c_joinS p hb (nearF p a k) (nearF p b l)) List.nodup_nil) ?_
    refine aops_n (w0 rfl) rfl (fun id => eff_alloc id rfl rfl rfl) (fun id8 => ?_)
    refine aops_store 0 (w0 rfl) rfl rfl rfl rfl rfl rfl rfl rfl rfl ?_
    refine aops_nil ?_
    refine awp_seq ?_
    refine awp_region ?_
    refine aops_e (w0 rfl) rfl (eff_call [] rfl rfl rfl c_live15 List.nodup_nil) ?_
    refine aops_e (w0 rfl) rfl (eff_move rfl rfl) ?_
    refine aops_gload 6 (wT rfl rfl rfl rfl) rfl rfl (fun hg => rfl) rfl rfl (ld_agg (Nat.le_of_ble_eq_true rfl)) ?_
    refine aops_gload 3 (wT rfl rfl rfl rfl) rfl rfl (fun hg => rfl) rfl rfl (ld_agg (Nat.le_of_ble_eq_true rfl)) ?_
    refine aops_gload 0 (wT rfl rfl rfl rfl) rfl rfl (fun hg => rfl) rfl rfl (ld_agg (Nat.le_of_ble_eq_true rfl)) ?_
    refine aops_g (wT rfl rfl rfl rfl) rfl (fun hg => (eff_call [] rfl rfl (evs_cons (ev_g hg rfl) (evs_cons (ev_g hg rfl) (evs_cons (ev_g hg rfl) evs_nil))) (c_belowS p hb (nearF p a k) (joinBy (com p) (nearF p a k) (nearF p b l))) List.nodup_nil)) ?_
    refine aops_e (w0 rfl) rfl (eff_and rfl rfl rfl (fun h => h)) ?_
    refine aops_e (w0 rfl) rfl (eff_move rfl rfl) ?_
    refine aops_gload 6 (wT rfl rfl rfl rfl) rfl rfl (fun hg => rfl) rfl rfl (ld_agg (Nat.le_of_ble_eq_true rfl)) ?_
    refine aops_gload 2 (wT rfl rfl rfl rfl) rfl rfl (fun hg => rfl) rfl rfl (ld_agg (Nat.le_of_ble_eq_true rfl)) ?_
    refine aops_gload 0 (wT rfl rfl rfl rfl) rfl rfl (fun hg => rfl) rfl rfl (ld_agg (Nat.le_of_ble_eq_true rfl)) ?_
    refine aops_g (wT rfl rfl rfl rfl) rfl (fun hg => (eff_call [] rfl rfl (evs_cons (ev_g hg rfl) (evs_cons (ev_g hg rfl) (evs_cons (ev_g hg rfl) evs_nil))) (c_belowS p hb (nearF p b l) (joinBy (com p) (nearF p a k) (nearF p b l))) List.nodup_nil)) ?_
    refine aops_e (w0 rfl) rfl (eff_and rfl rfl rfl (fun h => h)) ?_
    refine aops_e (w0 rfl) rfl (eff_move rfl rfl) ?_
    refine aops_gload 6 (wT rfl rfl rfl rfl) rfl rfl (fun hg => rfl) rfl rfl (ld_agg (Nat.le_of_ble_eq_true rfl)) ?_
    refine aops_gload 3 (wT rfl rfl rfl rfl) rfl rfl (fun hg => rfl) rfl rfl (ld_agg (Nat.le_of_ble_eq_true rfl)) ?_
    refine aops_gload 1 (wT rfl rfl rfl rfl) rfl rfl (fun hg => rfl) rfl rfl (ld_agg (Nat.le_of_ble_eq_true rfl)) ?_
    refine aops_g (wT rfl rfl rfl rfl) rfl (fun hg => (eff_call [] rfl rfl (evs_cons (ev_g hg rfl) (evs_cons (ev_g hg rfl) (evs_cons (ev_g hg rfl) evs_nil))) (c_belowS p hb (nearF p a k) (nearF p c m)) List.nodup_nil)) ?_
    refine aops_g (wT rfl rfl rfl rfl) rfl (fun hg => (eff_not rfl (ev_g hg rfl))) ?_
    refine aops_g (wT rfl rfl rfl rfl) rfl (fun hg => (eff_move rfl (ev_g hg rfl))) ?_
    refine aops_gload 6 (wFg rfl rfl rfl rfl) rfl rfl (fun hg => rfl) rfl rfl (ld_agg (Nat.le_of_ble_eq_true rfl)) ?_
    refine aops_gload 2 (wFg rfl rfl rfl rfl) rfl rfl (fun hg => rfl) rfl rfl (ld_agg (Nat.le_of_ble_eq_true rfl)) ?_
    refine aops_gload 1 (wFg rfl rfl rfl rfl) rfl rfl (fun hg => rfl) rfl rfl (ld_agg (Nat.le_of_ble_eq_true rfl)) ?_
    refine aops_g (wFg rfl rfl rfl rfl) rfl (fun hg => (eff_call [] rfl rfl (evs_cons (ev_g hg rfl) (evs_cons (ev_g hg rfl) (evs_cons (ev_g hg rfl) evs_nil))) (c_belowS p hb (nearF p b l) (nearF p c m)) List.nodup_nil)) ?_
    refine aops_g (wFg rfl rfl rfl rfl) rfl (fun hg => (eff_not rfl (ev_g hg rfl))) ?_
    refine aops_g (wT rfl rfl rfl rfl) rfl (fun hg => (eff_or rfl (ev_g hg rfl) rfl (fun h => by first | (simp [h, hg]; done) | (simp_all; done)))) ?_
    refine aops_g (wT rfl rfl rfl rfl) rfl (fun hg => (eff_move rfl (ev_g hg rfl))) ?_
    refine aops_gload 6 (wFg rfl rfl rfl rfl) rfl rfl (fun hg => rfl) rfl rfl (ld_agg (Nat.le_of_ble_eq_true rfl)) ?_
    refine aops_gload 0 (wFg rfl rfl rfl rfl) rfl rfl (fun hg => rfl) rfl rfl (ld_agg (Nat.le_of_ble_eq_true rfl)) ?_
    refine aops_gload 1 (wFg rfl rfl rfl rfl) rfl rfl (fun hg => rfl) rfl rfl (ld_agg (Nat.le_of_ble_eq_true rfl)) ?_
    refine aops_g (wFg rfl rfl rfl rfl) rfl (fun hg => (eff_call [] rfl rfl (evs_cons (ev_g hg rfl) (evs_cons (ev_g hg rfl) (evs_cons (ev_g hg rfl) evs_nil))) (c_belowS p hb (joinBy (com p) (nearF p a k) (nearF p b l)) (nearF p c m)) List.nodup_nil)) ?_
    refine aops_g (wT rfl rfl rfl rfl) rfl (fun hg => (eff_or rfl (ev_g hg rfl) rfl (fun h => by first | (simp [h, hg]; done) | (simp_all; done)))) ?_
    refine aops_e (w0 rfl) rfl (eff_and rfl rfl rfl (fun h => h)) ?_
    refine aops_e (w0 rfl) rfl (eff_assign rfl rfl) ?_
    refine aops_nil ?_
    refine awp_ret ?_
    exact retq rfl (res_tmp rfl res_nil) (gb (law_least hsd (near_ok ..) (near_ok ..) (near_ok ..)))

theorem c_joinFits (p : Prog) (hp : p.ok) (a b : Fact) (t : Ty) (k l m : Int) (hk : u8 k) (hl : u8 l) (hm : u8 m) : ACalls Try.prog 7 [p.av, .agg ((a.cells ++ b.cells) ++ t.cells), .agg [uA k, uA l, uA m]] [] (Gives (bA true)) := by
  refine acalls_of (n := 82) Try.func7 rfl (by decide +kernel) rfl rfl ?_
  refine awp_seq ?_
  refine awp_region ?_
  refine aops_n (w0 rfl) rfl (fun id => eff_box id rfl rfl rfl rfl rfl) (fun id1 => ?_)
  refine aops_n (w0 rfl) rfl (fun id => eff_box id rfl rfl rfl rfl rfl) (fun id2 => ?_)
  refine aops_n (w0 rfl) rfl (fun id => eff_box id rfl rfl rfl rfl rfl) (fun id3 => ?_)
  refine aops_e (w0 rfl) rfl (eff_assign rfl rfl) ?_
  refine aops_nil ?_
  refine awp_seq ?_
  refine awp_seq ?_
  refine awp_region ?_
  refine aops_load_ptr 2 (w0 rfl) rfl rfl rfl rfl rfl (ld_agg (Nat.le_of_ble_eq_true rfl)) ?_
  refine aops_e (w0 rfl) rfl (eff_call [] rfl rfl rfl (c_great p hp) List.nodup_nil) ?_
  refine aops_e (w0 rfl) rfl (eff_move rfl rfl) ?_
  refine aops_gload 2 (wF rfl rfl rfl rfl) rfl rfl (fun hg => rfl) rfl rfl (ld_agg (Nat.le_of_ble_eq_true rfl)) ?_
  refine aops_gcallS (wF rfl rfl rfl rfl) rfl rfl (fun hg => rfl) (fun hg => (evs_cons (ev_g hg rfl) evs_nil)) (fun hg => (c_sound p hp (greatP_len (by simpa using hg)) (greatP_if (by simpa using hg)))) (fun v4 hv4 => ?_)
  refine aops_g (wF rfl rfl rfl rfl) rfl (fun hg => (eff_not rfl (ev_g hg rfl))) ?_
  refine aops_e (w0 rfl) rfl (eff_or rfl rfl rfl (fun h => by rw [h]; rfl)) ?_
  refine aops_nil ?_
  refine awp_cond rfl ?_ ?_
  · intro hc
    refine awp_seq ?_
    refine awp_region ?_
    refine aops_e (w0 rfl) rfl (eff_call [] rfl rfl rfl c_live15 List.nodup_nil) ?_
    refine aops_e (w0 rfl) rfl (eff_assign rfl rfl) ?_
    refine aops_nil ?_
    refine awp_ret ?_
    exact retq rfl (res_tmp rfl res_nil) (gb rfl)
  · intro hc
    have hq : greatP p = false := by cases h : greatP p with | false => rfl | true => simp [h] at hc
    have hsd : SoundP p := hv4 (by rw [hq]; rfl) (by rw [hq] at hc; simpa using hc)
    have hb := greatP_len hq
    have hif := greatP_if hq
    refine awp_skip ?_
    refine awp_seq ?_
    refine awp_region ?_
    refine aops_e (w0 rfl) rfl (eff_fieldAddr rfl rfl rfl) ?_
    refine aops_load_ptr 1 (w0 rfl) rfl rfl rfl rfl rfl (ld_to (y := t.av) (ld_agg (Nat.le_of_ble_eq_true rfl)) (rfl)) ?_
    refine aops_n (w0 rfl) rfl (fun id => eff_alloc id rfl rfl rfl) (fun id5 => ?_)
    refine aops_store 0 (w0 rfl) rfl rfl rfl rfl rfl rfl rfl rfl rfl ?_
    refine aops_nil ?_
    refine awp_seq ?_
    refine awp_drawM [0, 0, 2, 6, 0, 16, 63, 0, 0, 256, 768, 0, 2048, 8191, 0, 0, 65535, 131071] 16 rfl (by kernel_rfl) ?_
    refine calm_load_ptr 3 (w0 rfl) rfl rfl rfl rfl rfl (ld_agg (Nat.le_of_ble_eq_true rfl)) ?_
    refine calm_e (w0 rfl) rfl (eff_fieldAddr rfl rfl rfl) ?_
    refine calm_e (w0 rfl) rfl (eff_indexAddr_arr rfl rfl rfl (by first | omega | (simp only [List.length_map]; omega)) (by first | omega | (simp only [List.length_map]; omega)) rfl) ?_
    refine calm_load_ptr 2 (w0 rfl) rfl rfl rfl rfl rfl (ld_agg (Nat.le_of_ble_eq_true rfl)) ?_
    refine calm_e (w0 rfl) rfl (eff_indexAddr_arr rfl rfl rfl (by first | omega | (simp only [List.length_map]; omega)) (by first | omega | (simp only [List.length_map]; omega)) rfl) ?_
    refine calm_load_ptr 1 (w0 rfl) rfl rfl rfl rfl rfl ld_one ?_
    refine calm_e (w0 rfl) rfl (eff_call [] rfl rfl rfl (c_near p hb a k hk.1 hk.2) List.nodup_nil) ?_
    refine calm_load_ptr 3 (w0 rfl) rfl rfl rfl rfl rfl (ld_agg (Nat.le_of_ble_eq_true rfl)) ?_
    refine calm_e (w0 rfl) rfl (eff_fieldAddr rfl rfl rfl) ?_
    refine calm_e (w0 rfl) rfl (eff_indexAddr_arr rfl rfl rfl (by first | omega | (simp only [List.length_map]; omega)) (by first | omega | (simp only [List.length_map]; omega)) rfl) ?_
    refine calm_load_ptr 2 (w0 rfl) rfl rfl rfl rfl rfl (ld_agg (Nat.le_of_ble_eq_true rfl)) ?_
    refine calm_e (w0 rfl) rfl (eff_indexAddr_arr rfl rfl rfl (by first | omega | (simp only [List.length_map]; omega)) (by first | omega | (simp only [List.length_map]; omega)) rfl) ?_
    refine calm_load_ptr 1 (w0 rfl) rfl rfl rfl rfl rfl ld_one ?_
    refine calm_e (w0 rfl) rfl (eff_call [] rfl rfl rfl (c_near p hb b l hl.1 hl.2) List.nodup_nil) ?_
    refine calm_n (w0 rfl) rfl (fun id => eff_alloc id rfl rfl rfl) (fun id6 => ?_)
    refine calm_n (w0 rfl) rfl (fun id => eff_alloc id rfl rfl rfl) (fun id7 => ?_)
    refine .done ?_
    refine aops_store 1 (w0 rfl) rfl rfl rfl rfl rfl rfl rfl rfl rfl ?_
    refine aops_store 0 (w0 rfl) rfl rfl rfl rfl rfl rfl rfl rfl rfl ?_
    refine aops_nil ?_
    refine awp_seq ?_
    refine awp_seq ?_
    refine awp_region ?_
    refine aops_e (w0 rfl) rfl (eff_fieldAddr rfl rfl rfl) ?_
    refine aops_load_ptr 5 (w0 rfl) rfl rfl rfl rfl rfl ld_one ?_
    refine aops_e (w0 rfl) rfl (eff_len rfl rfl rfl rfl) ?_
    refine aops_e (w0 rfl) rfl (eff_icmp rfl rfl rfl rfl) ?_
    refine aops_e (w0 rfl) rfl (eff_move rfl rfl) ?_
    refine aops_g (wT rfl rfl rfl rfl) rfl (fun hg => (eff_fieldAddr rfl rfl rfl)) ?_
    refine aops_gload 2 (wT rfl rfl rfl rfl) rfl rfl (fun hg => (ev_g hg rfl)) rfl rfl ld_one ?_
    refine aops_g (wT rfl rfl rfl rfl) rfl (fun hg => (eff_icmp rfl (ev_g hg rfl) rfl rfl)) ?_
    refine aops_g (wT rfl rfl rfl rfl) rfl (fun hg => (eff_move rfl (ev_g hg rfl))) ?_
    refine aops_g (wFg rfl rfl rfl rfl) rfl (fun hg => (eff_fieldAddr rfl rfl rfl)) ?_
    refine aops_gload 2 (wFg rfl rfl rfl rfl) rfl rfl (fun hg => (ev_g hg rfl)) rfl rfl ld_one ?_
    refine aops_g (wFg rfl rfl rfl rfl) rfl (fun hg => (eff_icmp rfl (ev_g hg rfl) rfl rfl)) ?_
    refine aops_g (wT rfl rfl rfl rfl) rfl (fun hg => (eff_or rfl (ev_g hg rfl) rfl (fun h => by first | (simp [h, hg]; done) | (simp_all; done)))) ?_
    refine aops_e (w0 rfl) rfl (eff_and rfl rfl rfl (fun h => h)) ?_
    refine aops_nil ?_
    refine awp_cond rfl ?_ ?_
    · intro hc
      have hn : 0 < p.classes.length := by have := andL hc; simpa using this
      refine gen_of' (p.classes[(m.tmod p.classes.length).toNat]'(near_lt hn hm.1)).name (fun cn hcn => ?_)
      refine awp_drawM [0, 1, 0, 4, 12, 0, 32, 96, 252, 511, 1023, 2047, 4095, 8191] 13 rfl (by kernel_rfl) ?_
      refine calm_e (w0 rfl) rfl (eff_fieldAddr rfl rfl rfl) ?_
      refine calm_load_ptr 5 (w0 rfl) rfl rfl rfl rfl rfl ld_one ?_
      refine calm_e (w0 rfl) rfl (eff_indexAddr_arr rfl rfl rfl (by first | omega | (simp only [List.length_map]; omega)) (by first | omega | (simp only [List.length_map]; omega)) rfl) ?_
      refine calm_load_ptr 3 (w0 rfl) rfl rfl rfl rfl rfl ld_one ?_
      refine calm_e (w0 rfl) rfl (eff_to (y := iA m) (eff_convInt rfl rfl) (congrArg iA (i64_wrap (by omega)))) ?_
      refine calm_e (w0 rfl) rfl (eff_fieldAddr rfl rfl rfl) ?_
      refine calm_load_ptr 5 (w0 rfl) rfl rfl rfl rfl rfl ld_one ?_
      refine calm_e (w0 rfl) rfl (eff_to (y := iA p.classes.length) (eff_len rfl rfl rfl rfl) (congrArg iA (by simp))) ?_
      refine calm_e (w0 rfl) rfl (eff_rem rfl rfl rfl (by omega)) ?_
      refine calm_e (w0 rfl) rfl (eff_indexAddr_lst rfl rfl rfl (len_map (fun _ => rfl)) (by first | exact Int.tmod_nonneg _ hm.1 | (simp only [List.length_map]; exact Int.tmod_lt_of_pos _ (by omega))) (by first | exact Int.tmod_nonneg _ hm.1 | (simp only [List.length_map]; exact Int.tmod_lt_of_pos _ (by omega)))) ?_
      refine calm_e (w0 rfl) rfl (eff_fieldAddr rfl rfl rfl) ?_
      refine calm_e (w0 rfl) rfl (eff_loadE rfl rfl (map_get (by (have := near_lt hn hm.1; omega))) ld_one) ?_
      refine calm_e (w0 rfl) rfl (eff_fieldAddr rfl rfl rfl) ?_
      refine .done ?_
      refine aops_store 2 (w0 rfl) rfl rfl rfl rfl rfl rfl rfl rfl rfl ?_
      refine aops_nil ?_
      refine awp_seq ?_
      refine awp_region ?_
      refine aops_e (w0 rfl) rfl (eff_call [] rfl rfl rfl c_live15 List.nodup_nil) ?_
      refine aops_e (w0 rfl) rfl (eff_move rfl rfl) ?_
      refine aops_gload 5 (wT rfl rfl rfl rfl) rfl rfl (fun hg => rfl) rfl rfl (ld_agg (Nat.le_of_ble_eq_true rfl)) ?_
      refine aops_gload 1 (wT rfl rfl rfl rfl) rfl rfl (fun hg => rfl) rfl rfl (ld_agg (Nat.le_of_ble_eq_true rfl)) ?_
      refine aops_gload 0 (wT rfl rfl rfl rfl) rfl rfl (fun hg => rfl) rfl rfl (ld_agg (Nat.le_of_ble_eq_true rfl)) ?_
      refine aops_g (wT rfl rfl rfl rfl) rfl (fun hg => (eff_call [] rfl rfl (evs_cons (ev_g hg rfl) (evs_cons (ev_g hg rfl) (evs_cons (ev_g hg rfl) evs_nil))) (c_belowS p hb (nearF p a k) (nearF p b l)) List.nodup_nil)) ?_
      refine aops_g (wT rfl rfl rfl rfl) rfl (fun hg => (eff_not rfl (ev_g hg rfl))) ?_
      refine aops_g (wT rfl rfl rfl rfl) rfl (fun hg => (eff_move rfl (ev_g hg rfl))) ?_
      refine aops_gload 5 (wFg rfl rfl rfl rfl) rfl rfl (fun hg => rfl) rfl rfl (ld_agg (Nat.le_of_ble_eq_true rfl)) ?_
      refine aops_gload 0 (wFg rfl rfl rfl rfl) rfl rfl (fun hg => rfl) rfl rfl (ld_agg (Nat.le_of_ble_eq_true rfl)) ?_
      refine aops_gload 2 (wFg rfl rfl rfl rfl) rfl rfl (fun hg => rfl) rfl rfl (ld_to (y := Ty.av (⟨t.kind, cn⟩ : Ty)) (ld_agg (Nat.le_of_ble_eq_true rfl)) (congrArg (fun c => Ty.av ⟨t.kind, c⟩) hcn.symm)) ?_
      refine aops_g (wFg rfl rfl rfl rfl) rfl (fun hg => (eff_call [] rfl rfl (evs_cons (ev_g hg rfl) (evs_cons (ev_g hg rfl) (evs_cons (ev_g hg rfl) evs_nil))) (c_fitsS p hb hif (nearF p b l) (⟨t.kind, cn⟩ : Ty)) List.nodup_nil)) ?_
      refine aops_g (wFg rfl rfl rfl rfl) rfl (fun hg => (eff_not rfl (ev_g hg rfl))) ?_
      refine aops_g (wT rfl rfl rfl rfl) rfl (fun hg => (eff_or rfl (ev_g hg rfl) rfl (fun h => by first | (simp [h, hg]; done) | (simp_all; done)))) ?_
      refine aops_g (wT rfl rfl rfl rfl) rfl (fun hg => (eff_move rfl (ev_g hg rfl))) ?_
      refine aops_gload 5 (wFg rfl rfl rfl rfl) rfl rfl (fun hg => rfl) rfl rfl (ld_agg (Nat.le_of_ble_eq_true rfl)) ?_
      refine aops_gload 1 (wFg rfl rfl rfl rfl) rfl rfl (fun hg => rfl) rfl rfl (ld_agg (Nat.le_of_ble_eq_true rfl)) ?_
      refine aops_gload 2 (wFg rfl rfl rfl rfl) rfl rfl (fun hg => rfl) rfl rfl (ld_to (y := Ty.av (⟨t.kind, cn⟩ : Ty)) (ld_agg (Nat.le_of_ble_eq_true rfl)) (congrArg (fun c => Ty.av ⟨t.kind, c⟩) hcn.symm)) ?_
      refine aops_g (wFg rfl rfl rfl rfl) rfl (fun hg => (eff_call [] rfl rfl (evs_cons (ev_g hg rfl) (evs_cons (ev_g hg rfl) (evs_cons (ev_g hg rfl) evs_nil))) (c_fitsS p hb hif (nearF p a k) (⟨t.kind, cn⟩ : Ty)) List.nodup_nil)) ?_
      refine aops_g (wT rfl rfl rfl rfl) rfl (fun hg => (eff_or rfl (ev_g hg rfl) rfl (fun h => by first | (simp [h, hg]; done) | (simp_all; done)))) ?_
      refine aops_e (w0 rfl) rfl (eff_and rfl rfl rfl (fun h => h)) ?_
      refine aops_e (w0 rfl) rfl (eff_assign rfl rfl) ?_
      refine aops_nil ?_
      refine awp_ret ?_
      exact retq rfl (res_tmp rfl res_nil) (gb (law_fits hsd (near_ok ..) (near_ok ..)))
    · intro hc
      refine awp_skip ?_
      refine awp_seq ?_
      refine awp_region ?_
      refine aops_e (w0 rfl) rfl (eff_call [] rfl rfl rfl c_live15 List.nodup_nil) ?_
      refine aops_e (w0 rfl) rfl (eff_move rfl rfl) ?_
      refine aops_gload 5 (wT rfl rfl rfl rfl) rfl rfl (fun hg => rfl) rfl rfl (ld_agg (Nat.le_of_ble_eq_true rfl)) ?_
      refine aops_gload 1 (wT rfl rfl rfl rfl) rfl rfl (fun hg => rfl) rfl rfl (ld_agg (Nat.le_of_ble_eq_true rfl)) ?_
      refine aops_gload 0 (wT rfl rfl rfl rfl) rfl rfl (fun hg => rfl) rfl rfl (ld_agg (Nat.le_of_ble_eq_true rfl)) ?_
      refine aops_g (wT rfl rfl rfl rfl) rfl (fun hg => (eff_call [] rfl rfl (evs_cons (ev_g hg rfl) (evs_cons (ev_g hg rfl) (evs_cons (ev_g hg rfl) evs_nil))) (c_belowS p hb (nearF p a k) (nearF p b l)) List.nodup_nil)) ?_
      refine aops_g (wT rfl rfl rfl rfl) rfl (fun hg => (eff_not rfl (ev_g hg rfl))) ?_
      refine aops_g (wT rfl rfl rfl rfl) rfl (fun hg => (eff_move rfl (ev_g hg rfl))) ?_
      refine aops_gload 5 (wFg rfl rfl rfl rfl) rfl rfl (fun hg => rfl) rfl rfl (ld_agg (Nat.le_of_ble_eq_true rfl)) ?_
      refine aops_gload 0 (wFg rfl rfl rfl rfl) rfl rfl (fun hg => rfl) rfl rfl (ld_agg (Nat.le_of_ble_eq_true rfl)) ?_
      refine aops_gload 2 (wFg rfl rfl rfl rfl) rfl rfl (fun hg => rfl) rfl rfl (ld_to (y := Ty.av t) (ld_agg (Nat.le_of_ble_eq_true rfl)) (rfl)) ?_
      refine aops_g (wFg rfl rfl rfl rfl) rfl (fun hg => (eff_call [] rfl rfl (evs_cons (ev_g hg rfl) (evs_cons (ev_g hg rfl) (evs_cons (ev_g hg rfl) evs_nil))) (c_fitsS p hb hif (nearF p b l) t) List.nodup_nil)) ?_
      refine aops_g (wFg rfl rfl rfl rfl) rfl (fun hg => (eff_not rfl (ev_g hg rfl))) ?_
      refine aops_g (wT rfl rfl rfl rfl) rfl (fun hg => (eff_or rfl (ev_g hg rfl) rfl (fun h => by first | (simp [h, hg]; done) | (simp_all; done)))) ?_
      refine aops_g (wT rfl rfl rfl rfl) rfl (fun hg => (eff_move rfl (ev_g hg rfl))) ?_
      refine aops_gload 5 (wFg rfl rfl rfl rfl) rfl rfl (fun hg => rfl) rfl rfl (ld_agg (Nat.le_of_ble_eq_true rfl)) ?_
      refine aops_gload 1 (wFg rfl rfl rfl rfl) rfl rfl (fun hg => rfl) rfl rfl (ld_agg (Nat.le_of_ble_eq_true rfl)) ?_
      refine aops_gload 2 (wFg rfl rfl rfl rfl) rfl rfl (fun hg => rfl) rfl rfl (ld_to (y := Ty.av t) (ld_agg (Nat.le_of_ble_eq_true rfl)) (rfl)) ?_
      refine aops_g (wFg rfl rfl rfl rfl) rfl (fun hg => (eff_call [] rfl rfl (evs_cons (ev_g hg rfl) (evs_cons (ev_g hg rfl) (evs_cons (ev_g hg rfl) evs_nil))) (c_fitsS p hb hif (nearF p a k) t) List.nodup_nil)) ?_
      refine aops_g (wT rfl rfl rfl rfl) rfl (fun hg => (eff_or rfl (ev_g hg rfl) rfl (fun h => by first | (simp [h, hg]; done) | (simp_all; done)))) ?_
      refine aops_e (w0 rfl) rfl (eff_and rfl rfl rfl (fun h => h)) ?_
      refine aops_e (w0 rfl) rfl (eff_assign rfl rfl) ?_
      refine aops_nil ?_
      refine awp_ret ?_
      exact retq rfl (res_tmp rfl res_nil) (gb (law_fits hsd (near_ok ..) (near_ok ..)))

end Go.Sx
