/- Layer 24, walked: the laws. -/
import Derived.Test.YtaphgfiboidpbaaBaSzOnly
import Derived.Test.YtaphgfiboidpbaaBaSxHier2
set_option linter.unusedVariables false
set_option linter.unusedSimpArgs false
namespace Go.Sx
open Go Go.Proofs

def st (n : Int) : Site := ⟨⟨⟨#[65]⟩, ⟨#[109]⟩, ⟨#[40, 41, 86]⟩⟩, n, ⟨#[65]⟩⟩
def lbA : Cls := ⟨⟨#[65]⟩, zS, false, false, [], [], []⟩
def lbB : Cls := ⟨⟨#[66]⟩, zS, false, false, [], [], []⟩
def lbP : Prog := ⟨[lbA, lbB], [], ⟨zS, zS, zS⟩⟩
def plR (n : Int) : Place := ⟨0, zMR, n, ⟨zS, zS⟩, ⟨zMR, 0, zS⟩⟩
theorem lbP_if : ∀ c, c ∈ lbP.classes → c.ifaces.length ≤ 1000 := by decide
theorem lb_sub {a b : Str} {r : Bool} (h : (ancRun lbP 20 [a] []).isSome = true) (hr : subC lbP 20 a b = r) : subP lbP a b = r := (subC_ok h).trans hr
theorem lb_B : risG sLt (([st 1, st 2] : List Site).filter fun s => !delP lbP ⟨#[66]⟩ s) = [] := by
  have h : subP lbP ⟨#[65]⟩ ⟨#[66]⟩ = false := lb_sub (by decide +kernel) (by decide +kernel)
  have h2 : beqS ⟨#[66]⟩ zS = false := by decide +kernel
  have h3 : ∀ n, delP lbP ⟨#[66]⟩ (st n) = true := fun n => by unfold delP; rw [h2, show (st n).cls = ⟨#[65]⟩ from rfl, h]; rfl
  simp only [List.filter_cons, h3, List.filter_nil]
  rfl
theorem lb_A : risG sLt (([st 1, st 2] : List Site).filter fun s => !delP lbP ⟨#[65]⟩ s) = [st 1, st 2] := by
  have h : subP lbP ⟨#[65]⟩ ⟨#[65]⟩ = true := lb_sub (by decide +kernel) (by decide +kernel)
  have h3 : ∀ n, delP lbP ⟨#[65]⟩ (st n) = false := fun n => by unfold delP; rw [show (st n).cls = ⟨#[65]⟩ from rfl, h]; simp
  simp only [List.filter_cons, h3, List.filter_nil]
  decide +kernel
theorem c_ofX (l : List Site) (hl : l.length ≤ 1000000) {r : List Site} (h : risG sLt l = r) : ACalls Try.prog 13 [.lst (l.map Site.cells)] [] (Gives (.lst (r.map Site.cells))) := h ▸ c_ofL l hl
theorem c_rightX (l : List Site) (hl : small l.length) {r : Bool} (h : riseG sLt l = r) : ACalls Try.prog 10 [.lst (l.map Site.cells)] [] (Gives (bA r)) := h ▸ c_right l hl
theorem c_hasX (l : List Site) (hl : small l.length) (s : Site) {r : Bool} (h : hasG l s = r) : ACalls Try.prog 19 [.lst (l.map Site.cells), s.av] [] (Gives (bA r)) := h ▸ c_has l hl s
theorem c_putX (l : List Site) (hl : l.length ≤ 1000000) (s : Site) {r : List Site} (h : risG sLt (l ++ [s]) = r) : ACalls Try.prog 15 [.lst (l.map Site.cells), s.av] [] (Gives (.lst (r.map Site.cells))) := h ▸ c_put l hl s
theorem c_unionX (a b : List Site) (hl : a.length ≤ 1000000) (hb : b.length ≤ 1000000) {r : List Site} (h : risG sLt (a ++ b) = r) : ACalls Try.prog 17 [.lst (a.map Site.cells), .lst (b.map Site.cells)] [] (Gives (.lst (r.map Site.cells))) := h ▸ c_union a b hl hb
theorem c_subX (a b : List Site) (hl : small a.length) (hb : small b.length) {r : Bool} (h : a.all (hasG b) = r) : ACalls Try.prog 21 [.lst (a.map Site.cells), .lst (b.map Site.cells)] [] (Gives (bA r)) := h ▸ c_sub24 a b hl hb
theorem c_onlyX (p : Prog) (hb : p.classes.length ≤ 1000) (hif : ∀ c, c ∈ p.classes → c.ifaces.length ≤ 1000) (l : List Site) (hl : l.length ≤ 1000) (cl : Str) {r : List Site} (h : risG sLt (l.filter fun s => !delP p cl s) = r) : ACalls Try.prog 24 [p.av, .lst (l.map Site.cells), sA cl] [] (Gives (.lst (r.map Site.cells))) := h ▸ c_only p hb hif l hl cl
theorem c_cmpX (a b : Site) {r : Int} (h : cmpS a b = r) : ACalls Try.prog 26 [a.av, b.av] [] (Gives (iA r)) := h ▸ c_cmpSite a b
theorem c_orderX (a b : Place) {r : Int} (h : cmpP a b = r) : ACalls Try.prog 27 [a.av, b.av] [] (Gives (iA r)) := h ▸ c_order a b

theorem c_live24  : ACalls Try.prog 9 [] [] (Gives (bA true)) := by
  refine acalls_of (n := 85) Try.func9 rfl (by decide +kernel) rfl rfl ?_
  refine awp_seq ?_
  refine awp_region ?_
  refine aops_e (w0 rfl) rfl (eff_assign rfl rfl) ?_
  refine aops_nil ?_
  refine awp_seq ?_
  refine awp_region ?_
  refine aops_e (w0 rfl) rfl (eff_call [] rfl rfl rfl (c_site 2) List.nodup_nil) ?_
  refine aops_e (w0 rfl) rfl (eff_call [] rfl rfl rfl (c_site 1) List.nodup_nil) ?_
  refine aops_e (w0 rfl) rfl (eff_call [] rfl rfl rfl (c_site 2) List.nodup_nil) ?_
  refine aops_e (w0 rfl) rfl (eff_frz (es := ([st 2, st 1, st 2] : List Site).map Site.cells) (fun id => eff_buildSlice id (ps := [(0, .tmp 3), (1, .tmp 4), (2, .tmp 5)]) rfl rfl rfl rfl rfl rfl rfl rfl) rfl) ?_
  refine aops_e (w0 rfl) rfl (eff_call [] rfl rfl rfl (c_ofX [st 2, st 1, st 2] (by decide) (r := [st 1, st 2]) (by decide +kernel)) List.nodup_nil) ?_
  refine aops_e (w0 rfl) rfl (eff_assign rfl rfl) ?_
  refine aops_nil ?_
  refine awp_seq ?_
  refine awp_region ?_
  refine aops_e (w0 rfl) rfl (eff_sub (y := lbA.av) (eff_build rfl rfl rfl) (.agg (by repeat' (first | exact .nil | refine .keep ?_ | refine .z ?_)))) ?_
  refine aops_e (w0 rfl) rfl (eff_sub (y := lbB.av) (eff_build rfl rfl rfl) (.agg (by repeat' (first | exact .nil | refine .keep ?_ | refine .z ?_)))) ?_
  refine aops_e (w0 rfl) rfl (eff_frz (es := lbP.classes.map Cls.cells) (fun id => eff_buildSlice id (ps := [(0, .tmp 8), (1, .tmp 9)]) rfl rfl rfl rfl rfl rfl rfl rfl) rfl) ?_
  refine aops_e (w0 rfl) rfl (eff_sub (y := lbP.av) (eff_build rfl rfl rfl) (.agg (by repeat' (first | exact .nil | refine .keep ?_ | refine .z ?_)))) ?_
  refine aops_n (w0 rfl) rfl (fun id => eff_alloc id rfl rfl rfl) (fun id1 => ?_)
  refine aops_store 0 (w0 rfl) rfl rfl rfl rfl rfl rfl rfl rfl rfl ?_
  refine aops_nil ?_
  refine awp_seq ?_
  refine awp_drawM [0, 1, 3, 7, 15, 31, 63, 15, 255, 511, 1023, 2047, 4095, 8191, 16383, 32767, 32767, 131071, 262143, 524287, 1048575, 1048575, 4194303, 8388607, 16777215, 33554431, 67108863, 67108863, 268435455, 536870911, 1073741823, 2147483647, 4294967295, 8589934591, 8589934591, 25769803775, 68719476735, 137438953471, 274877906943, 549755813887, 1099511627775, 2199023255551, 2199023255551, 2199023255551, 15393162788863, 35184372088831, 70368744177663, 140737488355327, 281474976710655, 281474976710655, 1125899906842623, 2251799813685247, 4503599627370495, 9007199254740991, 18014398509481983, 36028797018963967, 36028797018963967, 144115188075855871, 288230376151711743, 576460752303423487, 1152921504606846975, 2305843009213693951, 4611686018427387903, 9223372036854775807, 18446744073709551615, 36893488147419103231, 73786976294838206463, 147573952589676412927, 295147905179352825855, 295147905179352825855, 1180591620717411303423, 2361183241434822606847, 4722366482869645213695, 9444732965739290427391] 74 rfl (by kernel_rfl) ?_
  refine calm_e (w0 rfl) rfl (eff_move rfl rfl) ?_
  refine calm_e (w0 rfl) rfl (eff_len rfl rfl rfl rfl) ?_
  refine calm_e (w0 rfl) rfl (eff_to (y := bA true) (eff_icmp rfl rfl rfl rfl) (congrArg bA (by decide +kernel))) ?_
  refine calm_e (w0 rfl) rfl (eff_move rfl rfl) ?_
  refine calm_e (wT (d := true) rfl rfl rfl rfl) rfl (eff_move rfl rfl) ?_
  refine calm_e (wT (d := true) rfl rfl rfl rfl) rfl (eff_indexAddr_lst rfl rfl rfl (len_map (fun _ => rfl)) (by decide) (by decide)) ?_
  refine calm_e (wT (d := true) rfl rfl rfl rfl) rfl (eff_loadE rfl rfl (map_get (by decide)) (ld_agg (Nat.le_of_ble_eq_true rfl))) ?_
  refine calm_e (wT (d := true) rfl rfl rfl rfl) rfl (eff_call [] rfl rfl rfl (c_site 1) List.nodup_nil) ?_
  refine calm_e (wT (d := true) rfl rfl rfl rfl) rfl (eff_to (y := bA true) (eff_eql rfl rfl rfl rfl rfl) (congrArg bA (by decide +kernel))) ?_
  refine calm_e (w0 rfl) rfl (eff_to (y := bA true) (eff_pick (t := true) rfl rfl rfl rfl) rfl) ?_
  refine calm_e (w0 rfl) rfl (eff_move rfl rfl) ?_
  refine calm_e (wT (d := true) rfl rfl rfl rfl) rfl (eff_move rfl rfl) ?_
  refine calm_e (wT (d := true) rfl rfl rfl rfl) rfl (eff_call [] rfl rfl rfl (c_rightX [st 1, st 2] (by unfold small; decide) (r := true) (by decide +kernel)) List.nodup_nil) ?_
  refine calm_e (w0 rfl) rfl (eff_to (y := bA true) (eff_pick (t := true) rfl rfl rfl rfl) rfl) ?_
  refine calm_e (w0 rfl) rfl (eff_move rfl rfl) ?_
  refine calm_e (wT (d := true) rfl rfl rfl rfl) rfl (eff_move rfl rfl) ?_
  refine calm_e (wT (d := true) rfl rfl rfl rfl) rfl (eff_call [] rfl rfl rfl (c_site 2) List.nodup_nil) ?_
  refine calm_e (wT (d := true) rfl rfl rfl rfl) rfl (eff_call [] rfl rfl rfl (c_hasX [st 1, st 2] (by unfold small; decide) (st 2) (r := true) (by decide +kernel)) List.nodup_nil) ?_
  refine calm_e (w0 rfl) rfl (eff_to (y := bA true) (eff_pick (t := true) rfl rfl rfl rfl) rfl) ?_
  refine calm_e (w0 rfl) rfl (eff_move rfl rfl) ?_
  refine calm_e (wT (d := true) rfl rfl rfl rfl) rfl (eff_move rfl rfl) ?_
  refine calm_e (wT (d := true) rfl rfl rfl rfl) rfl (eff_call [] rfl rfl rfl (c_site 3) List.nodup_nil) ?_
  refine calm_e (wT (d := true) rfl rfl rfl rfl) rfl (eff_call [] rfl rfl rfl (c_hasX [st 1, st 2] (by unfold small; decide) (st 3) (r := false) (by decide +kernel)) List.nodup_nil) ?_
  refine calm_e (wT (d := true) rfl rfl rfl rfl) rfl (eff_to (y := bA true) (eff_not rfl rfl) (congrArg bA (by decide +kernel))) ?_
  refine calm_e (w0 rfl) rfl (eff_to (y := bA true) (eff_pick (t := true) rfl rfl rfl rfl) rfl) ?_
  refine calm_e (w0 rfl) rfl (eff_move rfl rfl) ?_
  refine calm_e (wT (d := true) rfl rfl rfl rfl) rfl (eff_move rfl rfl) ?_
  refine calm_e (wT (d := true) rfl rfl rfl rfl) rfl (eff_call [] rfl rfl rfl (c_site 3) List.nodup_nil) ?_
  refine calm_e (wT (d := true) rfl rfl rfl rfl) rfl (eff_call [] rfl rfl rfl (c_putX [st 1, st 2] (by decide) (st 3) (r := [st 1, st 2, st 3]) (by decide +kernel)) List.nodup_nil) ?_
  refine calm_e (wT (d := true) rfl rfl rfl rfl) rfl (eff_len rfl rfl rfl rfl) ?_
  refine calm_e (wT (d := true) rfl rfl rfl rfl) rfl (eff_to (y := bA true) (eff_icmp rfl rfl rfl rfl) (congrArg bA (by decide +kernel))) ?_
  refine calm_e (w0 rfl) rfl (eff_to (y := bA true) (eff_pick (t := true) rfl rfl rfl rfl) rfl) ?_
  refine calm_e (w0 rfl) rfl (eff_move rfl rfl) ?_
  refine calm_e (wT (d := true) rfl rfl rfl rfl) rfl (eff_move rfl rfl) ?_
  refine calm_e (wT (d := true) rfl rfl rfl rfl) rfl (eff_call [] rfl rfl rfl (c_site 4) List.nodup_nil) ?_
  refine calm_e (wT (d := true) rfl rfl rfl rfl) rfl (eff_frz (es := ([st 4] : List Site).map Site.cells) (fun id => eff_buildSlice id (ps := [(0, .tmp 46)]) rfl rfl rfl rfl rfl rfl rfl rfl) rfl) ?_
  refine calm_e (wT (d := true) rfl rfl rfl rfl) rfl (eff_call [] rfl rfl rfl (c_unionX [st 1, st 2] [st 4] (by decide) (by decide) (r := [st 1, st 2, st 4]) (by decide +kernel)) List.nodup_nil) ?_
  refine calm_e (wT (d := true) rfl rfl rfl rfl) rfl (eff_len rfl rfl rfl rfl) ?_
  refine calm_e (wT (d := true) rfl rfl rfl rfl) rfl (eff_to (y := bA true) (eff_icmp rfl rfl rfl rfl) (congrArg bA (by decide +kernel))) ?_
  refine calm_e (w0 rfl) rfl (eff_to (y := bA true) (eff_pick (t := true) rfl rfl rfl rfl) rfl) ?_
  refine calm_e (w0 rfl) rfl (eff_move rfl rfl) ?_
  refine calm_e (wT (d := true) rfl rfl rfl rfl) rfl (eff_move rfl rfl) ?_
  refine calm_e (wT (d := true) rfl rfl rfl rfl) rfl (eff_move rfl rfl) ?_
  refine calm_e (wT (d := true) rfl rfl rfl rfl) rfl (eff_call [] rfl rfl rfl (c_site 0) List.nodup_nil) ?_
  refine calm_e (wT (d := true) rfl rfl rfl rfl) rfl (eff_call [] rfl rfl rfl (c_putX [st 1, st 2] (by decide) (st 0) (r := [st 0, st 1, st 2]) (by decide +kernel)) List.nodup_nil) ?_
  refine calm_e (wT (d := true) rfl rfl rfl rfl) rfl (eff_call [] rfl rfl rfl (c_subX [st 1, st 2] [st 0, st 1, st 2] (by unfold small; decide) (by unfold small; decide) (r := true) (by decide +kernel)) List.nodup_nil) ?_
  refine calm_e (w0 rfl) rfl (eff_to (y := bA true) (eff_pick (t := true) rfl rfl rfl rfl) rfl) ?_
  refine calm_e (w0 rfl) rfl (eff_move rfl rfl) ?_
  refine calm_load_ptr 0 (wT (d := true) rfl rfl rfl rfl) rfl rfl rfl rfl rfl (ld_agg (Nat.le_of_ble_eq_true rfl)) ?_
  refine calm_e (wT (d := true) rfl rfl rfl rfl) rfl (eff_move rfl rfl) ?_
  refine calm_e (wT (d := true) rfl rfl rfl rfl) rfl (eff_call [] rfl rfl rfl (c_onlyX lbP (by decide) lbP_if [st 1, st 2] (by decide) ⟨#[66]⟩ (r := []) lb_B) List.nodup_nil) ?_
  refine calm_e (wT (d := true) rfl rfl rfl rfl) rfl (eff_len rfl rfl rfl rfl) ?_
  refine calm_e (wT (d := true) rfl rfl rfl rfl) rfl (eff_to (y := bA true) (eff_icmp rfl rfl rfl rfl) (congrArg bA (by decide +kernel))) ?_
  refine calm_e (w0 rfl) rfl (eff_to (y := bA true) (eff_pick (t := true) rfl rfl rfl rfl) rfl) ?_
  refine calm_e (w0 rfl) rfl (eff_move rfl rfl) ?_
  refine calm_load_ptr 0 (wT (d := true) rfl rfl rfl rfl) rfl rfl rfl rfl rfl (ld_agg (Nat.le_of_ble_eq_true rfl)) ?_
  refine calm_e (wT (d := true) rfl rfl rfl rfl) rfl (eff_move rfl rfl) ?_
  refine calm_e (wT (d := true) rfl rfl rfl rfl) rfl (eff_call [] rfl rfl rfl (c_onlyX lbP (by decide) lbP_if [st 1, st 2] (by decide) ⟨#[65]⟩ (r := [st 1, st 2]) lb_A) List.nodup_nil) ?_
  refine calm_e (wT (d := true) rfl rfl rfl rfl) rfl (eff_len rfl rfl rfl rfl) ?_
  refine calm_e (wT (d := true) rfl rfl rfl rfl) rfl (eff_to (y := bA true) (eff_icmp rfl rfl rfl rfl) (congrArg bA (by decide +kernel))) ?_
  refine calm_e (w0 rfl) rfl (eff_to (y := bA true) (eff_pick (t := true) rfl rfl rfl rfl) rfl) ?_
  refine calm_e (w0 rfl) rfl (eff_move rfl rfl) ?_
  refine calm_e (wT (d := true) rfl rfl rfl rfl) rfl (eff_call [] rfl rfl rfl (c_site 1) List.nodup_nil) ?_
  refine calm_e (wT (d := true) rfl rfl rfl rfl) rfl (eff_call [] rfl rfl rfl (c_site 2) List.nodup_nil) ?_
  refine calm_e (wT (d := true) rfl rfl rfl rfl) rfl (eff_call [] rfl rfl rfl (c_cmpX (st 1) (st 2) (r := -1) (by decide +kernel)) List.nodup_nil) ?_
  refine calm_e (wT (d := true) rfl rfl rfl rfl) rfl (eff_to (y := bA true) (eff_icmp rfl rfl rfl rfl) (congrArg bA (by decide +kernel))) ?_
  refine calm_e (w0 rfl) rfl (eff_to (y := bA true) (eff_pick (t := true) rfl rfl rfl rfl) rfl) ?_
  refine calm_e (w0 rfl) rfl (eff_move rfl rfl) ?_
  refine calm_e (wT (d := true) rfl rfl rfl rfl) rfl (eff_sub (y := (plR 2).av) (eff_build rfl rfl rfl) (.agg (by repeat' (first | exact .nil | refine .keep ?_ | refine .z ?_)))) ?_
  refine calm_e (wT (d := true) rfl rfl rfl rfl) rfl (eff_sub (y := (plR 1).av) (eff_build rfl rfl rfl) (.agg (by repeat' (first | exact .nil | refine .keep ?_ | refine .z ?_)))) ?_
  refine calm_e (wT (d := true) rfl rfl rfl rfl) rfl (eff_call [] rfl rfl rfl (c_orderX (plR 2) (plR 1) (r := 1) (by decide +kernel)) List.nodup_nil) ?_
  refine calm_e (wT (d := true) rfl rfl rfl rfl) rfl (eff_to (y := bA true) (eff_icmp rfl rfl rfl rfl) (congrArg bA (by decide +kernel))) ?_
  refine calm_e (w0 rfl) rfl (eff_to (y := bA true) (eff_pick (t := true) rfl rfl rfl rfl) rfl) ?_
  refine calm_e (w0 rfl) rfl (eff_assign rfl rfl) ?_
  refine .done ?_
  refine aops_nil ?_
  refine awp_ret ?_
  exact retq rfl (res_tmp rfl res_nil) (gb rfl)

theorem neq_z (a b : Site) : (!((cmpS a b == 0) == ceqs a.cells b.cells)) = false := by rw [eqSite, cmpS_dec]; simp
theorem cmpP_dec (a b : Place) : (cmpP a b == 0) = decide (a = b) := by rw [Bool.eq_iff_iff]; simp only [beq_iff_eq, decide_eq_true_eq]; exact cmpP_zero
theorem neq_zP (a b : Place) : (!((cmpP a b == 0) == ceqs a.cells b.cells)) = false := by rw [eqPlace, cmpP_dec]; simp
theorem anti_eq {α : Type} {f : α → α → Int} (h : PreC f) (a b : α) : (f a b == -(f b a)) = true := by rw [h.anti a b]; simp
theorem tr_or {α : Type} {f : α → α → Int} (h : PreC f) (a b c : α) : ((decide (f a b > 0) || decide (f b c > 0)) || decide (f a c ≤ 0)) = true := by
  by_cases h1 : f a b > 0
  · simp [h1]
  · by_cases h2 : f b c > 0
    · simp [h2]
    · have := h.tr a b c (by omega) (by omega)
      simp [this]

theorem c_bagOrder (a b c : Site) (x y z : Place) : ACalls Try.prog 5 [.agg (a.cells ++ (b.cells ++ c.cells)), .agg (x.cells ++ (y.cells ++ z.cells))] [] (Gives (bA true)) := by
  refine acalls_of (n := 122) Try.func5 rfl (by decide +kernel) rfl rfl ?_
  refine awp_seq ?_
  refine awp_region ?_
  refine aops_n (w0 rfl) rfl (fun id => eff_box id rfl rfl rfl rfl rfl) (fun id1 => ?_)
  refine aops_n (w0 rfl) rfl (fun id => eff_box id rfl rfl rfl rfl rfl) (fun id2 => ?_)
  refine aops_e (w0 rfl) rfl (eff_assign rfl rfl) ?_
  refine aops_nil ?_
  refine awp_seq ?_
  refine awp_drawM [0, 1, 0, 4, 15, 0, 32, 0, 128, 511, 0, 1024, 0, 4096, 16383, 32767, 65535, 131071] 18 rfl (by kernel_rfl) ?_
  refine calm_e (w0 rfl) rfl (eff_indexAddr_arr rfl rfl rfl (by first | omega | (simp only [List.length_map]; omega) | (simp only [List.length_map, List.length_drop]; omega)) (by first | omega | (simp only [List.length_map]; omega) | (simp only [List.length_map, List.length_drop]; omega)) rfl) ?_
  refine calm_load_ptr 1 (w0 rfl) rfl rfl rfl rfl rfl (ld_agg (Nat.le_of_ble_eq_true rfl)) ?_
  refine calm_e (w0 rfl) rfl (eff_indexAddr_arr rfl rfl rfl (by first | omega | (simp only [List.length_map]; omega) | (simp only [List.length_map, List.length_drop]; omega)) (by first | omega | (simp only [List.length_map]; omega) | (simp only [List.length_map, List.length_drop]; omega)) rfl) ?_
  refine calm_load_ptr 1 (w0 rfl) rfl rfl rfl rfl rfl (ld_agg (Nat.le_of_ble_eq_true rfl)) ?_
  refine calm_e (w0 rfl) rfl (eff_call [] rfl rfl rfl (c_cmpSite a b) List.nodup_nil) ?_
  refine calm_e (w0 rfl) rfl (eff_indexAddr_arr rfl rfl rfl (by first | omega | (simp only [List.length_map]; omega) | (simp only [List.length_map, List.length_drop]; omega)) (by first | omega | (simp only [List.length_map]; omega) | (simp only [List.length_map, List.length_drop]; omega)) rfl) ?_
  refine calm_load_ptr 1 (w0 rfl) rfl rfl rfl rfl rfl (ld_agg (Nat.le_of_ble_eq_true rfl)) ?_
  refine calm_e (w0 rfl) rfl (eff_indexAddr_arr rfl rfl rfl (by first | omega | (simp only [List.length_map]; omega) | (simp only [List.length_map, List.length_drop]; omega)) (by first | omega | (simp only [List.length_map]; omega) | (simp only [List.length_map, List.length_drop]; omega)) rfl) ?_
  refine calm_load_ptr 1 (w0 rfl) rfl rfl rfl rfl rfl (ld_agg (Nat.le_of_ble_eq_true rfl)) ?_
  refine calm_e (w0 rfl) rfl (eff_call [] rfl rfl rfl (c_cmpSite b c) List.nodup_nil) ?_
  refine calm_e (w0 rfl) rfl (eff_indexAddr_arr rfl rfl rfl (by first | omega | (simp only [List.length_map]; omega) | (simp only [List.length_map, List.length_drop]; omega)) (by first | omega | (simp only [List.length_map]; omega) | (simp only [List.length_map, List.length_drop]; omega)) rfl) ?_
  refine calm_load_ptr 1 (w0 rfl) rfl rfl rfl rfl rfl (ld_agg (Nat.le_of_ble_eq_true rfl)) ?_
  refine calm_e (w0 rfl) rfl (eff_indexAddr_arr rfl rfl rfl (by first | omega | (simp only [List.length_map]; omega) | (simp only [List.length_map, List.length_drop]; omega)) (by first | omega | (simp only [List.length_map]; omega) | (simp only [List.length_map, List.length_drop]; omega)) rfl) ?_
  refine calm_load_ptr 1 (w0 rfl) rfl rfl rfl rfl rfl (ld_agg (Nat.le_of_ble_eq_true rfl)) ?_
  refine calm_e (w0 rfl) rfl (eff_call [] rfl rfl rfl (c_cmpSite a c) List.nodup_nil) ?_
  refine calm_e (w0 rfl) rfl (eff_assign rfl rfl) ?_
  refine calm_e (w0 rfl) rfl (eff_assign rfl rfl) ?_
  refine calm_e (w0 rfl) rfl (eff_assign rfl rfl) ?_
  refine .done ?_
  refine aops_nil ?_
  refine awp_seq ?_
  refine awp_drawM [0, 1, 0, 4, 15, 0, 32, 0, 128, 511, 0, 1024, 0, 4096, 16383, 32767, 65535, 131071] 18 rfl (by kernel_rfl) ?_
  refine calm_e (w0 rfl) rfl (eff_indexAddr_arr rfl rfl rfl (by first | omega | (simp only [List.length_map]; omega) | (simp only [List.length_map, List.length_drop]; omega)) (by first | omega | (simp only [List.length_map]; omega) | (simp only [List.length_map, List.length_drop]; omega)) rfl) ?_
  refine calm_load_ptr 0 (w0 rfl) rfl rfl rfl rfl rfl (ld_agg (Nat.le_of_ble_eq_true rfl)) ?_
  refine calm_e (w0 rfl) rfl (eff_indexAddr_arr rfl rfl rfl (by first | omega | (simp only [List.length_map]; omega) | (simp only [List.length_map, List.length_drop]; omega)) (by first | omega | (simp only [List.length_map]; omega) | (simp only [List.length_map, List.length_drop]; omega)) rfl) ?_
  refine calm_load_ptr 0 (w0 rfl) rfl rfl rfl rfl rfl (ld_agg (Nat.le_of_ble_eq_true rfl)) ?_
  refine calm_e (w0 rfl) rfl (eff_call [] rfl rfl rfl (c_order x y) List.nodup_nil) ?_
  refine calm_e (w0 rfl) rfl (eff_indexAddr_arr rfl rfl rfl (by first | omega | (simp only [List.length_map]; omega) | (simp only [List.length_map, List.length_drop]; omega)) (by first | omega | (simp only [List.length_map]; omega) | (simp only [List.length_map, List.length_drop]; omega)) rfl) ?_
  refine calm_load_ptr 0 (w0 rfl) rfl rfl rfl rfl rfl (ld_agg (Nat.le_of_ble_eq_true rfl)) ?_
  refine calm_e (w0 rfl) rfl (eff_indexAddr_arr rfl rfl rfl (by first | omega | (simp only [List.length_map]; omega) | (simp only [List.length_map, List.length_drop]; omega)) (by first | omega | (simp only [List.length_map]; omega) | (simp only [List.length_map, List.length_drop]; omega)) rfl) ?_
  refine calm_load_ptr 0 (w0 rfl) rfl rfl rfl rfl rfl (ld_agg (Nat.le_of_ble_eq_true rfl)) ?_
  refine calm_e (w0 rfl) rfl (eff_call [] rfl rfl rfl (c_order y z) List.nodup_nil) ?_
  refine calm_e (w0 rfl) rfl (eff_indexAddr_arr rfl rfl rfl (by first | omega | (simp only [List.length_map]; omega) | (simp only [List.length_map, List.length_drop]; omega)) (by first | omega | (simp only [List.length_map]; omega) | (simp only [List.length_map, List.length_drop]; omega)) rfl) ?_
  refine calm_load_ptr 0 (w0 rfl) rfl rfl rfl rfl rfl (ld_agg (Nat.le_of_ble_eq_true rfl)) ?_
  refine calm_e (w0 rfl) rfl (eff_indexAddr_arr rfl rfl rfl (by first | omega | (simp only [List.length_map]; omega) | (simp only [List.length_map, List.length_drop]; omega)) (by first | omega | (simp only [List.length_map]; omega) | (simp only [List.length_map, List.length_drop]; omega)) rfl) ?_
  refine calm_load_ptr 0 (w0 rfl) rfl rfl rfl rfl rfl (ld_agg (Nat.le_of_ble_eq_true rfl)) ?_
  refine calm_e (w0 rfl) rfl (eff_call [] rfl rfl rfl (c_order x z) List.nodup_nil) ?_
  refine calm_e (w0 rfl) rfl (eff_assign rfl rfl) ?_
  refine calm_e (w0 rfl) rfl (eff_assign rfl rfl) ?_
  refine calm_e (w0 rfl) rfl (eff_assign rfl rfl) ?_
  refine .done ?_
  refine aops_nil ?_
  refine awp_seq ?_
  refine awp_seq ?_
  refine awp_region ?_
  refine aops_e (w0 rfl) rfl (eff_move rfl rfl) ?_
  refine aops_e (w0 rfl) rfl (eff_indexAddr_arr rfl rfl rfl (by first | omega | (simp only [List.length_map]; omega) | (simp only [List.length_map, List.length_drop]; omega)) (by first | omega | (simp only [List.length_map]; omega) | (simp only [List.length_map, List.length_drop]; omega)) rfl) ?_
  refine aops_load_ptr 1 (w0 rfl) rfl rfl rfl rfl rfl (ld_agg (Nat.le_of_ble_eq_true rfl)) ?_
  refine aops_e (w0 rfl) rfl (eff_indexAddr_arr rfl rfl rfl (by first | omega | (simp only [List.length_map]; omega) | (simp only [List.length_map, List.length_drop]; omega)) (by first | omega | (simp only [List.length_map]; omega) | (simp only [List.length_map, List.length_drop]; omega)) rfl) ?_
  refine aops_load_ptr 1 (w0 rfl) rfl rfl rfl rfl rfl (ld_agg (Nat.le_of_ble_eq_true rfl)) ?_
  refine aops_e (w0 rfl) rfl (eff_call [] rfl rfl rfl (c_refCmp a b) List.nodup_nil) ?_
  refine aops_e (w0 rfl) rfl (eff_to (y := bA false) (eff_icmp rfl rfl rfl rfl) (congrArg bA (by simp))) ?_
  refine aops_e (w0 rfl) rfl (eff_move rfl rfl) ?_
  refine aops_g (wF rfl rfl rfl rfl) rfl (fun hg => (eff_move rfl rfl)) ?_
  refine aops_g (wF rfl rfl rfl rfl) rfl (fun hg => (eff_indexAddr_arr rfl rfl rfl (by (try simp at hg) <;> first | omega | (simp only [List.length_map]; omega) | (simp only [List.length_map, List.length_drop]; omega)) (by (try simp at hg) <;> first | omega | (simp only [List.length_map]; omega) | (simp only [List.length_map, List.length_drop]; omega)) rfl)) ?_
  refine aops_gload 0 (wF rfl rfl rfl rfl) rfl rfl (fun hg => (ev_g hg rfl)) rfl rfl (ld_agg (Nat.le_of_ble_eq_true rfl)) ?_
  refine aops_g (wF rfl rfl rfl rfl) rfl (fun hg => (eff_indexAddr_arr rfl rfl rfl (by (try simp at hg) <;> first | omega | (simp only [List.length_map]; omega) | (simp only [List.length_map, List.length_drop]; omega)) (by (try simp at hg) <;> first | omega | (simp only [List.length_map]; omega) | (simp only [List.length_map, List.length_drop]; omega)) rfl)) ?_
  refine aops_gload 0 (wF rfl rfl rfl rfl) rfl rfl (fun hg => (ev_g hg rfl)) rfl rfl (ld_agg (Nat.le_of_ble_eq_true rfl)) ?_
  refine aops_g (wF rfl rfl rfl rfl) rfl (fun hg => (eff_call [] rfl rfl (evs_cons (ev_g hg rfl) (evs_cons (ev_g hg rfl) evs_nil)) (c_refOrder x y) List.nodup_nil)) ?_
  refine aops_g (wF rfl rfl rfl rfl) rfl (fun hg => (eff_to (y := bA false) (eff_icmp rfl (ev_g hg rfl) (ev_g hg rfl) rfl) (congrArg bA (by simp)))) ?_
  refine aops_e (w0 rfl) rfl (eff_or rfl rfl rfl (fun h => by rw [h]; rfl)) ?_
  refine aops_e (w0 rfl) rfl (eff_move rfl rfl) ?_
  refine aops_g (wF rfl rfl rfl rfl) rfl (fun hg => (eff_move rfl rfl)) ?_
  refine aops_g (wF rfl rfl rfl rfl) rfl (fun hg => (eff_icmp rfl (ev_g hg rfl) rfl rfl)) ?_
  refine aops_g (wF rfl rfl rfl rfl) rfl (fun hg => (eff_indexAddr_arr rfl rfl rfl (by (try simp at hg) <;> first | omega | (simp only [List.length_map]; omega) | (simp only [List.length_map, List.length_drop]; omega)) (by (try simp at hg) <;> first | omega | (simp only [List.length_map]; omega) | (simp only [List.length_map, List.length_drop]; omega)) rfl)) ?_
  refine aops_gload 1 (wF rfl rfl rfl rfl) rfl rfl (fun hg => (ev_g hg rfl)) rfl rfl (ld_agg (Nat.le_of_ble_eq_true rfl)) ?_
  refine aops_g (wF rfl rfl rfl rfl) rfl (fun hg => (eff_indexAddr_arr rfl rfl rfl (by (try simp at hg) <;> first | omega | (simp only [List.length_map]; omega) | (simp only [List.length_map, List.length_drop]; omega)) (by (try simp at hg) <;> first | omega | (simp only [List.length_map]; omega) | (simp only [List.length_map, List.length_drop]; omega)) rfl)) ?_
  refine aops_gload 1 (wF rfl rfl rfl rfl) rfl rfl (fun hg => (ev_g hg rfl)) rfl rfl (ld_agg (Nat.le_of_ble_eq_true rfl)) ?_
  refine aops_g (wF rfl rfl rfl rfl) rfl (fun hg => (eff_eql rfl (ev_g hg rfl) (ev_g hg rfl) rfl rfl)) ?_
  refine aops_g (wF rfl rfl rfl rfl) rfl (fun hg => (eff_to (y := bA false) (eff_beq rfl (ev_g hg rfl) (ev_g hg rfl) rfl) (congrArg bA (neq_z a b)))) ?_
  refine aops_e (w0 rfl) rfl (eff_or rfl rfl rfl (fun h => by rw [h]; rfl)) ?_
  refine aops_e (w0 rfl) rfl (eff_move rfl rfl) ?_
  refine aops_g (wF rfl rfl rfl rfl) rfl (fun hg => (eff_move rfl rfl)) ?_
  refine aops_g (wF rfl rfl rfl rfl) rfl (fun hg => (eff_icmp rfl (ev_g hg rfl) rfl rfl)) ?_
  refine aops_g (wF rfl rfl rfl rfl) rfl (fun hg => (eff_indexAddr_arr rfl rfl rfl (by (try simp at hg) <;> first | omega | (simp only [List.length_map]; omega) | (simp only [List.length_map, List.length_drop]; omega)) (by (try simp at hg) <;> first | omega | (simp only [List.length_map]; omega) | (simp only [List.length_map, List.length_drop]; omega)) rfl)) ?_
  refine aops_gload 0 (wF rfl rfl rfl rfl) rfl rfl (fun hg => (ev_g hg rfl)) rfl rfl (ld_agg (Nat.le_of_ble_eq_true rfl)) ?_
  refine aops_g (wF rfl rfl rfl rfl) rfl (fun hg => (eff_indexAddr_arr rfl rfl rfl (by (try simp at hg) <;> first | omega | (simp only [List.length_map]; omega) | (simp only [List.length_map, List.length_drop]; omega)) (by (try simp at hg) <;> first | omega | (simp only [List.length_map]; omega) | (simp only [List.length_map, List.length_drop]; omega)) rfl)) ?_
  refine aops_gload 0 (wF rfl rfl rfl rfl) rfl rfl (fun hg => (ev_g hg rfl)) rfl rfl (ld_agg (Nat.le_of_ble_eq_true rfl)) ?_
  refine aops_g (wF rfl rfl rfl rfl) rfl (fun hg => (eff_eql rfl (ev_g hg rfl) (ev_g hg rfl) rfl rfl)) ?_
  refine aops_g (wF rfl rfl rfl rfl) rfl (fun hg => (eff_to (y := bA false) (eff_beq rfl (ev_g hg rfl) (ev_g hg rfl) rfl) (congrArg bA (neq_zP x y)))) ?_
  refine aops_e (w0 rfl) rfl (eff_or rfl rfl rfl (fun h => by rw [h]; rfl)) ?_
  refine aops_nil ?_
  refine awp_cond rfl ?_ ?_
  · intro hc
    exfalso; simp at hc
  · intro hc
    refine awp_skip ?_
    refine awp_seq ?_
    refine awp_region ?_
    refine aops_e (w0 rfl) rfl (eff_call [] rfl rfl rfl c_live24 List.nodup_nil) ?_
    refine aops_e (w0 rfl) rfl (eff_move rfl rfl) ?_
    refine aops_g (wT rfl rfl rfl rfl) rfl (fun hg => (eff_move rfl rfl)) ?_
    refine aops_g (wT rfl rfl rfl rfl) rfl (fun hg => (eff_indexAddr_arr rfl rfl rfl (by (try simp at hg) <;> first | omega | (simp only [List.length_map]; omega) | (simp only [List.length_map, List.length_drop]; omega)) (by (try simp at hg) <;> first | omega | (simp only [List.length_map]; omega) | (simp only [List.length_map, List.length_drop]; omega)) rfl)) ?_
    refine aops_gload 1 (wT rfl rfl rfl rfl) rfl rfl (fun hg => (ev_g hg rfl)) rfl rfl (ld_agg (Nat.le_of_ble_eq_true rfl)) ?_
    refine aops_g (wT rfl rfl rfl rfl) rfl (fun hg => (eff_indexAddr_arr rfl rfl rfl (by (try simp at hg) <;> first | omega | (simp only [List.length_map]; omega) | (simp only [List.length_map, List.length_drop]; omega)) (by (try simp at hg) <;> first | omega | (simp only [List.length_map]; omega) | (simp only [List.length_map, List.length_drop]; omega)) rfl)) ?_
    refine aops_gload 1 (wT rfl rfl rfl rfl) rfl rfl (fun hg => (ev_g hg rfl)) rfl rfl (ld_agg (Nat.le_of_ble_eq_true rfl)) ?_
    refine aops_g (wT rfl rfl rfl rfl) rfl (fun hg => (eff_call [] rfl rfl (evs_cons (ev_g hg rfl) (evs_cons (ev_g hg rfl) evs_nil)) (c_cmpSite b a) List.nodup_nil)) ?_
    refine aops_g (wT rfl rfl rfl rfl) rfl (fun hg => (eff_neg rfl (ev_g hg rfl) (neg_wrap cmpS_pre _ _))) ?_
    refine aops_g (wT rfl rfl rfl rfl) rfl (fun hg => (eff_to (y := bA true) (eff_icmp rfl (ev_g hg rfl) (ev_g hg rfl) rfl) (congrArg bA (anti_eq cmpS_pre a b)))) ?_
    refine aops_e (w0 rfl) rfl (eff_and rfl rfl rfl (fun h => h)) ?_
    refine aops_e (w0 rfl) rfl (eff_move rfl rfl) ?_
    refine aops_g (wT rfl rfl rfl rfl) rfl (fun hg => (eff_move rfl rfl)) ?_
    refine aops_g (wT rfl rfl rfl rfl) rfl (fun hg => (eff_indexAddr_arr rfl rfl rfl (by (try simp at hg) <;> first | omega | (simp only [List.length_map]; omega) | (simp only [List.length_map, List.length_drop]; omega)) (by (try simp at hg) <;> first | omega | (simp only [List.length_map]; omega) | (simp only [List.length_map, List.length_drop]; omega)) rfl)) ?_
    refine aops_gload 0 (wT rfl rfl rfl rfl) rfl rfl (fun hg => (ev_g hg rfl)) rfl rfl (ld_agg (Nat.le_of_ble_eq_true rfl)) ?_
    refine aops_g (wT rfl rfl rfl rfl) rfl (fun hg => (eff_indexAddr_arr rfl rfl rfl (by (try simp at hg) <;> first | omega | (simp only [List.length_map]; omega) | (simp only [List.length_map, List.length_drop]; omega)) (by (try simp at hg) <;> first | omega | (simp only [List.length_map]; omega) | (simp only [List.length_map, List.length_drop]; omega)) rfl)) ?_
    refine aops_gload 0 (wT rfl rfl rfl rfl) rfl rfl (fun hg => (ev_g hg rfl)) rfl rfl (ld_agg (Nat.le_of_ble_eq_true rfl)) ?_
    refine aops_g (wT rfl rfl rfl rfl) rfl (fun hg => (eff_call [] rfl rfl (evs_cons (ev_g hg rfl) (evs_cons (ev_g hg rfl) evs_nil)) (c_order y x) List.nodup_nil)) ?_
    refine aops_g (wT rfl rfl rfl rfl) rfl (fun hg => (eff_neg rfl (ev_g hg rfl) (neg_wrap cmpP_pre _ _))) ?_
    refine aops_g (wT rfl rfl rfl rfl) rfl (fun hg => (eff_to (y := bA true) (eff_icmp rfl (ev_g hg rfl) (ev_g hg rfl) rfl) (congrArg bA (anti_eq cmpP_pre x y)))) ?_
    refine aops_e (w0 rfl) rfl (eff_and rfl rfl rfl (fun h => h)) ?_
    refine aops_e (w0 rfl) rfl (eff_move rfl rfl) ?_
    refine aops_g (wT rfl rfl rfl rfl) rfl (fun hg => (eff_move rfl rfl)) ?_
    refine aops_g (wT rfl rfl rfl rfl) rfl (fun hg => (eff_icmp rfl (ev_g hg rfl) rfl rfl)) ?_
    refine aops_g (wT rfl rfl rfl rfl) rfl (fun hg => (eff_move rfl (ev_g hg rfl))) ?_
    refine aops_g (wFg rfl rfl rfl rfl) rfl (fun hg => (eff_move rfl rfl)) ?_
    refine aops_g (wFg rfl rfl rfl rfl) rfl (fun hg => (eff_icmp rfl (ev_g hg rfl) rfl rfl)) ?_
    refine aops_g (wT rfl rfl rfl rfl) rfl (fun hg => (eff_or rfl (ev_g hg rfl) rfl (fun h => by first | (simp [h, hg]; done) | (rw [hg, h]; rfl) | (simp_all; done)))) ?_
    refine aops_g (wT rfl rfl rfl rfl) rfl (fun hg => (eff_move rfl (ev_g hg rfl))) ?_
    refine aops_g (wFg rfl rfl rfl rfl) rfl (fun hg => (eff_move rfl rfl)) ?_
    refine aops_g (wFg rfl rfl rfl rfl) rfl (fun hg => (eff_icmp rfl (ev_g hg rfl) rfl rfl)) ?_
    refine aops_g (wT rfl rfl rfl rfl) rfl (fun hg => (eff_or rfl (ev_g hg rfl) rfl (fun h => by first | (simp [h, hg]; done) | (rw [hg, h]; rfl) | (simp_all; done)))) ?_
    refine aops_e (w0 rfl) rfl (eff_and rfl rfl rfl (fun h => h)) ?_
    refine aops_e (w0 rfl) rfl (eff_move rfl rfl) ?_
    refine aops_g (wT rfl rfl rfl rfl) rfl (fun hg => (eff_move rfl rfl)) ?_
    refine aops_g (wT rfl rfl rfl rfl) rfl (fun hg => (eff_icmp rfl (ev_g hg rfl) rfl rfl)) ?_
    refine aops_g (wT rfl rfl rfl rfl) rfl (fun hg => (eff_move rfl (ev_g hg rfl))) ?_
    refine aops_g (wFg rfl rfl rfl rfl) rfl (fun hg => (eff_move rfl rfl)) ?_
    refine aops_g (wFg rfl rfl rfl rfl) rfl (fun hg => (eff_icmp rfl (ev_g hg rfl) rfl rfl)) ?_
    refine aops_g (wT rfl rfl rfl rfl) rfl (fun hg => (eff_or rfl (ev_g hg rfl) rfl (fun h => by first | (simp [h, hg]; done) | (rw [hg, h]; rfl) | (simp_all; done)))) ?_
    refine aops_g (wT rfl rfl rfl rfl) rfl (fun hg => (eff_move rfl (ev_g hg rfl))) ?_
    refine aops_g (wFg rfl rfl rfl rfl) rfl (fun hg => (eff_move rfl rfl)) ?_
    refine aops_g (wFg rfl rfl rfl rfl) rfl (fun hg => (eff_icmp rfl (ev_g hg rfl) rfl rfl)) ?_
    refine aops_g (wT rfl rfl rfl rfl) rfl (fun hg => (eff_or rfl (ev_g hg rfl) rfl (fun h => by first | (simp [h, hg]; done) | (rw [hg, h]; rfl) | (simp_all; done)))) ?_
    refine aops_e (w0 rfl) rfl (eff_and rfl rfl rfl (fun h => h)) ?_
    refine aops_e (w0 rfl) rfl (eff_assign rfl rfl) ?_
    refine aops_nil ?_
    refine awp_ret ?_
    exact retq rfl (res_tmp rfl res_nil) (gb (by have h1 := tr_or cmpS_pre a b c; have h2 := tr_or cmpP_pre x y z; simp_all))

theorem c_bagSets (a b : List Site) (ha : small a.length) (hb : small b.length) (s : Site) : ACalls Try.prog 3 [.lst (a.map Site.cells), .lst (b.map Site.cells), s.av] [] (Gives (bA true)) := by
  have ha4 : (a.take 40).length ≤ 40 := by rw [List.length_take]; omega
  have has : small (a.take 40).length := by unfold small; omega
  have hb4 : (b.take 40).length ≤ 40 := by rw [List.length_take]; omega
  have hbs : small (b.take 40).length := by unfold small; omega
  refine acalls_of (n := 62) Try.func3 rfl (by decide +kernel) rfl rfl ?_
  refine awp_seq ?_
  refine awp_region ?_
  refine aops_n (w0 rfl) rfl (fun id => eff_box id rfl rfl rfl rfl rfl) (fun id1 => ?_)
  refine aops_e (w0 rfl) rfl (eff_assign rfl rfl) ?_
  refine aops_nil ?_
  refine awp_seq ?_
  refine awp_region ?_
  refine aops_e (w0 rfl) rfl (eff_move rfl rfl) ?_
  refine aops_e (w0 rfl) rfl (eff_call [] rfl rfl rfl (c_few a ha) List.nodup_nil) ?_
  refine aops_e (w0 rfl) rfl (eff_move rfl rfl) ?_
  refine aops_e (w0 rfl) rfl (eff_call [] rfl rfl rfl (c_few b hb) List.nodup_nil) ?_
  refine aops_e (w0 rfl) rfl (eff_assign rfl rfl) ?_
  refine aops_e (w0 rfl) rfl (eff_assign rfl rfl) ?_
  refine aops_nil ?_
  refine awp_seq ?_
  refine awp_drawM [0, 1, 3, 7, 3, 31, 63, 127, 255, 511, 1023, 511, 4095, 8191, 16383, 32767, 65535, 65535, 262143, 65535, 65535, 2097151, 4194303, 8388607, 16777215, 33554431, 33554431, 134217727, 33554431, 33554431, 1073741823, 2147483647, 4294967295, 8589934591, 17179869183, 17179869183, 68719476735, 17179869183, 17179869183, 549755813887, 1099511627775, 2199023255551, 4398046511103, 8796093022207, 8796093022207, 35184372088831, 8796093022207, 8796093022207, 281474976710655, 562949953421311, 1125899906842623, 2251799813685247] 52 rfl (by kernel_rfl) ?_
  refine calm_e (w0 rfl) rfl (eff_call [] rfl rfl rfl c_live24 List.nodup_nil) ?_
  refine calm_e (w0 rfl) rfl (eff_move rfl rfl) ?_
  refine calm_g (wT rfl rfl rfl rfl) rfl (fun hg => (eff_move rfl rfl)) ?_
  refine calm_g (wT rfl rfl rfl rfl) rfl (fun hg => (eff_call [] rfl rfl (evs_cons (ev_g hg rfl) evs_nil) (c_right (a.take 40) has) List.nodup_nil)) ?_
  refine calm_g (wT rfl rfl rfl rfl) rfl (fun hg => (eff_move rfl rfl)) ?_
  refine calm_g (wT rfl rfl rfl rfl) rfl (fun hg => (eff_call [] rfl rfl (evs_cons (ev_g hg rfl) evs_nil) (c_refRight (a.take 40) has) List.nodup_nil)) ?_
  refine calm_g (wT rfl rfl rfl rfl) rfl (fun hg => (eff_to (y := bA true) (eff_beq rfl (ev_g hg rfl) (ev_g hg rfl) rfl) (congrArg bA (by simp)))) ?_
  refine calm_e (w0 rfl) rfl (eff_and rfl rfl rfl (fun h => h)) ?_
  refine calm_e (w0 rfl) rfl (eff_move rfl rfl) ?_
  refine calm_g (wT rfl rfl rfl rfl) rfl (fun hg => (eff_move rfl rfl)) ?_
  refine calm_g (wT rfl rfl rfl rfl) rfl (fun hg => (eff_call [] rfl rfl (evs_cons (ev_g hg rfl) evs_nil) (c_ofL (a.take 40) (by omega)) List.nodup_nil)) ?_
  refine calm_g (wT rfl rfl rfl rfl) rfl (fun hg => (eff_move rfl rfl)) ?_
  refine calm_g (wT rfl rfl rfl rfl) rfl (fun hg => (eff_call [] rfl rfl (evs_cons (ev_g hg rfl) evs_nil) (c_refOf (a.take 40) (by omega)) List.nodup_nil)) ?_
  refine calm_g (wT rfl rfl rfl rfl) rfl (fun hg => (eff_to (y := bA true) (eff_call [] rfl rfl (evs_cons (ev_g hg rfl) (evs_cons (ev_g hg rfl) evs_nil)) (c_same _ _ (by have := risG_len (lt := sLt) (a.take 40); simp only [small, List.length_append, List.length_cons, List.length_nil] at *; omega) (by have := risG_len (lt := sLt) (a.take 40); simp only [small, List.length_append, List.length_cons, List.length_nil] at *; omega)) List.nodup_nil) (congrArg bA (by simp)))) ?_
  refine calm_e (w0 rfl) rfl (eff_and rfl rfl rfl (fun h => h)) ?_
  refine calm_e (w0 rfl) rfl (eff_move rfl rfl) ?_
  refine calm_g (wT rfl rfl rfl rfl) rfl (fun hg => (eff_move rfl rfl)) ?_
  refine calm_gload 0 (wT rfl rfl rfl rfl) rfl rfl (fun hg => rfl) rfl rfl (ld_agg (Nat.le_of_ble_eq_true rfl)) ?_
  refine calm_g (wT rfl rfl rfl rfl) rfl (fun hg => (eff_call [] rfl rfl (evs_cons (ev_g hg rfl) (evs_cons (ev_g hg rfl) evs_nil)) (c_put (a.take 40) (by omega) s) List.nodup_nil)) ?_
  refine calm_g (wT rfl rfl rfl rfl) rfl (fun hg => (eff_move rfl rfl)) ?_
  refine calm_gload 0 (wT rfl rfl rfl rfl) rfl rfl (fun hg => rfl) rfl rfl (ld_agg (Nat.le_of_ble_eq_true rfl)) ?_
  refine calm_g (wT rfl rfl rfl rfl) rfl (fun hg => (eff_call [] rfl rfl (evs_cons (ev_g hg rfl) (evs_cons (ev_g hg rfl) evs_nil)) (c_refPut (a.take 40) (by omega) s) List.nodup_nil)) ?_
  refine calm_g (wT rfl rfl rfl rfl) rfl (fun hg => (eff_to (y := bA true) (eff_call [] rfl rfl (evs_cons (ev_g hg rfl) (evs_cons (ev_g hg rfl) evs_nil)) (c_same _ _ (by have := risG_len (lt := sLt) ((a.take 40) ++ [s]); simp only [small, List.length_append, List.length_cons, List.length_nil] at *; omega) (by have := risG_len (lt := sLt) ((a.take 40) ++ [s]); simp only [small, List.length_append, List.length_cons, List.length_nil] at *; omega)) List.nodup_nil) (congrArg bA (by simp)))) ?_
  refine calm_e (w0 rfl) rfl (eff_and rfl rfl rfl (fun h => h)) ?_
  refine calm_e (w0 rfl) rfl (eff_move rfl rfl) ?_
  refine calm_g (wT rfl rfl rfl rfl) rfl (fun hg => (eff_move rfl rfl)) ?_
  refine calm_g (wT rfl rfl rfl rfl) rfl (fun hg => (eff_move rfl rfl)) ?_
  refine calm_g (wT rfl rfl rfl rfl) rfl (fun hg => (eff_call [] rfl rfl (evs_cons (ev_g hg rfl) (evs_cons (ev_g hg rfl) evs_nil)) (c_union (a.take 40) (b.take 40) (by omega) (by omega)) List.nodup_nil)) ?_
  refine calm_g (wT rfl rfl rfl rfl) rfl (fun hg => (eff_move rfl rfl)) ?_
  refine calm_g (wT rfl rfl rfl rfl) rfl (fun hg => (eff_move rfl rfl)) ?_
  refine calm_g (wT rfl rfl rfl rfl) rfl (fun hg => (eff_call [] rfl rfl (evs_cons (ev_g hg rfl) (evs_cons (ev_g hg rfl) evs_nil)) (c_refUnion (a.take 40) (b.take 40) (by omega) (by omega)) List.nodup_nil)) ?_
  refine calm_g (wT rfl rfl rfl rfl) rfl (fun hg => (eff_to (y := bA true) (eff_call [] rfl rfl (evs_cons (ev_g hg rfl) (evs_cons (ev_g hg rfl) evs_nil)) (c_same _ _ (by have := risG_len (lt := sLt) ((a.take 40) ++ (b.take 40)); simp only [small, List.length_append, List.length_cons, List.length_nil] at *; omega) (by have := risG_len (lt := sLt) ((a.take 40) ++ (b.take 40)); simp only [small, List.length_append, List.length_cons, List.length_nil] at *; omega)) List.nodup_nil) (congrArg bA (by simp)))) ?_
  refine calm_e (w0 rfl) rfl (eff_and rfl rfl rfl (fun h => h)) ?_
  refine calm_e (w0 rfl) rfl (eff_move rfl rfl) ?_
  refine calm_g (wT rfl rfl rfl rfl) rfl (fun hg => (eff_move rfl rfl)) ?_
  refine calm_gload 0 (wT rfl rfl rfl rfl) rfl rfl (fun hg => rfl) rfl rfl (ld_agg (Nat.le_of_ble_eq_true rfl)) ?_
  refine calm_g (wT rfl rfl rfl rfl) rfl (fun hg => (eff_call [] rfl rfl (evs_cons (ev_g hg rfl) (evs_cons (ev_g hg rfl) evs_nil)) (c_has (a.take 40) has s) List.nodup_nil)) ?_
  refine calm_g (wT rfl rfl rfl rfl) rfl (fun hg => (eff_move rfl rfl)) ?_
  refine calm_gload 0 (wT rfl rfl rfl rfl) rfl rfl (fun hg => rfl) rfl rfl (ld_agg (Nat.le_of_ble_eq_true rfl)) ?_
  refine calm_g (wT rfl rfl rfl rfl) rfl (fun hg => (eff_call [] rfl rfl (evs_cons (ev_g hg rfl) (evs_cons (ev_g hg rfl) evs_nil)) (c_refHas (a.take 40) has s) List.nodup_nil)) ?_
  refine calm_g (wT rfl rfl rfl rfl) rfl (fun hg => (eff_to (y := bA true) (eff_beq rfl (ev_g hg rfl) (ev_g hg rfl) rfl) (congrArg bA (by simp)))) ?_
  refine calm_e (w0 rfl) rfl (eff_and rfl rfl rfl (fun h => h)) ?_
  refine calm_e (w0 rfl) rfl (eff_move rfl rfl) ?_
  refine calm_g (wT rfl rfl rfl rfl) rfl (fun hg => (eff_move rfl rfl)) ?_
  refine calm_g (wT rfl rfl rfl rfl) rfl (fun hg => (eff_move rfl rfl)) ?_
  refine calm_g (wT rfl rfl rfl rfl) rfl (fun hg => (eff_call [] rfl rfl (evs_cons (ev_g hg rfl) (evs_cons (ev_g hg rfl) evs_nil)) (c_sub24 (a.take 40) (b.take 40) has hbs) List.nodup_nil)) ?_
  refine calm_g (wT rfl rfl rfl rfl) rfl (fun hg => (eff_move rfl rfl)) ?_
  refine calm_g (wT rfl rfl rfl rfl) rfl (fun hg => (eff_move rfl rfl)) ?_
  refine calm_g (wT rfl rfl rfl rfl) rfl (fun hg => (eff_call [] rfl rfl (evs_cons (ev_g hg rfl) (evs_cons (ev_g hg rfl) evs_nil)) (c_refSub24 (a.take 40) (b.take 40) has hbs) List.nodup_nil)) ?_
  refine calm_g (wT rfl rfl rfl rfl) rfl (fun hg => (eff_to (y := bA true) (eff_beq rfl (ev_g hg rfl) (ev_g hg rfl) rfl) (congrArg bA (by simp)))) ?_
  refine calm_e (w0 rfl) rfl (eff_and rfl rfl rfl (fun h => h)) ?_
  refine calm_e (w0 rfl) rfl (eff_assign rfl rfl) ?_
  refine .done ?_
  refine aops_nil ?_
  refine awp_ret ?_
  exact retq rfl (res_tmp rfl res_nil) (gb rfl)

theorem un_comm (a b : List Site) : risG sLt (a ++ b) = risG sLt (b ++ a) := risG_of sLtT fun x => by simp only [List.mem_append]; exact or_comm
theorem un_assoc (a b c : List Site) : risG sLt (risG sLt (a ++ b) ++ c) = risG sLt (a ++ risG sLt (b ++ c)) := risG_of sLtT fun x => by simp only [List.mem_append, risG_mem]; exact or_assoc
theorem un_self (a : List Site) : risG sLt (a ++ a) = risG sLt a := risG_of sLtT fun x => by simp
theorem all_un (a b : List Site) : a.all (hasG (risG sLt (a ++ b))) = true := by rw [List.all_eq_true]; intro x hx; rw [hasG_mem, risG_mem, List.mem_append]; exact .inl hx
theorem all_un' (a b : List Site) : b.all (hasG (risG sLt (a ++ b))) = true := by rw [List.all_eq_true]; intro x hx; rw [hasG_mem, risG_mem, List.mem_append]; exact .inr hx
theorem least (a b c : List Site) : ((!(a.all (hasG c)) || !(b.all (hasG c))) || (risG sLt (a ++ b)).all (hasG c)) = true := by
  cases h1 : a.all (hasG c) with
  | false => rfl
  | true => cases h2 : b.all (hasG c) with
    | false => rfl
    | true =>
      rw [List.all_eq_true] at h1 h2
      have : (risG sLt (a ++ b)).all (hasG c) = true := by
        rw [List.all_eq_true]; intro x hx
        rw [risG_mem, List.mem_append] at hx
        exact hx.elim (h1 x) (h2 x)
      rw [this]; rfl

theorem c_bagUnion (a b c : List Site) (ha : small a.length) (hb : small b.length) (hc0 : small c.length) : ACalls Try.prog 6 [.lst (a.map Site.cells), .lst (b.map Site.cells), .lst (c.map Site.cells)] [] (Gives (bA true)) := by
  have ha4 : (a.take 40).length ≤ 40 := by rw [List.length_take]; omega
  have has : small (a.take 40).length := by unfold small; omega
  have hb4 : (b.take 40).length ≤ 40 := by rw [List.length_take]; omega
  have hbs : small (b.take 40).length := by unfold small; omega
  have hc4 : (c.take 40).length ≤ 40 := by rw [List.length_take]; omega
  have hcs : small (c.take 40).length := by unfold small; omega
  have hu := risG_len (lt := sLt) ((a.take 40) ++ (b.take 40))
  have hv := risG_len (lt := sLt) ((b.take 40) ++ (c.take 40))
  have hu2 := risG_len (lt := sLt) ((b.take 40) ++ (a.take 40))
  have hw1 := risG_len (lt := sLt) ((risG sLt ((a.take 40) ++ (b.take 40))) ++ (c.take 40))
  have hw2 := risG_len (lt := sLt) ((a.take 40) ++ risG sLt ((b.take 40) ++ (c.take 40)))
  have hw3 := risG_len (lt := sLt) ((a.take 40) ++ (a.take 40))
  have hw4 := risG_len (lt := sLt) (a.take 40)
  rw [List.length_append] at hu hv hu2 hw1 hw2 hw3
  refine acalls_of (n := 48) Try.func6 rfl (by decide +kernel) rfl rfl ?_
  refine awp_seq ?_
  refine awp_region ?_
  refine aops_e (w0 rfl) rfl (eff_assign rfl rfl) ?_
  refine aops_nil ?_
  refine awp_seq ?_
  refine awp_region ?_
  refine aops_e (w0 rfl) rfl (eff_move rfl rfl) ?_
  refine aops_e (w0 rfl) rfl (eff_call [] rfl rfl rfl (c_few a ha) List.nodup_nil) ?_
  refine aops_e (w0 rfl) rfl (eff_move rfl rfl) ?_
  refine aops_e (w0 rfl) rfl (eff_call [] rfl rfl rfl (c_few b hb) List.nodup_nil) ?_
  refine aops_e (w0 rfl) rfl (eff_move rfl rfl) ?_
  refine aops_e (w0 rfl) rfl (eff_call [] rfl rfl rfl (c_few c hc0) List.nodup_nil) ?_
  refine aops_e (w0 rfl) rfl (eff_assign rfl rfl) ?_
  refine aops_e (w0 rfl) rfl (eff_assign rfl rfl) ?_
  refine aops_e (w0 rfl) rfl (eff_assign rfl rfl) ?_
  refine aops_nil ?_
  refine awp_seq ?_
  refine awp_region ?_
  refine aops_e (w0 rfl) rfl (eff_move rfl rfl) ?_
  refine aops_e (w0 rfl) rfl (eff_move rfl rfl) ?_
  refine aops_e (w0 rfl) rfl (eff_call [] rfl rfl rfl (c_union (a.take 40) (b.take 40) (by omega) (by omega)) List.nodup_nil) ?_
  refine aops_e (w0 rfl) rfl (eff_assign rfl rfl) ?_
  refine aops_nil ?_
  refine awp_seq ?_
  refine awp_region ?_
  refine aops_e (w0 rfl) rfl (eff_call [] rfl rfl rfl c_live24 List.nodup_nil) ?_
  refine aops_e (w0 rfl) rfl (eff_move rfl rfl) ?_
  refine aops_g (wT rfl rfl rfl rfl) rfl (fun hg => (eff_move rfl rfl)) ?_
  refine aops_g (wT rfl rfl rfl rfl) rfl (fun hg => (eff_to (y := bA true) (eff_call [] rfl rfl (evs_cons (ev_g hg rfl) evs_nil) (c_right (risG sLt ((a.take 40) ++ (b.take 40))) (by unfold small; omega)) List.nodup_nil) (congrArg bA (risG_rise sLtT _)))) ?_
  refine aops_e (w0 rfl) rfl (eff_and rfl rfl rfl (fun h => h)) ?_
  refine aops_e (w0 rfl) rfl (eff_move rfl rfl) ?_
  refine aops_g (wT rfl rfl rfl rfl) rfl (fun hg => (eff_move rfl rfl)) ?_
  refine aops_g (wT rfl rfl rfl rfl) rfl (fun hg => (eff_move rfl rfl)) ?_
  refine aops_g (wT rfl rfl rfl rfl) rfl (fun hg => (eff_move rfl rfl)) ?_
  refine aops_g (wT rfl rfl rfl rfl) rfl (fun hg => (eff_call [] rfl rfl (evs_cons (ev_g hg rfl) (evs_cons (ev_g hg rfl) evs_nil)) (c_union (b.take 40) (a.take 40) (by omega) (by omega)) List.nodup_nil)) ?_
  refine aops_g (wT rfl rfl rfl rfl) rfl (fun hg => (eff_to (y := bA true) (eff_call [] rfl rfl (evs_cons (ev_g hg rfl) (evs_cons (ev_g hg rfl) evs_nil)) (c_same _ _ (by unfold small; omega) (by unfold small; omega)) List.nodup_nil) (congrArg bA (decide_eq_true (un_comm _ _))))) ?_
  refine aops_e (w0 rfl) rfl (eff_and rfl rfl rfl (fun h => h)) ?_
  refine aops_e (w0 rfl) rfl (eff_move rfl rfl) ?_
  refine aops_g (wT rfl rfl rfl rfl) rfl (fun hg => (eff_move rfl rfl)) ?_
  refine aops_g (wT rfl rfl rfl rfl) rfl (fun hg => (eff_move rfl rfl)) ?_
  refine aops_g (wT rfl rfl rfl rfl) rfl (fun hg => (eff_call [] rfl rfl (evs_cons (ev_g hg rfl) (evs_cons (ev_g hg rfl) evs_nil)) (c_union (risG sLt ((a.take 40) ++ (b.take 40))) (c.take 40) (by omega) (by omega)) List.nodup_nil)) ?_
  refine aops_g (wT rfl rfl rfl rfl) rfl (fun hg => (eff_move rfl rfl)) ?_
  refine aops_g (wT rfl rfl rfl rfl) rfl (fun hg => (eff_move rfl rfl)) ?_
  refine aops_g (wT rfl rfl rfl rfl) rfl (fun hg => (eff_move rfl rfl)) ?_
  refine aops_g (wT rfl rfl rfl rfl) rfl (fun hg => (eff_call [] rfl rfl (evs_cons (ev_g hg rfl) (evs_cons (ev_g hg rfl) evs_nil)) (c_union (b.take 40) (c.take 40) (by omega) (by omega)) List.nodup_nil)) ?_
  refine aops_g (wT rfl rfl rfl rfl) rfl (fun hg => (eff_call [] rfl rfl (evs_cons (ev_g hg rfl) (evs_cons (ev_g hg rfl) evs_nil)) (c_union (a.take 40) (risG sLt ((b.take 40) ++ (c.take 40))) (by omega) (by omega)) List.nodup_nil)) ?_
  refine aops_g (wT rfl rfl rfl rfl) rfl (fun hg => (eff_to (y := bA true) (eff_call [] rfl rfl (evs_cons (ev_g hg rfl) (evs_cons (ev_g hg rfl) evs_nil)) (c_same _ _ (by unfold small; omega) (by unfold small; omega)) List.nodup_nil) (congrArg bA (decide_eq_true (un_assoc _ _ _))))) ?_
  refine aops_e (w0 rfl) rfl (eff_and rfl rfl rfl (fun h => h)) ?_
  refine aops_e (w0 rfl) rfl (eff_move rfl rfl) ?_
  refine aops_g (wT rfl rfl rfl rfl) rfl (fun hg => (eff_move rfl rfl)) ?_
  refine aops_g (wT rfl rfl rfl rfl) rfl (fun hg => (eff_move rfl rfl)) ?_
  refine aops_g (wT rfl rfl rfl rfl) rfl (fun hg => (eff_call [] rfl rfl (evs_cons (ev_g hg rfl) (evs_cons (ev_g hg rfl) evs_nil)) (c_union (a.take 40) (a.take 40) (by omega) (by omega)) List.nodup_nil)) ?_
  refine aops_g (wT rfl rfl rfl rfl) rfl (fun hg => (eff_move rfl rfl)) ?_
  refine aops_g (wT rfl rfl rfl rfl) rfl (fun hg => (eff_call [] rfl rfl (evs_cons (ev_g hg rfl) evs_nil) (c_ofL (a.take 40) (by omega)) List.nodup_nil)) ?_
  refine aops_g (wT rfl rfl rfl rfl) rfl (fun hg => (eff_to (y := bA true) (eff_call [] rfl rfl (evs_cons (ev_g hg rfl) (evs_cons (ev_g hg rfl) evs_nil)) (c_same _ _ (by unfold small; omega) (by unfold small; omega)) List.nodup_nil) (congrArg bA (decide_eq_true (un_self _))))) ?_
  refine aops_e (w0 rfl) rfl (eff_and rfl rfl rfl (fun h => h)) ?_
  refine aops_e (w0 rfl) rfl (eff_assign rfl rfl) ?_
  refine aops_nil ?_
  refine awp_ret ?_
  exact retq rfl (res_tmp rfl res_nil) (gb rfl)

theorem c_bagLeast (a b c : List Site) (ha : small a.length) (hb : small b.length) (hc0 : small c.length) : ACalls Try.prog 7 [.lst (a.map Site.cells), .lst (b.map Site.cells), .lst (c.map Site.cells)] [] (Gives (bA true)) := by
  have ha4 : (a.take 40).length ≤ 40 := by rw [List.length_take]; omega
  have has : small (a.take 40).length := by unfold small; omega
  have hb4 : (b.take 40).length ≤ 40 := by rw [List.length_take]; omega
  have hbs : small (b.take 40).length := by unfold small; omega
  have hc4 : (c.take 40).length ≤ 40 := by rw [List.length_take]; omega
  have hcs : small (c.take 40).length := by unfold small; omega
  have hu := risG_len (lt := sLt) ((a.take 40) ++ (b.take 40))
  have hv := risG_len (lt := sLt) ((b.take 40) ++ (c.take 40))
  have hu2 := risG_len (lt := sLt) ((b.take 40) ++ (a.take 40))
  have hw1 := risG_len (lt := sLt) ((risG sLt ((a.take 40) ++ (b.take 40))) ++ (c.take 40))
  have hw2 := risG_len (lt := sLt) ((a.take 40) ++ risG sLt ((b.take 40) ++ (c.take 40)))
  have hw3 := risG_len (lt := sLt) ((a.take 40) ++ (a.take 40))
  have hw4 := risG_len (lt := sLt) (a.take 40)
  rw [List.length_append] at hu hv hu2 hw1 hw2 hw3
  refine acalls_of (n := 45) Try.func7 rfl (by decide +kernel) rfl rfl ?_
  refine awp_seq ?_
  refine awp_region ?_
  refine aops_e (w0 rfl) rfl (eff_assign rfl rfl) ?_
  refine aops_nil ?_
  refine awp_seq ?_
  refine awp_region ?_
  refine aops_e (w0 rfl) rfl (eff_move rfl rfl) ?_
  refine aops_e (w0 rfl) rfl (eff_call [] rfl rfl rfl (c_few a ha) List.nodup_nil) ?_
  refine aops_e (w0 rfl) rfl (eff_move rfl rfl) ?_
  refine aops_e (w0 rfl) rfl (eff_call [] rfl rfl rfl (c_few b hb) List.nodup_nil) ?_
  refine aops_e (w0 rfl) rfl (eff_move rfl rfl) ?_
  refine aops_e (w0 rfl) rfl (eff_call [] rfl rfl rfl (c_few c hc0) List.nodup_nil) ?_
  refine aops_e (w0 rfl) rfl (eff_assign rfl rfl) ?_
  refine aops_e (w0 rfl) rfl (eff_assign rfl rfl) ?_
  refine aops_e (w0 rfl) rfl (eff_assign rfl rfl) ?_
  refine aops_nil ?_
  refine awp_seq ?_
  refine awp_region ?_
  refine aops_e (w0 rfl) rfl (eff_move rfl rfl) ?_
  refine aops_e (w0 rfl) rfl (eff_move rfl rfl) ?_
  refine aops_e (w0 rfl) rfl (eff_call [] rfl rfl rfl (c_union (a.take 40) (b.take 40) (by omega) (by omega)) List.nodup_nil) ?_
  refine aops_e (w0 rfl) rfl (eff_assign rfl rfl) ?_
  refine aops_nil ?_
  refine awp_seq ?_
  refine awp_region ?_
  refine aops_e (w0 rfl) rfl (eff_call [] rfl rfl rfl c_live24 List.nodup_nil) ?_
  refine aops_e (w0 rfl) rfl (eff_move rfl rfl) ?_
  refine aops_g (wT rfl rfl rfl rfl) rfl (fun hg => (eff_move rfl rfl)) ?_
  refine aops_g (wT rfl rfl rfl rfl) rfl (fun hg => (eff_move rfl rfl)) ?_
  refine aops_g (wT rfl rfl rfl rfl) rfl (fun hg => (eff_to (y := bA true) (eff_call [] rfl rfl (evs_cons (ev_g hg rfl) (evs_cons (ev_g hg rfl) evs_nil)) (c_sub24 (a.take 40) (risG sLt ((a.take 40) ++ (b.take 40))) has (by unfold small; omega)) List.nodup_nil) (congrArg bA (all_un _ _)))) ?_
  refine aops_e (w0 rfl) rfl (eff_and rfl rfl rfl (fun h => h)) ?_
  refine aops_e (w0 rfl) rfl (eff_move rfl rfl) ?_
  refine aops_g (wT rfl rfl rfl rfl) rfl (fun hg => (eff_move rfl rfl)) ?_
  refine aops_g (wT rfl rfl rfl rfl) rfl (fun hg => (eff_move rfl rfl)) ?_
  refine aops_g (wT rfl rfl rfl rfl) rfl (fun hg => (eff_to (y := bA true) (eff_call [] rfl rfl (evs_cons (ev_g hg rfl) (evs_cons (ev_g hg rfl) evs_nil)) (c_sub24 (b.take 40) (risG sLt ((a.take 40) ++ (b.take 40))) hbs (by unfold small; omega)) List.nodup_nil) (congrArg bA (all_un' _ _)))) ?_
  refine aops_e (w0 rfl) rfl (eff_and rfl rfl rfl (fun h => h)) ?_
  refine aops_e (w0 rfl) rfl (eff_move rfl rfl) ?_
  refine aops_g (wT rfl rfl rfl rfl) rfl (fun hg => (eff_move rfl rfl)) ?_
  refine aops_g (wT rfl rfl rfl rfl) rfl (fun hg => (eff_move rfl rfl)) ?_
  refine aops_g (wT rfl rfl rfl rfl) rfl (fun hg => (eff_call [] rfl rfl (evs_cons (ev_g hg rfl) (evs_cons (ev_g hg rfl) evs_nil)) (c_sub24 (a.take 40) (c.take 40) has hcs) List.nodup_nil)) ?_
  refine aops_g (wT rfl rfl rfl rfl) rfl (fun hg => (eff_not rfl (ev_g hg rfl))) ?_
  refine aops_g (wT rfl rfl rfl rfl) rfl (fun hg => (eff_move rfl (ev_g hg rfl))) ?_
  refine aops_g (wFg rfl rfl rfl rfl) rfl (fun hg => (eff_move rfl rfl)) ?_
  refine aops_g (wFg rfl rfl rfl rfl) rfl (fun hg => (eff_move rfl rfl)) ?_
  refine aops_g (wFg rfl rfl rfl rfl) rfl (fun hg => (eff_call [] rfl rfl (evs_cons (ev_g hg rfl) (evs_cons (ev_g hg rfl) evs_nil)) (c_sub24 (b.take 40) (c.take 40) hbs hcs) List.nodup_nil)) ?_
  refine aops_g (wFg rfl rfl rfl rfl) rfl (fun hg => (eff_not rfl (ev_g hg rfl))) ?_
  refine aops_g (wT rfl rfl rfl rfl) rfl (fun hg => (eff_or rfl (ev_g hg rfl) rfl (fun h => by first | (simp [h, hg]; done) | (rw [hg, h]; rfl) | (simp_all; done)))) ?_
  refine aops_g (wT rfl rfl rfl rfl) rfl (fun hg => (eff_move rfl (ev_g hg rfl))) ?_
  refine aops_g (wFg rfl rfl rfl rfl) rfl (fun hg => (eff_move rfl rfl)) ?_
  refine aops_g (wFg rfl rfl rfl rfl) rfl (fun hg => (eff_move rfl rfl)) ?_
  refine aops_g (wFg rfl rfl rfl rfl) rfl (fun hg => (eff_call [] rfl rfl (evs_cons (ev_g hg rfl) (evs_cons (ev_g hg rfl) evs_nil)) (c_sub24 (risG sLt ((a.take 40) ++ (b.take 40))) (c.take 40) (by unfold small; omega) hcs) List.nodup_nil)) ?_
  refine aops_g (wT rfl rfl rfl rfl) rfl (fun hg => (eff_or rfl (ev_g hg rfl) rfl (fun h => by first | (simp [h, hg]; done) | (rw [hg, h]; rfl) | (simp_all; done)))) ?_
  refine aops_e (w0 rfl) rfl (eff_and rfl rfl rfl (fun h => h)) ?_
  refine aops_e (w0 rfl) rfl (eff_assign rfl rfl) ?_
  refine aops_nil ?_
  refine awp_ret ?_
  exact retq rfl (res_tmp rfl res_nil) (gb (by have := least (a.take 40) (b.take 40) (c.take 40); simp only [Bool.true_and]; exact this))

def nmK (p : Prog) (k : Int) : Str := (p.classes.getD (k.tmod p.classes.length).toNat default).name
def chS (m : List Site) (i : Nat) (nm : Str) : List Site := m.set i { m.getD i default with cls := nm }
theorem chS_cells (m : List Site) (i : Nat) (nm : Str) : ([] ++ m.map Site.cells).set i ((m.getD i default).cells.take 4 ++ cellsA (sA nm) ++ (m.getD i default).cells.drop (4 + (cellsA (sA nm)).length)) = (chS m i nm).map Site.cells := by
  unfold chS; rw [List.map_set]; rfl
theorem fil_small {n : Nat} {l : List Site} {f : Site → Bool} (h : l.length ≤ 40) : small (risG sLt (l.filter f)).length := by
  unfold small; refine Nat.le_trans (risG_len _) ?_; refine Nat.le_trans (List.length_filter_le _ _) ?_; omega

theorem c_bagOnly (p : Prog) (hp : p.ok) (l : List Site) (hl : small l.length) (k : Int) (hk : 0 ≤ k ∧ k ≤ 255) : ACalls Try.prog 4 [p.av, .lst (l.map Site.cells), uA k] [] (Gives (bA true)) := by
  have hl4 : (l.take 40).length ≤ 40 := by rw [List.length_take]; omega
  have hls : small (l.take 40).length := by unfold small; omega
  refine acalls_of (n := 76) Try.func4 rfl (by decide +kernel) rfl rfl ?_
  refine awp_seq ?_
  refine awp_region ?_
  refine aops_n (w0 rfl) rfl (fun id => eff_box id rfl rfl rfl rfl rfl) (fun id1 => ?_)
  refine aops_e (w0 rfl) rfl (eff_assign rfl rfl) ?_
  refine aops_nil ?_
  refine awp_seq ?_
  refine awp_seq ?_
  refine awp_region ?_
  refine aops_load_ptr 0 (w0 rfl) rfl rfl rfl rfl rfl (ld_agg (Nat.le_of_ble_eq_true rfl)) ?_
  refine aops_e (w0 rfl) rfl (eff_call [] rfl rfl rfl (c_great p hp) List.nodup_nil) ?_
  refine aops_nil ?_
  refine awp_cond rfl ?_ ?_
  · intro hc
    refine awp_seq ?_
    refine awp_region ?_
    refine aops_e (w0 rfl) rfl (eff_call [] rfl rfl rfl c_live24 List.nodup_nil) ?_
    refine aops_e (w0 rfl) rfl (eff_assign rfl rfl) ?_
    refine aops_nil ?_
    refine awp_ret ?_
    exact retq rfl (res_tmp rfl res_nil) (gb rfl)
  · intro hc
    have hq : greatP p = false := hc
    have hb := greatP_len hq
    have hif := greatP_if hq
    have hbs : small p.classes.length := by unfold small; omega
    refine awp_skip ?_
    refine awp_seq ?_
    refine awp_region ?_
    refine aops_e (w0 rfl) rfl (eff_move rfl rfl) ?_
    refine aops_e (w0 rfl) rfl (eff_call [] rfl rfl rfl (c_few l hl) List.nodup_nil) ?_
    refine aops_e (w0 rfl) rfl (eff_assign rfl rfl) ?_
    refine aops_nil ?_
    refine awp_seq ?_
    refine awp_region ?_
    refine aops_e (w0 rfl) rfl (eff_assign rfl rfl) ?_
    refine aops_nil ?_
    refine awp_seq ?_
    refine awp_seq ?_
    refine awp_region ?_
    refine aops_e (w0 rfl) rfl (eff_fieldAddr rfl rfl rfl) ?_
    refine aops_load_ptr 0 (w0 rfl) rfl rfl rfl rfl rfl ld_one ?_
    refine aops_e (w0 rfl) rfl (eff_len rfl rfl rfl rfl) ?_
    refine aops_e (w0 rfl) rfl (eff_icmp rfl rfl rfl rfl) ?_
    refine aops_e (w0 rfl) rfl (eff_move rfl rfl) ?_
    refine aops_g (wT rfl rfl rfl rfl) rfl (fun hg => (eff_move rfl rfl)) ?_
    refine aops_g (wT rfl rfl rfl rfl) rfl (fun hg => (eff_icmp rfl (ev_g hg rfl) rfl rfl)) ?_
    refine aops_e (w0 rfl) rfl (eff_and rfl rfl rfl (fun h => h)) ?_
    refine aops_nil ?_
    refine awp_cond rfl ?_ ?_
    · intro hc
      have hcl : 0 < p.classes.length := by have := andL hc; simp at this; omega
      have hlk := near_lt hcl hk.1
      refine awp_seq ?_
      refine awp_drawN 12 rfl (by kernel_rfl) ?_
      refine calm_e (w0 rfl) rfl (eff_fieldAddr rfl rfl rfl) ?_
      refine calm_load_ptr 0 (w0 rfl) rfl rfl rfl rfl rfl ld_one ?_
      refine calm_e (w0 rfl) rfl (eff_move rfl rfl) ?_
      refine calm_e (w0 rfl) rfl (eff_to (y := iA k) (eff_convInt rfl rfl) (congrArg iA (i64_wrap (by omega)))) ?_
      refine calm_e (w0 rfl) rfl (eff_fieldAddr rfl rfl rfl) ?_
      refine calm_load_ptr 0 (w0 rfl) rfl rfl rfl rfl rfl ld_one ?_
      refine calm_e (w0 rfl) rfl (eff_to (y := iA p.classes.length) (eff_len rfl rfl rfl rfl) (congrArg iA (by simp))) ?_
      refine calm_e (w0 rfl) rfl (eff_rem rfl rfl rfl (by omega)) ?_
      refine calm_e (w0 rfl) rfl (eff_indexAddr_lst rfl rfl rfl (len_map (fun _ => rfl)) (by first | exact Int.tmod_nonneg _ (by omega) | (simp only [List.length_map]; exact Int.tmod_lt_of_pos _ (by omega))) (by first | exact Int.tmod_nonneg _ (by omega) | (simp only [List.length_map]; exact Int.tmod_lt_of_pos _ (by omega)))) ?_
      refine calm_e (w0 rfl) rfl (eff_fieldAddr rfl rfl rfl) ?_
      refine calm_e (w0 rfl) rfl (eff_to (y := sA (nmK p k)) (eff_loadE rfl rfl (map_get (by omega)) ld_one) (congrArg (fun c : Cls => sA c.name) (clsD hlk).symm)) ?_
      refine calm_e (w0 rfl) rfl (eff_assign rfl rfl) ?_
      refine .done ?_
      refine aops_nil ?_
      refine awp_seq ?_
      refine awp_region ?_
      refine aops_e (w0 rfl) rfl (eff_assign rfl rfl) ?_
      refine aops_nil ?_
      refine awp_block ?_
      refine awp_loopJ (α := List Site × Nat) (fun x => ⟨[(8, iA x.2), (1, .lst (x.1.map Site.cells)), (7, sA (nmK p k)), (3, .ptr id1 5 0 0), (2, uA k)], [(id1, .rows 39 5 [p.cells])], [], 76⟩) (fun x => x.1.length ≤ 40) (fun x => 40 - x.2) ((l.take 40), 0) hl4 ?_ ?_
      · exact weak_pick [0] ⟨rfl, rfl, rfl, rfl, rfl, trivial⟩ rfl (by decide) rfl rfl
      rintro x hJ
      refine awp_seq ?_
      refine awp_seq ?_
      refine awp_region ?_
      refine aops_e (w0 rfl) rfl (eff_move rfl rfl) ?_
      refine aops_e (w0 rfl) rfl (eff_move rfl rfl) ?_
      refine aops_e (w0 rfl) rfl (eff_len rfl rfl rfl rfl) ?_
      refine aops_e (w0 rfl) rfl (eff_icmp rfl rfl rfl rfl) ?_
      refine aops_nil ?_
      refine awp_cond rfl ?_ ?_
      · intro hc
        have hx : x.2 < x.1.length := by simp at hc; omega
        refine awp_skip ?_
        refine awp_seq ?_
        refine awp_block ?_
        refine awp_seq ?_
        refine awp_region ?_
        refine aops_e (w0 rfl) rfl (eff_move rfl rfl) ?_
        refine aops_e (w0 rfl) rfl (eff_rem rfl rfl rfl (by decide)) ?_
        refine aops_e (w0 rfl) rfl (eff_icmp rfl rfl rfl rfl) ?_
        refine aops_nil ?_
        refine awp_cond rfl ?_ ?_
        · intro hc
          have hl2 := near_lt hcl (k := k + x.2) (by omega)
          refine awp_seq ?_
          refine awp_region ?_
          refine aops_n (w0 rfl) rfl (fun id => eff_nil id 26 5 (.inl rfl) rfl) (fun id2 => ?_)
          refine aops_nil ?_
          refine awp_seq ?_
          refine awp_region ?_
          refine aops_e (w0 rfl) rfl (eff_move rfl rfl) ?_
          refine aops_e (w0 rfl) rfl (eff_move rfl rfl) ?_
          refine aops_append 0 (w0 rfl) rfl rfl rfl rfl (by simp) rfl ⟨rfl, len_map (fun _ => rfl)⟩ (by first | omega | (simp; omega) | (simp [maxLen]; omega) | (simp; done) | (simp [maxLen]; done)) (by first | omega | (simp; omega) | (simp [maxLen]; omega) | (simp; done) | (simp [maxLen]; done)) (fun id3 => ?_)
          refine aops_e (w0 rfl) rfl (eff_assign rfl rfl) ?_
          refine aops_nil ?_
          refine awp_seq ?_
          refine awp_drawV [0, 0, 0, 4, 0, 16, 0, 112, 0, 256, 768, 2032, 4092, 8188, 16380, 32767, 65535, 131071] [17] [3, 9] rfl (by kernel_rfl) ?_
          refine vcalm_e (w0 rfl) rfl (eff_move rfl rfl) rfl ?_
          refine vcalm_e (w0 rfl) rfl (eff_move rfl rfl) rfl ?_
          refine vcalm_e (w0 rfl) rfl (eff_fieldAddr rfl rfl rfl) rfl ?_
          refine vcalm_load_ptr 1 (w0 rfl) rfl rfl rfl rfl rfl ld_one rfl rfl ?_
          refine vcalm_e (w0 rfl) rfl (eff_move rfl rfl) rfl ?_
          refine vcalm_e (w0 rfl) rfl (eff_to (y := iA k) (eff_convInt rfl rfl) (congrArg iA (i64_wrap (by omega)))) rfl ?_
          refine vcalm_e (w0 rfl) rfl (eff_move rfl rfl) rfl ?_
          refine vcalm_e (w0 rfl) rfl (eff_arith rfl rfl rfl (arith_add (by first | omega | (simp only [List.length_map]; omega)))) rfl ?_
          refine vcalm_e (w0 rfl) rfl (eff_fieldAddr rfl rfl rfl) rfl ?_
          refine vcalm_load_ptr 1 (w0 rfl) rfl rfl rfl rfl rfl ld_one rfl rfl ?_
          refine vcalm_e (w0 rfl) rfl (eff_to (y := iA p.classes.length) (eff_len rfl rfl rfl rfl) (congrArg iA (by simp))) rfl ?_
          refine vcalm_e (w0 rfl) rfl (eff_rem rfl rfl rfl (by omega)) rfl ?_
          refine vcalm_e (w0 rfl) rfl (eff_indexAddr_lst rfl rfl rfl (len_map (fun _ => rfl)) (by first | exact Int.tmod_nonneg _ (by omega) | (simp only [List.length_map]; exact Int.tmod_lt_of_pos _ (by omega))) (by first | exact Int.tmod_nonneg _ (by omega) | (simp only [List.length_map]; exact Int.tmod_lt_of_pos _ (by omega)))) rfl ?_
          refine vcalm_e (w0 rfl) rfl (eff_fieldAddr rfl rfl rfl) rfl ?_
          refine vcalm_e (w0 rfl) rfl (eff_to (y := sA (nmK p (k + x.2))) (eff_loadE rfl rfl (map_get (by omega)) ld_one) (congrArg (fun c : Cls => sA c.name) (clsD hl2).symm)) rfl ?_
          refine vcalm_e (w0 rfl) rfl (eff_indexAddr_ownN x.2 rfl rfl rfl (by first | omega | (simp; omega)) (by first | omega | (simp; omega)) (by omega)) rfl ?_
          refine vcalm_e (w0 rfl) rfl (eff_fieldAddr rfl rfl rfl) rfl ?_
          refine vcalm_store 0 [] (w0 rfl) rfl rfl rfl rfl (own_getC (by omega)) rfl rfl rfl rfl rfl trivial ?_
          refine .done ?_
          refine awp_weak (weak_frz 0 9 (T' := [(8, iA x.2), (7, sA (nmK p k)), (3, .ptr id1 5 0 0), (2, uA k)]) rfl rfl (by simp) ⟨rfl, rfl, rfl, rfl, trivial⟩) ?_
          refine awp_region ?_
          refine aops_e (w0 rfl) rfl (eff_to (y := .lst ((chS x.1 x.2 (nmK p (k + x.2))).map Site.cells)) (eff_move rfl rfl) (congrArg AV.lst (chS_cells _ _ _))) ?_
          refine aops_e (w0 rfl) rfl (eff_assign rfl rfl) ?_
          refine aops_nil ?_
          refine awp_region ?_
          refine aops_e (w0 rfl) rfl (eff_move rfl rfl) ?_
          refine aops_e (w0 rfl) rfl (eff_arith rfl rfl rfl (arith_add (by first | omega | (simp only [List.length_map]; omega)))) ?_
          refine aops_e (w0 rfl) rfl (eff_assign rfl rfl) ?_
          refine aops_nil ?_
          refine ⟨(chS x.1 x.2 (nmK p (k + x.2)), x.2 + 1), (by unfold chS; simp only [List.length_set]; exact hJ), (by (try simp only) <;> omega), ?_⟩
          exact weak_pick [0] ⟨rfl, rfl, rfl, rfl, rfl, trivial⟩ rfl (by decide) rfl rfl
        · intro hc
          refine awp_skip ?_
          refine awp_region ?_
          refine aops_e (w0 rfl) rfl (eff_move rfl rfl) ?_
          refine aops_e (w0 rfl) rfl (eff_arith rfl rfl rfl (arith_add (by first | omega | (simp only [List.length_map]; omega)))) ?_
          refine aops_e (w0 rfl) rfl (eff_assign rfl rfl) ?_
          refine aops_nil ?_
          refine ⟨(x.1, x.2 + 1), hJ, (by (try simp only) <;> omega), ?_⟩
          exact weak_pick [0] ⟨rfl, rfl, rfl, rfl, rfl, trivial⟩ rfl (by decide) rfl rfl
      · intro hc
        refine awp_exit ?_
        refine awp_seq ?_
        refine awp_drawM [0, 1, 3, 3, 3, 31, 3, 3, 3, 511, 1023, 2047, 4095] 13 rfl (by kernel_rfl) ?_
        refine calm_e (w0 rfl) rfl (eff_call [] rfl rfl rfl c_live24 List.nodup_nil) ?_
        refine calm_e (w0 rfl) rfl (eff_move rfl rfl) ?_
        refine calm_gload 0 (wT rfl rfl rfl rfl) rfl rfl (fun hg => rfl) rfl rfl (ld_agg (Nat.le_of_ble_eq_true rfl)) ?_
        refine calm_g (wT rfl rfl rfl rfl) rfl (fun hg => (eff_move rfl rfl)) ?_
        refine calm_g (wT rfl rfl rfl rfl) rfl (fun hg => (eff_move rfl rfl)) ?_
        refine calm_g (wT rfl rfl rfl rfl) rfl (fun hg => (eff_call [] rfl rfl (evs_cons (ev_g hg rfl) (evs_cons (ev_g hg rfl) (evs_cons (ev_g hg rfl) evs_nil))) (c_only p hb hif _ (by omega) _) List.nodup_nil)) ?_
        refine calm_gload 0 (wT rfl rfl rfl rfl) rfl rfl (fun hg => rfl) rfl rfl (ld_agg (Nat.le_of_ble_eq_true rfl)) ?_
        refine calm_g (wT rfl rfl rfl rfl) rfl (fun hg => (eff_move rfl rfl)) ?_
        refine calm_g (wT rfl rfl rfl rfl) rfl (fun hg => (eff_move rfl rfl)) ?_
        refine calm_g (wT rfl rfl rfl rfl) rfl (fun hg => (eff_call [] rfl rfl (evs_cons (ev_g hg rfl) (evs_cons (ev_g hg rfl) (evs_cons (ev_g hg rfl) evs_nil))) (c_refOnly p hb hif _ (by omega) _) List.nodup_nil)) ?_
        refine calm_g (wT rfl rfl rfl rfl) rfl (fun hg => (eff_to (y := bA true) (eff_call [] rfl rfl (evs_cons (ev_g hg rfl) (evs_cons (ev_g hg rfl) evs_nil)) (c_same _ _ (fil_small (n := 0) (by omega)) (fil_small (n := 0) (by omega))) List.nodup_nil) (congrArg bA (by simp)))) ?_
        refine calm_e (w0 rfl) rfl (eff_and rfl rfl rfl (fun h => h)) ?_
        refine calm_e (w0 rfl) rfl (eff_assign rfl rfl) ?_
        refine .done ?_
        refine aops_nil ?_
        refine awp_ret ?_
        exact retq rfl (res_tmp rfl res_nil) (gb rfl)
    · intro hc
      refine awp_skip ?_
      refine awp_seq ?_
      refine awp_drawM [0, 1, 3, 3, 3, 31, 3, 3, 3, 511, 1023, 2047, 4095] 13 rfl (by kernel_rfl) ?_
      refine calm_e (w0 rfl) rfl (eff_call [] rfl rfl rfl c_live24 List.nodup_nil) ?_
      refine calm_e (w0 rfl) rfl (eff_move rfl rfl) ?_
      refine calm_gload 0 (wT rfl rfl rfl rfl) rfl rfl (fun hg => rfl) rfl rfl (ld_agg (Nat.le_of_ble_eq_true rfl)) ?_
      refine calm_g (wT rfl rfl rfl rfl) rfl (fun hg => (eff_move rfl rfl)) ?_
      refine calm_g (wT rfl rfl rfl rfl) rfl (fun hg => (eff_move rfl rfl)) ?_
      refine calm_g (wT rfl rfl rfl rfl) rfl (fun hg => (eff_call [] rfl rfl (evs_cons (ev_g hg rfl) (evs_cons (ev_g hg rfl) (evs_cons (ev_g hg rfl) evs_nil))) (c_only p hb hif _ (by omega) _) List.nodup_nil)) ?_
      refine calm_gload 0 (wT rfl rfl rfl rfl) rfl rfl (fun hg => rfl) rfl rfl (ld_agg (Nat.le_of_ble_eq_true rfl)) ?_
      refine calm_g (wT rfl rfl rfl rfl) rfl (fun hg => (eff_move rfl rfl)) ?_
      refine calm_g (wT rfl rfl rfl rfl) rfl (fun hg => (eff_move rfl rfl)) ?_
      refine calm_g (wT rfl rfl rfl rfl) rfl (fun hg => (eff_call [] rfl rfl (evs_cons (ev_g hg rfl) (evs_cons (ev_g hg rfl) (evs_cons (ev_g hg rfl) evs_nil))) (c_refOnly p hb hif _ (by omega) _) List.nodup_nil)) ?_
      refine calm_g (wT rfl rfl rfl rfl) rfl (fun hg => (eff_to (y := bA true) (eff_call [] rfl rfl (evs_cons (ev_g hg rfl) (evs_cons (ev_g hg rfl) evs_nil)) (c_same _ _ (fil_small (n := 0) (by omega)) (fil_small (n := 0) (by omega))) List.nodup_nil) (congrArg bA (by simp)))) ?_
      refine calm_e (w0 rfl) rfl (eff_and rfl rfl rfl (fun h => h)) ?_
      refine calm_e (w0 rfl) rfl (eff_assign rfl rfl) ?_
      refine .done ?_
      refine aops_nil ?_
      refine awp_ret ?_
      exact retq rfl (res_tmp rfl res_nil) (gb rfl)

theorem decSite : Dec Go.Proofs.Try.prog 26 Site.cells Site.ok := dec_Site (tr := 24) (i := 3) (s := 9) (by kernel_rfl) dec24 (by kernel_rfl) (by kernel_rfl)
theorem decFRef : Dec Go.Proofs.Try.prog 50 FRef.cells FRef.ok := dec_FRef (s := 9) (by kernel_rfl) (by kernel_rfl)
theorem decPlace : Dec Go.Proofs.Try.prog 52 Place.cells Place.ok := dec_Place (k := 48) (tr := 24) (i := 3) (tf := 50) (ts := 26) (by kernel_rfl) (by kernel_rfl) dec24 (by kernel_rfl) decFRef decSite

end Go.Sx
