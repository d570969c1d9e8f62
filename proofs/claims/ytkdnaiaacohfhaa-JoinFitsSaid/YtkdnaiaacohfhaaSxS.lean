/- Contracts of functions, walked: ancestors, what is wrong with a program, the other laws of layer 15. -/
import Derived.Test.YtkdnaiaacohfhaaSxW
import Derived.Test.YtkdnaiaacohfhaaSxPlain
set_option linter.unusedVariables false
set_option linter.unusedSimpArgs false
namespace Go.Sx
open Go Go.Proofs

theorem c_rising (l : List Str) (hl : l.length ≤ 1000) : ACalls Try.prog 57 [row1 sA l] [] (Gives (row1 sA (risF l))) := by
  have hdl := dd_len l
  refine acalls_of (n := 69) Try.func57 rfl (by decide +kernel) rfl rfl ?_
  refine awp_seq ?_
  refine awp_region ?_
  refine aops_e (w0 rfl) rfl (eff_assign rfl rfl) ?_
  refine aops_nil ?_
  refine awp_seq ?_
  refine awp_region ?_
  refine aops_n (w0 rfl) rfl (fun id => eff_nil id 9 1 (.inl rfl) rfl) (fun id1 => ?_)
  refine aops_nil ?_
  refine awp_seq ?_
  refine awp_seq ?_
  refine awp_region ?_
  refine aops_e (w0 rfl) rfl (eff_assign rfl rfl) ?_
  refine aops_nil ?_
  refine awp_block ?_
  refine awp_loopJ (α := Nat × Nat) (fun x => ⟨[(4, iA x.2), (3, .own x.1 1 0 (dd (l.take x.2)).length), (0, row1 sA l)], [(x.1, .rows 9 1 ((dd (l.take x.2)).map fun x => [sA x]))], [], 69⟩) (fun x => x.2 ≤ l.length) (fun x => l.length - x.2) (id1, 0) (Nat.zero_le _) ?_ ?_
  · exact weak_pick [0] ⟨rfl, rfl, rfl, trivial⟩ rfl (by decide) rfl rfl
  rintro x hJ
  have hdt := dd_len (l.take x.2)
  rw [List.length_take] at hdt
  have hos : small (dd (l.take x.2)).length := by unfold small; omega
  refine awp_seq ?_
  refine awp_seq ?_
  refine awp_region ?_
  refine aops_e (w0 rfl) rfl (eff_move rfl rfl) ?_
  refine aops_e (w0 rfl) rfl (eff_move rfl rfl) ?_
  refine aops_e (w0 rfl) rfl (eff_len rfl rfl rfl rfl) ?_
  refine aops_e (w0 rfl) rfl (eff_icmp rfl rfl rfl rfl) ?_
  refine aops_nil ?_
  refine awp_cond rfl ?_ ?_
  · intro hc
    have hx : x.2 < l.length := by simpa using hc
    refine awp_skip ?_
    refine awp_seq ?_
    refine awp_block ?_
    refine awp_seq ?_
    refine awp_region ?_
    refine aops_e (w0 rfl) rfl (eff_move rfl rfl) ?_
    refine aops_e (w0 rfl) rfl (eff_move rfl rfl) ?_
    refine aops_e (w0 rfl) rfl (eff_move rfl rfl) ?_
    refine aops_e (w0 rfl) rfl (eff_indexAddr_lst rfl rfl rfl (len_map (fun _ => rfl)) (by first | omega | (simp only [List.length_map]; omega)) (by first | omega | (simp only [List.length_map]; omega))) ?_
    refine aops_e (w0 rfl) rfl (eff_loadE rfl rfl (map_get (by first | assumption | omega)) ld_one) ?_
    refine aops_lend 0 (w0 rfl) rfl rfl rfl rfl rfl (.lend (by simp) (.keep .nil)) (c_in (dd (l.take x.2)) hos _) rfl ?_
    refine aops_e (w0 rfl) rfl (eff_not rfl rfl) ?_
    refine aops_nil ?_
    refine awp_cond rfl ?_ ?_
    · intro hc
      have hin : inL (dd (l.take x.2)) l[x.2] = false := notT hc
      have e : dd (l.take (x.2 + 1)) = dd (l.take x.2) ++ [l[x.2]] := by rw [dd_take hx, ddS, hin]; rfl
      refine awp_region ?_
      refine aops_e (w0 rfl) rfl (eff_move rfl rfl) ?_
      refine aops_e (w0 rfl) rfl (eff_move rfl rfl) ?_
      refine aops_e (w0 rfl) rfl (eff_move rfl rfl) ?_
      refine aops_e (w0 rfl) rfl (eff_indexAddr_lst rfl rfl rfl (len_map (fun _ => rfl)) (by first | omega | (simp only [List.length_map]; omega)) (by first | omega | (simp only [List.length_map]; omega))) ?_
      refine aops_e (w0 rfl) rfl (eff_loadE rfl rfl (map_get (by first | assumption | omega)) ld_one) ?_
      refine aops_n (w0 rfl) rfl (fun id => eff_buildSlice id (ps := [(0, .tmp 25)]) rfl rfl rfl rfl rfl rfl rfl rfl) (fun id2 => ?_)
      refine aops_append 1 (w0 rfl) rfl rfl rfl rfl (by simp) rfl ⟨rfl, _, _, List.mem_of_getElem? (i := 0) rfl, by simp, rfl⟩ (by first | omega | (simp; omega) | (simp [maxLen]; omega) | (simp; done) | (simp [maxLen]; done)) (by first | omega | (simp; omega) | (simp [maxLen]; omega) | (simp; done) | (simp [maxLen]; done)) (fun id3 => ?_)
      refine aops_e (w0 rfl) rfl (eff_assign rfl rfl) ?_
      refine aops_nil ?_
      refine awp_region ?_
      refine aops_e (w0 rfl) rfl (eff_move rfl rfl) ?_
      refine aops_e (w0 rfl) rfl (eff_arith rfl rfl rfl (arith_add (by first | omega | (simp only [List.length_map]; omega)))) ?_
      refine aops_e (w0 rfl) rfl (eff_assign rfl rfl) ?_
      refine aops_nil ?_
      refine ⟨(id3, x.2 + 1), (by show x.2 + 1 ≤ l.length; omega), (by show l.length - (x.2 + 1) < l.length - x.2; omega), ?_⟩
      exact weak_pick [1] ⟨rfl, (by show some (AV.own _ _ _ _) = some (AV.own _ _ _ _); first | (rw [e]; done) | (rw [e]; simp [cellsA])), rfl, trivial⟩ (by show some [(_, AObj.rows _ _ _)] = some [(_, AObj.rows _ _ _)]; first | (rw [e]; done) | (rw [e]; simp [cellsA])) (by decide) rfl rfl
    · intro hc
      have hin : inL (dd (l.take x.2)) l[x.2] = true := notF hc
      have e : dd (l.take (x.2 + 1)) = dd (l.take x.2) := by rw [dd_take hx, ddS, hin]; rfl
      refine awp_skip ?_
      refine awp_region ?_
      refine aops_e (w0 rfl) rfl (eff_move rfl rfl) ?_
      refine aops_e (w0 rfl) rfl (eff_arith rfl rfl rfl (arith_add (by first | omega | (simp only [List.length_map]; omega)))) ?_
      refine aops_e (w0 rfl) rfl (eff_assign rfl rfl) ?_
      refine aops_nil ?_
      refine ⟨(x.1, x.2 + 1), (by show x.2 + 1 ≤ l.length; omega), (by show l.length - (x.2 + 1) < l.length - x.2; omega), ?_⟩
      exact weak_pick [0] ⟨rfl, (by show some (AV.own _ _ _ _) = some (AV.own _ _ _ _); first | (rw [e]; done) | (rw [e]; simp [cellsA])), rfl, trivial⟩ (by show some [(_, AObj.rows _ _ _)] = some [(_, AObj.rows _ _ _)]; first | (rw [e]; done) | (rw [e]; simp [cellsA])) (by decide) rfl rfl
  · intro hc
    have hx : ¬ x.2 < l.length := by simpa using hc
    have e0 : dd (l.take x.2) = dd l := by rw [List.take_of_length_le (by omega)]
    refine awp_exit ?_
    refine awp_seq ?_
    refine awp_seq ?_
    refine awp_region ?_
    refine aops_e (w0 rfl) rfl (eff_assign rfl rfl) ?_
    refine aops_nil ?_
    refine awp_block ?_
    refine awp_loopJ (α := List Str × Nat) (fun y => ⟨[(5, iA y.2), (3, .own x.1 1 0 y.1.length)], [(x.1, .rows 9 1 (y.1.map fun x => [sA x]))], [], 69⟩) (fun y => 1 ≤ y.2 ∧ y.1.length = (dd l).length ∧ outF ((dd l).length - y.2) y.2 y.1 = risF l) (fun y => (dd l).length - y.2) (dd l, 1) ⟨Nat.le_refl _, rfl, rfl⟩ ?_ ?_
    · exact weak_pick [0] ⟨rfl, (by show some (AV.own _ _ _ _) = some (AV.own _ _ _ _); rw [e0]), trivial⟩ (by show some [(_, AObj.rows _ _ _)] = some [(_, AObj.rows _ _ _)]; rw [e0]) (by decide) rfl rfl
    rintro y hJ1
    refine awp_seq ?_
    refine awp_seq ?_
    refine awp_region ?_
    refine aops_e (w0 rfl) rfl (eff_move rfl rfl) ?_
    refine aops_e (w0 rfl) rfl (eff_move rfl rfl) ?_
    refine aops_e (w0 rfl) rfl (eff_len rfl rfl rfl rfl) ?_
    refine aops_e (w0 rfl) rfl (eff_icmp rfl rfl rfl rfl) ?_
    refine aops_nil ?_
    refine awp_cond rfl ?_ ?_
    · intro hc
      have hy : y.2 < y.1.length := by simpa using hc
      refine awp_skip ?_
      refine awp_seq ?_
      refine awp_block ?_
      refine awp_seq ?_
      refine awp_region ?_
      refine aops_e (w0 rfl) rfl (eff_move rfl rfl) ?_
      refine aops_e (w0 rfl) rfl (eff_assign rfl rfl) ?_
      refine aops_nil ?_
      refine awp_block ?_
      refine awp_loopJ (α := List Str × Nat) (fun z => ⟨[(6, iA z.2), (3, .own x.1 1 0 z.1.length), (5, iA y.2)], [(x.1, .rows 9 1 (z.1.map fun x => [sA x]))], [], 69⟩) (fun z => z.2 ≤ y.2 ∧ z.1.length = y.1.length ∧ insK z.2 z.1 = insK y.2 y.1) (fun z => z.2) (y.1, y.2) ⟨Nat.le_refl _, rfl, rfl⟩ ?_ ?_
      · exact weak_pick [0] ⟨rfl, rfl, rfl, trivial⟩ rfl (by decide) rfl rfl
      rintro z hJ2
      refine awp_seq ?_
      refine awp_seq ?_
      refine awp_drawM [0, 1, 3, 7, 7, 31, 63, 7, 7, 263, 903, 1927, 4095, 8191] 14 rfl (by kernel_rfl) ?_
      refine calm_e (w0 rfl) rfl (eff_move rfl rfl) ?_
      refine calm_e (w0 rfl) rfl (eff_icmp rfl rfl rfl rfl) ?_
      refine calm_e (w0 rfl) rfl (eff_move rfl rfl) ?_
      refine calm_g (wT rfl rfl rfl rfl) rfl (fun hg => (eff_move rfl rfl)) ?_
      refine calm_g (wT rfl rfl rfl rfl) rfl (fun hg => (eff_move rfl rfl)) ?_
      refine calm_g (wT rfl rfl rfl rfl) rfl (fun hg => (eff_indexAddr_ownN z.2 rfl (ev_g hg rfl) (ev_g hg rfl) (by (try simp at hg) <;> first | omega | (simp only [List.length_map]; omega)) (by (try simp at hg) <;> first | omega | (simp only [List.length_map]; omega)) (by omega))) ?_
      refine calm_gload 0 (wT rfl rfl rfl rfl) rfl rfl (fun hg => (ev_g hg rfl)) rfl (own_get (by omega)) ld_one ?_
      refine calm_g (wT rfl rfl rfl rfl) rfl (fun hg => (eff_move rfl rfl)) ?_
      refine calm_g (wT rfl rfl rfl rfl) rfl (fun hg => (eff_move rfl rfl)) ?_
      refine calm_g (wT rfl rfl rfl rfl) rfl (fun hg => (eff_arith rfl (ev_g hg rfl) rfl (arith_sub (by first | omega | (simp only [List.length_map]; omega))))) ?_
      refine calm_g (wT rfl rfl rfl rfl) rfl (fun hg => (eff_indexAddr_ownN (z.2 - 1) rfl (ev_g hg rfl) (ev_g hg rfl) (by (try simp at hg) <;> first | omega | (simp only [List.length_map]; omega)) (by (try simp at hg) <;> first | omega | (simp only [List.length_map]; omega)) (by omega))) ?_
      refine calm_gload 0 (wT rfl rfl rfl rfl) rfl rfl (fun hg => (ev_g hg rfl)) rfl (own_get (by omega)) ld_one ?_
      refine calm_g (wT rfl rfl rfl rfl) rfl (fun hg => (eff_scmp rfl (ev_g hg rfl) (ev_g hg rfl) rfl)) ?_
      refine calm_e (w0 rfl) rfl (eff_and rfl rfl rfl (fun h => h)) ?_
      refine .done ?_
      refine aops_nil ?_
      refine awp_cond rfl ?_ ?_
      · intro hc
        have hk : 0 < z.2 := by simp at hc; omega
        have hsw := insK_swap hk (by have := andR hc; exact this)
        refine awp_skip ?_
        refine awp_seq ?_
        refine awp_block ?_
        refine awp_seq ?_
        refine awp_region ?_
        refine aops_e (w0 rfl) rfl (eff_move rfl rfl) ?_
        refine aops_e (w0 rfl) rfl (eff_move rfl rfl) ?_
        refine aops_e (w0 rfl) rfl (eff_indexAddr_ownN z.2 rfl rfl rfl (by first | omega | (simp only [List.length_map]; omega)) (by first | omega | (simp only [List.length_map]; omega)) (by omega)) ?_
        refine aops_load_ptr 0 (w0 rfl) rfl rfl rfl rfl (own_get (by omega)) ld_one ?_
        refine aops_e (w0 rfl) rfl (eff_assign rfl rfl) ?_
        refine aops_nil ?_
        refine awp_seq ?_
        refine awp_region ?_
        refine aops_e (w0 rfl) rfl (eff_move rfl rfl) ?_
        refine aops_e (w0 rfl) rfl (eff_move rfl rfl) ?_
        refine aops_e (w0 rfl) rfl (eff_move rfl rfl) ?_
        refine aops_e (w0 rfl) rfl (eff_move rfl rfl) ?_
        refine aops_e (w0 rfl) rfl (eff_arith rfl rfl rfl (arith_sub (by first | omega | (simp only [List.length_map]; omega)))) ?_
        refine aops_e (w0 rfl) rfl (eff_indexAddr_ownN (z.2 - 1) rfl rfl rfl (by first | omega | (simp only [List.length_map]; omega)) (by first | omega | (simp only [List.length_map]; omega)) (by omega)) ?_
        refine aops_load_ptr 0 (w0 rfl) rfl rfl rfl rfl (own_get (by omega)) ld_one ?_
        refine aops_e (w0 rfl) rfl (eff_indexAddr_ownN z.2 rfl rfl rfl (by first | omega | (simp only [List.length_map]; omega)) (by first | omega | (simp only [List.length_map]; omega)) (by omega)) ?_
        refine aops_storeS 0 rfl (w0 rfl) rfl rfl rfl rfl (by omega) rfl ?_
        refine aops_nil ?_
        refine awp_region ?_
        refine aops_e (w0 rfl) rfl (eff_move rfl rfl) ?_
        refine aops_e (w0 rfl) rfl (eff_move rfl rfl) ?_
        refine aops_e (w0 rfl) rfl (eff_arith rfl rfl rfl (arith_sub (by first | omega | (simp only [List.length_map]; omega)))) ?_
        refine aops_e (w0 rfl) rfl (eff_move rfl rfl) ?_
        refine aops_e (w0 rfl) rfl (eff_indexAddr_ownN (z.2 - 1) rfl rfl rfl (by first | omega | (simp only [List.length_map]; omega)) (by first | omega | (simp only [List.length_map]; omega)) (by omega)) ?_
        refine aops_storeS 0 rfl (w0 rfl) rfl rfl rfl rfl (by simp; omega) rfl ?_
        refine aops_nil ?_
        refine awp_region ?_
        refine aops_e (w0 rfl) rfl (eff_move rfl rfl) ?_
        refine aops_e (w0 rfl) rfl (eff_arith rfl rfl rfl (arith_sub (by first | omega | (simp only [List.length_map]; omega)))) ?_
        refine aops_e (w0 rfl) rfl (eff_assign rfl rfl) ?_
        refine aops_nil ?_
        refine ⟨((z.1.set z.2 (z.1.getD (z.2 - 1) default)).set (z.2 - 1) (z.1.getD z.2 default), z.2 - 1), ⟨by show z.2 - 1 ≤ y.2; omega, by simp; omega, hsw.symm.trans hJ2.2.2⟩, (by show z.2 - 1 < z.2; omega), ?_⟩
        exact weak_pick [0] ⟨(congrArg (fun n => some (iA n)) (by omega)), (by show some (AV.own _ _ _ _) = some (AV.own _ _ _ _); simp), rfl, trivial⟩ rfl (by decide) rfl rfl
      · intro hc
        have hst : z.1 = insK y.2 y.1 := by rw [← hJ2.2.2]; exact (insK_stop hc).symm
        refine awp_exit ?_
        refine awp_region ?_
        refine aops_e (w0 rfl) rfl (eff_move rfl rfl) ?_
        refine aops_e (w0 rfl) rfl (eff_arith rfl rfl rfl (arith_add (by first | omega | (simp only [List.length_map]; omega)))) ?_
        refine aops_e (w0 rfl) rfl (eff_assign rfl rfl) ?_
        refine aops_nil ?_
        refine ⟨(z.1, y.2 + 1), ⟨by show 1 ≤ y.2 + 1; omega, by show z.1.length = _; omega, by show outF ((dd l).length - (y.2 + 1)) (y.2 + 1) z.1 = _; rw [hst, ← outF_step (by omega)]; exact hJ1.2.2⟩, (by show (dd l).length - (y.2 + 1) < (dd l).length - y.2; omega), ?_⟩
        exact weak_pick [0] ⟨rfl, rfl, trivial⟩ rfl (by decide) rfl rfl
    · intro hc
      have hy : ¬ y.2 < y.1.length := by simpa using hc
      have hfin : y.1 = risF l := by have := hJ1.2.2; rwa [show (dd l).length - y.2 = 0 from by omega] at this
      refine awp_exit ?_
      refine awp_seq ?_
      refine awp_region ?_
      refine aops_e (w0 rfl) rfl (eff_move rfl rfl) ?_
      refine aops_e (w0 rfl) rfl (eff_assign rfl rfl) ?_
      refine aops_nil ?_
      refine awp_ret ?_
      exact retq_frz 0 rfl rfl rfl rfl (by simp) (by rw [← hfin]; rfl)

theorem c_refAnc (p : Prog) (hb : p.classes.length ≤ 1000) (hif : ∀ c, c ∈ p.classes → c.ifaces.length ≤ 1000) (nm : Str) : ACalls Try.prog 46 [p.av, sA nm] [] (GSome (row1 sA) (fun l => ∃ out : List Str, l = risF out ∧ (∀ s, s ∈ out ↔ Anc p nm s) ∧ out.length ≤ 1000)) := by
  have hbs : small p.classes.length := by unfold small; omega
  refine acalls_of (n := 77) Try.func46 rfl (by decide +kernel) rfl rfl ?_
  refine awp_seq ?_
  refine awp_region ?_
  refine aops_n (w0 rfl) rfl (fun id => eff_box id rfl rfl rfl rfl rfl) (fun id1 => ?_)
  refine aops_e (w0 rfl) rfl (eff_assign rfl rfl) ?_
  refine aops_nil ?_
  refine awp_seq ?_
  refine awp_region ?_
  refine aops_n (w0 rfl) rfl (fun id => eff_nil id 9 1 (.inl rfl) rfl) (fun id2 => ?_)
  refine aops_nil ?_
  refine awp_seq ?_
  refine awp_seq ?_
  refine awp_region ?_
  refine aops_load_ptr 1 (w0 rfl) rfl rfl rfl rfl rfl (ld_agg (Nat.le_of_ble_eq_true rfl)) ?_
  refine aops_e (w0 rfl) rfl (eff_move rfl rfl) ?_
  refine aops_e (w0 rfl) rfl (eff_call [] rfl rfl rfl (c_class p hbs nm) List.nodup_nil) ?_
  refine aops_e (w0 rfl) rfl (eff_icmp rfl rfl rfl rfl) ?_
  refine aops_nil ?_
  refine awp_cond rfl ?_ ?_
  · intro hc
    have hh : hasC p nm = true := (classAt_nn p nm).symm.trans hc
    refine awp_region ?_
    refine aops_e (w0 rfl) rfl (eff_move rfl rfl) ?_
    refine aops_e (w0 rfl) rfl (eff_move rfl rfl) ?_
    refine aops_n (w0 rfl) rfl (fun id => eff_buildSlice id (ps := [(0, .tmp 15)]) rfl rfl rfl rfl rfl rfl rfl rfl) (fun id3 => ?_)
    refine aops_append 1 (w0 rfl) rfl rfl rfl rfl rfl rfl ⟨rfl, _, _, List.mem_of_getElem? (i := 0) rfl, by simp, rfl⟩ (by first | omega | (simp; omega) | (simp [maxLen]; omega) | (simp; done) | (simp [maxLen]; done)) (by first | omega | (simp; omega) | (simp [maxLen]; omega) | (simp; done) | (simp [maxLen]; done)) (fun id4 => ?_)
    refine aops_e (w0 rfl) rfl (eff_assign rfl rfl) ?_
    refine aops_nil ?_
    refine awp_seq ?_
    refine awp_seq ?_
    refine awp_region ?_
    refine aops_e (w0 rfl) rfl (eff_assign rfl rfl) ?_
    refine aops_nil ?_
    refine awp_block ?_
    refine awp_loopJ (α := Nat × List Str × Nat) (fun x => ⟨[(6, iA x.2.2), (5, .own x.1 1 0 x.2.1.length), (2, .ptr id1 5 0 0)], [(x.1, .rows 9 1 (x.2.1.map fun x => [sA x])), (id1, .rows 27 5 [p.cells])], [], 77⟩) (fun x => AncB p nm x.2.1 x.2.2) (fun x => p.classes.length - x.2.2) (id4, [nm], 0) (AncB.start1 hh) ?_ ?_
    · exact weak_pick [1, 2] ⟨rfl, rfl, rfl, trivial⟩ rfl (by decide) rfl rfl
    rintro x hJ
    have hol := hJ.len
    refine awp_seq ?_
    refine awp_seq ?_
    refine awp_region ?_
    refine aops_e (w0 rfl) rfl (eff_move rfl rfl) ?_
    refine aops_e (w0 rfl) rfl (eff_move rfl rfl) ?_
    refine aops_e (w0 rfl) rfl (eff_len rfl rfl rfl rfl) ?_
    refine aops_e (w0 rfl) rfl (eff_icmp rfl rfl rfl rfl) ?_
    refine aops_nil ?_
    refine awp_cond rfl ?_ ?_
    · intro hc
      have hx : x.2.2 < x.2.1.length := by simpa using hc
      refine awp_skip ?_
      refine awp_seq ?_
      refine awp_block ?_
      refine awp_seq ?_
      obtain ⟨j, hj, h1, h2⟩ := hJ.idx hx
      have hif1 := hif _ (List.getElem_mem hj)
      have hul := upC_len hif1
      refine awp_drawN 11 rfl (by kernel_rfl) ?_
      refine calm_e (w0 rfl) rfl (eff_fieldAddr rfl rfl rfl) ?_
      refine calm_load_ptr 1 (w0 rfl) rfl rfl rfl rfl rfl ld_one ?_
      refine calm_load_ptr 1 (w0 rfl) rfl rfl rfl rfl rfl (ld_agg (Nat.le_of_ble_eq_true rfl)) ?_
      refine calm_e (w0 rfl) rfl (eff_move rfl rfl) ?_
      refine calm_e (w0 rfl) rfl (eff_move rfl rfl) ?_
      refine calm_e (w0 rfl) rfl (eff_indexAddr_ownN x.2.2 rfl rfl rfl (by first | omega | (simp only [List.length_map]; omega)) (by first | omega | (simp only [List.length_map]; omega)) (by omega)) ?_
      refine calm_load_ptr 0 (w0 rfl) rfl rfl rfl rfl (own_get (by omega)) ld_one ?_
      refine calm_e (w0 rfl) rfl (eff_call [] rfl rfl rfl (show ACalls Try.prog 32 [p.av, sA (x.2.1.getD x.2.2 default)] [] (Gives (iA j)) from h1 ▸ c_class p hbs _) List.nodup_nil) ?_
      refine calm_e (w0 rfl) rfl (eff_indexAddr_lst rfl rfl rfl (len_map (fun _ => rfl)) (by first | omega | (simp only [List.length_map]; omega)) (by first | omega | (simp only [List.length_map]; omega))) ?_
      refine calm_e (w0 rfl) rfl (eff_loadE rfl rfl (map_get (by first | assumption | omega)) (ld_agg (Nat.le_of_ble_eq_true rfl))) ?_
      refine calm_n (w0 rfl) rfl (fun id => eff_alloc id rfl rfl rfl) (fun id5 => ?_)
      refine .done ?_
      refine aops_store 0 (w0 rfl) rfl rfl rfl rfl rfl rfl rfl rfl rfl ?_
      refine aops_nil ?_
      refine awp_seq ?_
      refine awp_region ?_
      refine aops_n (w0 rfl) rfl (fun id => eff_nil id 9 1 (.inl rfl) rfl) (fun id6 => ?_)
      refine aops_nil ?_
      refine awp_seq ?_
      refine awp_seq ?_
      refine awp_region ?_
      refine aops_e (w0 rfl) rfl (eff_fieldAddr rfl rfl rfl) ?_
      refine aops_load_ptr 1 (w0 rfl) rfl rfl rfl rfl rfl ld_one ?_
      refine aops_e (w0 rfl) rfl (eff_scmp rfl rfl rfl rfl) ?_
      refine aops_nil ?_
      refine awp_cond rfl ?_ ?_
      · intro hc
        have hs : beqS p.classes[j].super zS = false := notT hc
        refine awp_region ?_
        refine aops_e (w0 rfl) rfl (eff_move rfl rfl) ?_
        refine aops_e (w0 rfl) rfl (eff_fieldAddr rfl rfl rfl) ?_
        refine aops_load_ptr 1 (w0 rfl) rfl rfl rfl rfl rfl ld_one ?_
        refine aops_n (w0 rfl) rfl (fun id => eff_buildSlice id (ps := [(0, .tmp 39)]) rfl rfl rfl rfl rfl rfl rfl rfl) (fun id7 => ?_)
        refine aops_append 1 (w0 rfl) rfl rfl rfl rfl rfl rfl ⟨rfl, _, _, List.mem_of_getElem? (i := 0) rfl, by simp, rfl⟩ (by first | omega | (simp; omega) | (simp [maxLen]; omega) | (simp; done) | (simp [maxLen]; done)) (by first | omega | (simp; omega) | (simp [maxLen]; omega) | (simp; done) | (simp [maxLen]; done)) (fun id8 => ?_)
        refine aops_e (w0 rfl) rfl (eff_assign rfl rfl) ?_
        refine aops_nil ?_
        refine awp_seq ?_
        refine awp_region ?_
        refine aops_e (w0 rfl) rfl (eff_move rfl rfl) ?_
        refine aops_e (w0 rfl) rfl (eff_fieldAddr rfl rfl rfl) ?_
        refine aops_load_ptr 2 (w0 rfl) rfl rfl rfl rfl rfl ld_one ?_
        refine aops_append 1 (w0 rfl) rfl rfl rfl rfl (by simp) rfl ⟨rfl, len_map (fun _ => rfl)⟩ (by first | omega | (simp; omega) | (simp [maxLen]; omega) | (simp; done) | (simp [maxLen]; done)) (by first | omega | (simp; omega) | (simp [maxLen]; omega) | (simp; done) | (simp [maxLen]; done)) (fun id9 => ?_)
        refine aops_e (w0 rfl) rfl (eff_assign rfl rfl) ?_
        refine aops_nil ?_
        refine awp_seq ?_
        refine awp_region ?_
        refine aops_e (w0 rfl) rfl (eff_assign rfl rfl) ?_
        refine aops_nil ?_
        refine awp_block ?_
        refine awp_loopJ (α := Nat × Nat × Nat) (fun y => ⟨[(9, iA y.2.2), (8, .own y.2.1 1 0 (upC p.classes[j]).length), (5, .own y.1 1 0 (addU p ((upC p.classes[j]).take y.2.2) x.2.1).length), (6, iA x.2.2), (2, .ptr id1 5 0 0)], [(y.2.1, .rows 9 1 ((upC p.classes[j]).map fun x => [sA x])), (y.1, .rows 9 1 ((addU p ((upC p.classes[j]).take y.2.2) x.2.1).map fun x => [sA x])), (id1, .rows 27 5 [p.cells])], [], 77⟩) (fun y => y.2.2 ≤ (upC p.classes[j]).length) (fun y => (upC p.classes[j]).length - y.2.2) (x.1, id9, 0) (Nat.zero_le _) ?_ ?_
        · exact weak_pick [1, 3, 4] ⟨rfl, (by show some (AV.own _ _ _ _) = some (AV.own _ _ _ _); simp [upC, hs, Nat.add_comm]), rfl, rfl, rfl, trivial⟩ (by show some [(_, AObj.rows _ _ _), (_, AObj.rows _ _ _), _] = some [(_, AObj.rows _ _ _), (_, AObj.rows _ _ _), _]; simp [upC, hs, cellsA, addU]) (by decide) rfl rfl
        rintro y hJ1
        have hal := (hJ.inner ((upC p.classes[j]).take y.2.2))
        have hos : small (addU p ((upC p.classes[j]).take y.2.2) x.2.1).length := by unfold small; omega
        refine awp_seq ?_
        refine awp_seq ?_
        refine awp_region ?_
        refine aops_e (w0 rfl) rfl (eff_move rfl rfl) ?_
        refine aops_e (w0 rfl) rfl (eff_move rfl rfl) ?_
        refine aops_e (w0 rfl) rfl (eff_len rfl rfl rfl rfl) ?_
        refine aops_e (w0 rfl) rfl (eff_icmp rfl rfl rfl rfl) ?_
        refine aops_nil ?_
        refine awp_cond rfl ?_ ?_
        · intro hc
          have hy : y.2.2 < (upC p.classes[j]).length := by simpa using hc
          refine awp_skip ?_
          refine awp_seq ?_
          refine awp_block ?_
          refine awp_seq ?_
          refine awp_drawM [0, 0, 0, 6, 14, 31, 63, 127, 255, 255, 255, 1791, 3839, 8191, 16383, 32767] 13 rfl (by kernel_rfl) ?_
          refine calm_load_ptr 2 (w0 rfl) rfl rfl rfl rfl rfl (ld_agg (Nat.le_of_ble_eq_true rfl)) ?_
          refine calm_e (w0 rfl) rfl (eff_move rfl rfl) ?_
          refine calm_e (w0 rfl) rfl (eff_move rfl rfl) ?_
          refine calm_e (w0 rfl) rfl (eff_indexAddr_ownN y.2.2 rfl rfl rfl (by first | omega | (simp only [List.length_map]; omega)) (by first | omega | (simp only [List.length_map]; omega)) (by omega)) ?_
          refine calm_load_ptr 0 (w0 rfl) rfl rfl rfl rfl (own_get (by omega)) ld_one ?_
          refine calm_e (w0 rfl) rfl (eff_call [] rfl rfl rfl (c_class p hbs _) List.nodup_nil) ?_
          refine calm_e (w0 rfl) rfl (eff_icmp rfl rfl rfl rfl) ?_
          refine calm_e (w0 rfl) rfl (eff_move rfl rfl) ?_
          refine calm_g (wT rfl rfl rfl rfl) rfl (fun hg => (eff_move rfl rfl)) ?_
          refine calm_g (wT rfl rfl rfl rfl) rfl (fun hg => (eff_move rfl rfl)) ?_
          refine calm_g (wT rfl rfl rfl rfl) rfl (fun hg => (eff_move rfl rfl)) ?_
          refine calm_g (wT rfl rfl rfl rfl) rfl (fun hg => (eff_indexAddr_ownN y.2.2 rfl (ev_g hg rfl) (ev_g hg rfl) (by (try simp at hg) <;> first | omega | (simp only [List.length_map]; omega)) (by (try simp at hg) <;> first | omega | (simp only [List.length_map]; omega)) (by omega))) ?_
          refine calm_gload 0 (wT rfl rfl rfl rfl) rfl rfl (fun hg => (ev_g hg rfl)) rfl (own_get (by omega)) ld_one ?_
          refine .done ?_
          refine aops_glend (x := bA (inL (addU p ((upC p.classes[j]).take y.2.2) x.2.1) ((upC p.classes[j]).getD y.2.2 default))) 1 (wT rfl rfl rfl rfl) rfl rfl rfl (fun hg => (evs_cons (ev_g hg rfl) (evs_cons (ev_g hg rfl) evs_nil))) rfl (.lend (by simp) (.keep .nil)) (fun hg => (c_in (addU p ((upC p.classes[j]).take y.2.2) x.2.1) hos ((upC p.classes[j]).getD y.2.2 default))) rfl ?_
          refine aops_g (wT rfl rfl rfl rfl) rfl (fun hg => (eff_not rfl (ev_g hg rfl))) ?_
          refine aops_e (w0 rfl) rfl (eff_and rfl rfl rfl (fun h => h)) ?_
          refine aops_nil ?_
          refine awp_cond rfl ?_ ?_
          · intro hc
            have e : addU p ((upC p.classes[j]).take (y.2.2 + 1)) x.2.1 = (addU p ((upC p.classes[j]).take y.2.2) x.2.1) ++ [(upC p.classes[j]).getD y.2.2 default] := by rw [addU_take hy, addS, ← getD_eq hy, ← classAt_nn]; exact if_pos hc
            refine awp_region ?_
            refine aops_e (w0 rfl) rfl (eff_move rfl rfl) ?_
            refine aops_e (w0 rfl) rfl (eff_move rfl rfl) ?_
            refine aops_e (w0 rfl) rfl (eff_move rfl rfl) ?_
            refine aops_e (w0 rfl) rfl (eff_indexAddr_ownN y.2.2 rfl rfl rfl (by first | omega | (simp only [List.length_map]; omega)) (by first | omega | (simp only [List.length_map]; omega)) (by omega)) ?_
            refine aops_load_ptr 0 (w0 rfl) rfl rfl rfl rfl (own_get (by omega)) ld_one ?_
            refine aops_n (w0 rfl) rfl (fun id => eff_buildSlice id (ps := [(0, .tmp 72)]) rfl rfl rfl rfl rfl rfl rfl rfl) (fun id10 => ?_)
            refine aops_append 2 (w0 rfl) rfl rfl rfl rfl (by simp) rfl ⟨rfl, _, _, List.mem_of_getElem? (i := 0) rfl, by simp, rfl⟩ (by first | omega | (simp; omega) | (simp [maxLen]; omega) | (simp; done) | (simp [maxLen]; done)) (by first | omega | (simp; omega) | (simp [maxLen]; omega) | (simp; done) | (simp [maxLen]; done)) (fun id11 => ?_)
            refine aops_e (w0 rfl) rfl (eff_assign rfl rfl) ?_
            refine aops_nil ?_
            refine awp_region ?_
            refine aops_e (w0 rfl) rfl (eff_move rfl rfl) ?_
            refine aops_e (w0 rfl) rfl (eff_arith rfl rfl rfl (arith_add (by first | omega | (simp only [List.length_map]; omega)))) ?_
            refine aops_e (w0 rfl) rfl (eff_assign rfl rfl) ?_
            refine aops_nil ?_
            refine ⟨(id11, y.2.1, y.2.2 + 1), (by show y.2.2 + 1 ≤ (upC p.classes[j]).length; omega), (by show (upC p.classes[j]).length - (y.2.2 + 1) < (upC p.classes[j]).length - y.2.2; omega), ?_⟩
            exact weak_pick [1, 2, 3] ⟨rfl, rfl, (by show some (AV.own _ _ _ _) = some (AV.own _ _ _ _); first | (rw [e]; done) | (rw [e]; simp [cellsA])), rfl, rfl, trivial⟩ (by show some [_, (_, AObj.rows _ _ _), _] = some [_, (_, AObj.rows _ _ _), _]; first | (rw [e]; done) | (rw [e]; simp [cellsA])) (by decide) rfl rfl
          · intro hc
            have e : addU p ((upC p.classes[j]).take (y.2.2 + 1)) x.2.1 = (addU p ((upC p.classes[j]).take y.2.2) x.2.1) := by rw [addU_take hy, addS, ← getD_eq hy, ← classAt_nn]; exact if_neg (by rw [hc]; exact Bool.false_ne_true)
            refine awp_skip ?_
            refine awp_region ?_
            refine aops_e (w0 rfl) rfl (eff_move rfl rfl) ?_
            refine aops_e (w0 rfl) rfl (eff_arith rfl rfl rfl (arith_add (by first | omega | (simp only [List.length_map]; omega)))) ?_
            refine aops_e (w0 rfl) rfl (eff_assign rfl rfl) ?_
            refine aops_nil ?_
            refine ⟨(y.1, y.2.1, y.2.2 + 1), (by show y.2.2 + 1 ≤ (upC p.classes[j]).length; omega), (by show (upC p.classes[j]).length - (y.2.2 + 1) < (upC p.classes[j]).length - y.2.2; omega), ?_⟩
            exact weak_pick [0, 1, 2] ⟨rfl, rfl, (by show some (AV.own _ _ _ _) = some (AV.own _ _ _ _); first | (rw [e]; done) | (rw [e]; simp [cellsA])), rfl, rfl, trivial⟩ (by show some [_, (_, AObj.rows _ _ _), _] = some [_, (_, AObj.rows _ _ _), _]; first | (rw [e]; done) | (rw [e]; simp [cellsA])) (by decide) rfl rfl
        · intro hc
          have hy : ¬ y.2.2 < (upC p.classes[j]).length := by simpa using hc
          have e2 : (addU p ((upC p.classes[j]).take y.2.2) x.2.1) = addU p (upC p.classes[j]) x.2.1 := by rw [List.take_of_length_le (by omega)]
          refine awp_exit ?_
          refine awp_region ?_
          refine aops_e (w0 rfl) rfl (eff_move rfl rfl) ?_
          refine aops_e (w0 rfl) rfl (eff_arith rfl rfl rfl (arith_add (by first | omega | (simp only [List.length_map]; omega)))) ?_
          refine aops_e (w0 rfl) rfl (eff_assign rfl rfl) ?_
          refine aops_nil ?_
          refine ⟨(y.1, addU p (upC p.classes[j]) x.2.1, x.2.2 + 1), (hJ.stepD hx h2), (by show p.classes.length - (x.2.2 + 1) < p.classes.length - x.2.2; omega), ?_⟩
          exact weak_pick [1, 2] ⟨rfl, (by show some (AV.own _ _ _ _) = some (AV.own _ _ _ _); rw [e2]), rfl, trivial⟩ (by show some [(_, AObj.rows _ _ _), _] = some [(_, AObj.rows _ _ _), _]; rw [e2]) (by decide) rfl rfl
      · intro hc
        have hs : beqS p.classes[j].super zS = true := notF hc
        refine awp_skip ?_
        refine awp_seq ?_
        refine awp_region ?_
        refine aops_e (w0 rfl) rfl (eff_move rfl rfl) ?_
        refine aops_e (w0 rfl) rfl (eff_fieldAddr rfl rfl rfl) ?_
        refine aops_load_ptr 1 (w0 rfl) rfl rfl rfl rfl rfl ld_one ?_
        refine aops_append 0 (w0 rfl) rfl rfl rfl rfl (by simp) rfl ⟨rfl, len_map (fun _ => rfl)⟩ (by first | omega | (simp; omega) | (simp [maxLen]; omega) | (simp; done) | (simp [maxLen]; done)) (by first | omega | (simp; omega) | (simp [maxLen]; omega) | (simp; done) | (simp [maxLen]; done)) (fun id12 => ?_)
        refine aops_e (w0 rfl) rfl (eff_assign rfl rfl) ?_
        refine aops_nil ?_
        refine awp_seq ?_
        refine awp_region ?_
        refine aops_e (w0 rfl) rfl (eff_assign rfl rfl) ?_
        refine aops_nil ?_
        refine awp_block ?_
        refine awp_loopJ (α := Nat × Nat × Nat) (fun y => ⟨[(9, iA y.2.2), (8, .own y.2.1 1 0 (upC p.classes[j]).length), (5, .own y.1 1 0 (addU p ((upC p.classes[j]).take y.2.2) x.2.1).length), (6, iA x.2.2), (2, .ptr id1 5 0 0)], [(y.2.1, .rows 9 1 ((upC p.classes[j]).map fun x => [sA x])), (y.1, .rows 9 1 ((addU p ((upC p.classes[j]).take y.2.2) x.2.1).map fun x => [sA x])), (id1, .rows 27 5 [p.cells])], [], 77⟩) (fun y => y.2.2 ≤ (upC p.classes[j]).length) (fun y => (upC p.classes[j]).length - y.2.2) (x.1, id12, 0) (Nat.zero_le _) ?_ ?_
        · exact weak_pick [0, 2, 3] ⟨rfl, (by show some (AV.own _ _ _ _) = some (AV.own _ _ _ _); simp [upC, hs, Nat.add_comm]), rfl, rfl, rfl, trivial⟩ (by show some [(_, AObj.rows _ _ _), (_, AObj.rows _ _ _), _] = some [(_, AObj.rows _ _ _), (_, AObj.rows _ _ _), _]; simp [upC, hs, cellsA, addU]) (by decide) rfl rfl
        rintro y hJ1
        have hal := (hJ.inner ((upC p.classes[j]).take y.2.2))
        have hos : small (addU p ((upC p.classes[j]).take y.2.2) x.2.1).length := by unfold small; omega
        refine awp_seq ?_
        refine awp_seq ?_
        refine awp_region ?_
        refine aops_e (w0 rfl) rfl (eff_move rfl rfl) ?_
        refine aops_e (w0 rfl) rfl (eff_move rfl rfl) ?_
        refine aops_e (w0 rfl) rfl (eff_len rfl rfl rfl rfl) ?_
        refine aops_e (w0 rfl) rfl (eff_icmp rfl rfl rfl rfl) ?_
        refine aops_nil ?_
        refine awp_cond rfl ?_ ?_
        · intro hc
          have hy : y.2.2 < (upC p.classes[j]).length := by simpa using hc
          refine awp_skip ?_
          refine awp_seq ?_
          refine awp_block ?_
          refine awp_seq ?_
          refine awp_drawM [0, 0, 0, 6, 14, 31, 63, 127, 255, 255, 255, 1791, 3839, 8191, 16383, 32767] 13 rfl (by kernel_rfl) ?_
          refine calm_load_ptr 2 (w0 rfl) rfl rfl rfl rfl rfl (ld_agg (Nat.le_of_ble_eq_true rfl)) ?_
          refine calm_e (w0 rfl) rfl (eff_move rfl rfl) ?_
          refine calm_e (w0 rfl) rfl (eff_move rfl rfl) ?_
          refine calm_e (w0 rfl) rfl (eff_indexAddr_ownN y.2.2 rfl rfl rfl (by first | omega | (simp only [List.length_map]; omega)) (by first | omega | (simp only [List.length_map]; omega)) (by omega)) ?_
          refine calm_load_ptr 0 (w0 rfl) rfl rfl rfl rfl (own_get (by omega)) ld_one ?_
          refine calm_e (w0 rfl) rfl (eff_call [] rfl rfl rfl (c_class p hbs _) List.nodup_nil) ?_
          refine calm_e (w0 rfl) rfl (eff_icmp rfl rfl rfl rfl) ?_
          refine calm_e (w0 rfl) rfl (eff_move rfl rfl) ?_
          refine calm_g (wT rfl rfl rfl rfl) rfl (fun hg => (eff_move rfl rfl)) ?_
          refine calm_g (wT rfl rfl rfl rfl) rfl (fun hg => (eff_move rfl rfl)) ?_
          refine calm_g (wT rfl rfl rfl rfl) rfl (fun hg => (eff_move rfl rfl)) ?_
          refine calm_g (wT rfl rfl rfl rfl) rfl (fun hg => (eff_indexAddr_ownN y.2.2 rfl (ev_g hg rfl) (ev_g hg rfl) (by (try simp at hg) <;> first | omega | (simp only [List.length_map]; omega)) (by (try simp at hg) <;> first | omega | (simp only [List.length_map]; omega)) (by omega))) ?_
          refine calm_gload 0 (wT rfl rfl rfl rfl) rfl rfl (fun hg => (ev_g hg rfl)) rfl (own_get (by omega)) ld_one ?_
          refine .done ?_
          refine aops_glend (x := bA (inL (addU p ((upC p.classes[j]).take y.2.2) x.2.1) ((upC p.classes[j]).getD y.2.2 default))) 1 (wT rfl rfl rfl rfl) rfl rfl rfl (fun hg => (evs_cons (ev_g hg rfl) (evs_cons (ev_g hg rfl) evs_nil))) rfl (.lend (by simp) (.keep .nil)) (fun hg => (c_in (addU p ((upC p.classes[j]).take y.2.2) x.2.1) hos ((upC p.classes[j]).getD y.2.2 default))) rfl ?_
          refine aops_g (wT rfl rfl rfl rfl) rfl (fun hg => (eff_not rfl (ev_g hg rfl))) ?_
          refine aops_e (w0 rfl) rfl (eff_and rfl rfl rfl (fun h => h)) ?_
          refine aops_nil ?_
          refine awp_cond rfl ?_ ?_
          · intro hc
            have e : addU p ((upC p.classes[j]).take (y.2.2 + 1)) x.2.1 = (addU p ((upC p.classes[j]).take y.2.2) x.2.1) ++ [(upC p.classes[j]).getD y.2.2 default] := by rw [addU_take hy, addS, ← getD_eq hy, ← classAt_nn]; exact if_pos hc
            refine awp_region ?_
            refine aops_e (w0 rfl) rfl (eff_move rfl rfl) ?_
            refine aops_e (w0 rfl) rfl (eff_move rfl rfl) ?_
            refine aops_e (w0 rfl) rfl (eff_move rfl rfl) ?_
            refine aops_e (w0 rfl) rfl (eff_indexAddr_ownN y.2.2 rfl rfl rfl (by first | omega | (simp only [List.length_map]; omega)) (by first | omega | (simp only [List.length_map]; omega)) (by omega)) ?_
            refine aops_load_ptr 0 (w0 rfl) rfl rfl rfl rfl (own_get (by omega)) ld_one ?_
            refine aops_n (w0 rfl) rfl (fun id => eff_buildSlice id (ps := [(0, .tmp 72)]) rfl rfl rfl rfl rfl rfl rfl rfl) (fun id13 => ?_)
            refine aops_append 2 (w0 rfl) rfl rfl rfl rfl (by simp) rfl ⟨rfl, _, _, List.mem_of_getElem? (i := 0) rfl, by simp, rfl⟩ (by first | omega | (simp; omega) | (simp [maxLen]; omega) | (simp; done) | (simp [maxLen]; done)) (by first | omega | (simp; omega) | (simp [maxLen]; omega) | (simp; done) | (simp [maxLen]; done)) (fun id14 => ?_)
            refine aops_e (w0 rfl) rfl (eff_assign rfl rfl) ?_
            refine aops_nil ?_
            refine awp_region ?_
            refine aops_e (w0 rfl) rfl (eff_move rfl rfl) ?_
            refine aops_e (w0 rfl) rfl (eff_arith rfl rfl rfl (arith_add (by first | omega | (simp only [List.length_map]; omega)))) ?_
            refine aops_e (w0 rfl) rfl (eff_assign rfl rfl) ?_
            refine aops_nil ?_
            refine ⟨(id14, y.2.1, y.2.2 + 1), (by show y.2.2 + 1 ≤ (upC p.classes[j]).length; omega), (by show (upC p.classes[j]).length - (y.2.2 + 1) < (upC p.classes[j]).length - y.2.2; omega), ?_⟩
            exact weak_pick [1, 2, 3] ⟨rfl, rfl, (by show some (AV.own _ _ _ _) = some (AV.own _ _ _ _); first | (rw [e]; done) | (rw [e]; simp [cellsA])), rfl, rfl, trivial⟩ (by show some [_, (_, AObj.rows _ _ _), _] = some [_, (_, AObj.rows _ _ _), _]; first | (rw [e]; done) | (rw [e]; simp [cellsA])) (by decide) rfl rfl
          · intro hc
            have e : addU p ((upC p.classes[j]).take (y.2.2 + 1)) x.2.1 = (addU p ((upC p.classes[j]).take y.2.2) x.2.1) := by rw [addU_take hy, addS, ← getD_eq hy, ← classAt_nn]; exact if_neg (by rw [hc]; exact Bool.false_ne_true)
            refine awp_skip ?_
            refine awp_region ?_
            refine aops_e (w0 rfl) rfl (eff_move rfl rfl) ?_
            refine aops_e (w0 rfl) rfl (eff_arith rfl rfl rfl (arith_add (by first | omega | (simp only [List.length_map]; omega)))) ?_
            refine aops_e (w0 rfl) rfl (eff_assign rfl rfl) ?_
            refine aops_nil ?_
            refine ⟨(y.1, y.2.1, y.2.2 + 1), (by show y.2.2 + 1 ≤ (upC p.classes[j]).length; omega), (by show (upC p.classes[j]).length - (y.2.2 + 1) < (upC p.classes[j]).length - y.2.2; omega), ?_⟩
            exact weak_pick [0, 1, 2] ⟨rfl, rfl, (by show some (AV.own _ _ _ _) = some (AV.own _ _ _ _); first | (rw [e]; done) | (rw [e]; simp [cellsA])), rfl, rfl, trivial⟩ (by show some [_, (_, AObj.rows _ _ _), _] = some [_, (_, AObj.rows _ _ _), _]; first | (rw [e]; done) | (rw [e]; simp [cellsA])) (by decide) rfl rfl
        · intro hc
          have hy : ¬ y.2.2 < (upC p.classes[j]).length := by simpa using hc
          have e2 : (addU p ((upC p.classes[j]).take y.2.2) x.2.1) = addU p (upC p.classes[j]) x.2.1 := by rw [List.take_of_length_le (by omega)]
          refine awp_exit ?_
          refine awp_region ?_
          refine aops_e (w0 rfl) rfl (eff_move rfl rfl) ?_
          refine aops_e (w0 rfl) rfl (eff_arith rfl rfl rfl (arith_add (by first | omega | (simp only [List.length_map]; omega)))) ?_
          refine aops_e (w0 rfl) rfl (eff_assign rfl rfl) ?_
          refine aops_nil ?_
          refine ⟨(y.1, addU p (upC p.classes[j]) x.2.1, x.2.2 + 1), (hJ.stepD hx h2), (by show p.classes.length - (x.2.2 + 1) < p.classes.length - x.2.2; omega), ?_⟩
          exact weak_pick [1, 2] ⟨rfl, (by show some (AV.own _ _ _ _) = some (AV.own _ _ _ _); rw [e2]), rfl, trivial⟩ (by show some [(_, AObj.rows _ _ _), _] = some [(_, AObj.rows _ _ _), _]; rw [e2]) (by decide) rfl rfl
    · intro hc
      have hx : ¬ x.2.2 < x.2.1.length := by simpa using hc
      refine awp_exit ?_
      refine awp_seq ?_
      refine awp_weak (weak_frz 0 5 (T' := []) rfl rfl (by simp) trivial) ?_
      refine awp_region ?_
      refine aops_e (w0 rfl) rfl (eff_move rfl rfl) ?_
      refine aops_e (w0 rfl) rfl (eff_call [] rfl rfl rfl (c_rising x.2.1 (by omega)) List.nodup_nil) ?_
      refine aops_e (w0 rfl) rfl (eff_assign rfl rfl) ?_
      refine aops_nil ?_
      refine awp_ret ?_
      exact retq rfl (res_tmp rfl res_nil) (gsome (risF x.2.1) ⟨x.2.1, rfl, hJ.fin hx, by omega⟩ rfl)
  · intro hc
    have hh : hasC p nm = false := (classAt_nn p nm).symm.trans hc
    refine awp_skip ?_
    refine awp_seq ?_
    refine awp_seq ?_
    refine awp_region ?_
    refine aops_e (w0 rfl) rfl (eff_assign rfl rfl) ?_
    refine aops_nil ?_
    refine awp_block ?_
    refine awp_loopJ (α := Nat × List Str × Nat) (fun x => ⟨[(6, iA x.2.2), (5, .own x.1 1 0 x.2.1.length), (2, .ptr id1 5 0 0)], [(x.1, .rows 9 1 (x.2.1.map fun x => [sA x])), (id1, .rows 27 5 [p.cells])], [], 77⟩) (fun x => AncB p nm x.2.1 x.2.2) (fun x => p.classes.length - x.2.2) (id2, [], 0) (AncB.start0 hh) ?_ ?_
    · exact weak_pick [0, 1] ⟨rfl, rfl, rfl, trivial⟩ rfl (by decide) rfl rfl
    rintro x hJ
    have hol := hJ.len
    refine awp_seq ?_
    refine awp_seq ?_
    refine awp_region ?_
    refine aops_e (w0 rfl) rfl (eff_move rfl rfl) ?_
    refine aops_e (w0 rfl) rfl (eff_move rfl rfl) ?_
    refine aops_e (w0 rfl) rfl (eff_len rfl rfl rfl rfl) ?_
    refine aops_e (w0 rfl) rfl (eff_icmp rfl rfl rfl rfl) ?_
    refine aops_nil ?_
    refine awp_cond rfl ?_ ?_
    · intro hc
      have hx : x.2.2 < x.2.1.length := by simpa using hc
      refine awp_skip ?_
      refine awp_seq ?_
      refine awp_block ?_
      refine awp_seq ?_
      obtain ⟨j, hj, h1, h2⟩ := hJ.idx hx
      have hif1 := hif _ (List.getElem_mem hj)
      have hul := upC_len hif1
      refine awp_drawN 11 rfl (by kernel_rfl) ?_
      refine calm_e (w0 rfl) rfl (eff_fieldAddr rfl rfl rfl) ?_
      refine calm_load_ptr 1 (w0 rfl) rfl rfl rfl rfl rfl ld_one ?_
      refine calm_load_ptr 1 (w0 rfl) rfl rfl rfl rfl rfl (ld_agg (Nat.le_of_ble_eq_true rfl)) ?_
      refine calm_e (w0 rfl) rfl (eff_move rfl rfl) ?_
      refine calm_e (w0 rfl) rfl (eff_move rfl rfl) ?_
      refine calm_e (w0 rfl) rfl (eff_indexAddr_ownN x.2.2 rfl rfl rfl (by first | omega | (simp only [List.length_map]; omega)) (by first | omega | (simp only [List.length_map]; omega)) (by omega)) ?_
      refine calm_load_ptr 0 (w0 rfl) rfl rfl rfl rfl (own_get (by omega)) ld_one ?_
      refine calm_e (w0 rfl) rfl (eff_call [] rfl rfl rfl (show ACalls Try.prog 32 [p.av, sA (x.2.1.getD x.2.2 default)] [] (Gives (iA j)) from h1 ▸ c_class p hbs _) List.nodup_nil) ?_
      refine calm_e (w0 rfl) rfl (eff_indexAddr_lst rfl rfl rfl (len_map (fun _ => rfl)) (by first | omega | (simp only [List.length_map]; omega)) (by first | omega | (simp only [List.length_map]; omega))) ?_
      refine calm_e (w0 rfl) rfl (eff_loadE rfl rfl (map_get (by first | assumption | omega)) (ld_agg (Nat.le_of_ble_eq_true rfl))) ?_
      refine calm_n (w0 rfl) rfl (fun id => eff_alloc id rfl rfl rfl) (fun id15 => ?_)
      refine .done ?_
      refine aops_store 0 (w0 rfl) rfl rfl rfl rfl rfl rfl rfl rfl rfl ?_
      refine aops_nil ?_
      refine awp_seq ?_
      refine awp_region ?_
      refine aops_n (w0 rfl) rfl (fun id => eff_nil id 9 1 (.inl rfl) rfl) (fun id16 => ?_)
      refine aops_nil ?_
      refine awp_seq ?_
      refine awp_seq ?_
      refine awp_region ?_
      refine aops_e (w0 rfl) rfl (eff_fieldAddr rfl rfl rfl) ?_
      refine aops_load_ptr 1 (w0 rfl) rfl rfl rfl rfl rfl ld_one ?_
      refine aops_e (w0 rfl) rfl (eff_scmp rfl rfl rfl rfl) ?_
      refine aops_nil ?_
      refine awp_cond rfl ?_ ?_
      · intro hc
        have hs : beqS p.classes[j].super zS = false := notT hc
        refine awp_region ?_
        refine aops_e (w0 rfl) rfl (eff_move rfl rfl) ?_
        refine aops_e (w0 rfl) rfl (eff_fieldAddr rfl rfl rfl) ?_
        refine aops_load_ptr 1 (w0 rfl) rfl rfl rfl rfl rfl ld_one ?_
        refine aops_n (w0 rfl) rfl (fun id => eff_buildSlice id (ps := [(0, .tmp 39)]) rfl rfl rfl rfl rfl rfl rfl rfl) (fun id17 => ?_)
        refine aops_append 1 (w0 rfl) rfl rfl rfl rfl rfl rfl ⟨rfl, _, _, List.mem_of_getElem? (i := 0) rfl, by simp, rfl⟩ (by first | omega | (simp; omega) | (simp [maxLen]; omega) | (simp; done) | (simp [maxLen]; done)) (by first | omega | (simp; omega) | (simp [maxLen]; omega) | (simp; done) | (simp [maxLen]; done)) (fun id18 => ?_)
        refine aops_e (w0 rfl) rfl (eff_assign rfl rfl) ?_
        refine aops_nil ?_
        refine awp_seq ?_
        refine awp_region ?_
        refine aops_e (w0 rfl) rfl (eff_move rfl rfl) ?_
        refine aops_e (w0 rfl) rfl (eff_fieldAddr rfl rfl rfl) ?_
        refine aops_load_ptr 2 (w0 rfl) rfl rfl rfl rfl rfl ld_one ?_
        refine aops_append 1 (w0 rfl) rfl rfl rfl rfl (by simp) rfl ⟨rfl, len_map (fun _ => rfl)⟩ (by first | omega | (simp; omega) | (simp [maxLen]; omega) | (simp; done) | (simp [maxLen]; done)) (by first | omega | (simp; omega) | (simp [maxLen]; omega) | (simp; done) | (simp [maxLen]; done)) (fun id19 => ?_)
        refine aops_e (w0 rfl) rfl (eff_assign rfl rfl) ?_
        refine aops_nil ?_
        refine awp_seq ?_
        refine awp_region ?_
        refine aops_e (w0 rfl) rfl (eff_assign rfl rfl) ?_
        refine aops_nil ?_
        refine awp_block ?_
        refine awp_loopJ (α := Nat × Nat × Nat) (fun y => ⟨[(9, iA y.2.2), (8, .own y.2.1 1 0 (upC p.classes[j]).length), (5, .own y.1 1 0 (addU p ((upC p.classes[j]).take y.2.2) x.2.1).length), (6, iA x.2.2), (2, .ptr id1 5 0 0)], [(y.2.1, .rows 9 1 ((upC p.classes[j]).map fun x => [sA x])), (y.1, .rows 9 1 ((addU p ((upC p.classes[j]).take y.2.2) x.2.1).map fun x => [sA x])), (id1, .rows 27 5 [p.cells])], [], 77⟩) (fun y => y.2.2 ≤ (upC p.classes[j]).length) (fun y => (upC p.classes[j]).length - y.2.2) (x.1, id19, 0) (Nat.zero_le _) ?_ ?_
        · exact weak_pick [1, 3, 4] ⟨rfl, (by show some (AV.own _ _ _ _) = some (AV.own _ _ _ _); simp [upC, hs, Nat.add_comm]), rfl, rfl, rfl, trivial⟩ (by show some [(_, AObj.rows _ _ _), (_, AObj.rows _ _ _), _] = some [(_, AObj.rows _ _ _), (_, AObj.rows _ _ _), _]; simp [upC, hs, cellsA, addU]) (by decide) rfl rfl
        rintro y hJ1
        have hal := (hJ.inner ((upC p.classes[j]).take y.2.2))
        have hos : small (addU p ((upC p.classes[j]).take y.2.2) x.2.1).length := by unfold small; omega
        refine awp_seq ?_
        refine awp_seq ?_
        refine awp_region ?_
        refine aops_e (w0 rfl) rfl (eff_move rfl rfl) ?_
        refine aops_e (w0 rfl) rfl (eff_move rfl rfl) ?_
        refine aops_e (w0 rfl) rfl (eff_len rfl rfl rfl rfl) ?_
        refine aops_e (w0 rfl) rfl (eff_icmp rfl rfl rfl rfl) ?_
        refine aops_nil ?_
        refine awp_cond rfl ?_ ?_
        · intro hc
          have hy : y.2.2 < (upC p.classes[j]).length := by simpa using hc
          refine awp_skip ?_
          refine awp_seq ?_
          refine awp_block ?_
          refine awp_seq ?_
          refine awp_drawM [0, 0, 0, 6, 14, 31, 63, 127, 255, 255, 255, 1791, 3839, 8191, 16383, 32767] 13 rfl (by kernel_rfl) ?_
          refine calm_load_ptr 2 (w0 rfl) rfl rfl rfl rfl rfl (ld_agg (Nat.le_of_ble_eq_true rfl)) ?_
          refine calm_e (w0 rfl) rfl (eff_move rfl rfl) ?_
          refine calm_e (w0 rfl) rfl (eff_move rfl rfl) ?_
          refine calm_e (w0 rfl) rfl (eff_indexAddr_ownN y.2.2 rfl rfl rfl (by first | omega | (simp only [List.length_map]; omega)) (by first | omega | (simp only [List.length_map]; omega)) (by omega)) ?_
          refine calm_load_ptr 0 (w0 rfl) rfl rfl rfl rfl (own_get (by omega)) ld_one ?_
          refine calm_e (w0 rfl) rfl (eff_call [] rfl rfl rfl (c_class p hbs _) List.nodup_nil) ?_
          refine calm_e (w0 rfl) rfl (eff_icmp rfl rfl rfl rfl) ?_
          refine calm_e (w0 rfl) rfl (eff_move rfl rfl) ?_
          refine calm_g (wT rfl rfl rfl rfl) rfl (fun hg => (eff_move rfl rfl)) ?_
          refine calm_g (wT rfl rfl rfl rfl) rfl (fun hg => (eff_move rfl rfl)) ?_
          refine calm_g (wT rfl rfl rfl rfl) rfl (fun hg => (eff_move rfl rfl)) ?_
          refine calm_g (wT rfl rfl rfl rfl) rfl (fun hg => (eff_indexAddr_ownN y.2.2 rfl (ev_g hg rfl) (ev_g hg rfl) (by (try simp at hg) <;> first | omega | (simp only [List.length_map]; omega)) (by (try simp at hg) <;> first | omega | (simp only [List.length_map]; omega)) (by omega))) ?_
          refine calm_gload 0 (wT rfl rfl rfl rfl) rfl rfl (fun hg => (ev_g hg rfl)) rfl (own_get (by omega)) ld_one ?_
          refine .done ?_
          refine aops_glend (x := bA (inL (addU p ((upC p.classes[j]).take y.2.2) x.2.1) ((upC p.classes[j]).getD y.2.2 default))) 1 (wT rfl rfl rfl rfl) rfl rfl rfl (fun hg => (evs_cons (ev_g hg rfl) (evs_cons (ev_g hg rfl) evs_nil))) rfl (.lend (by simp) (.keep .nil)) (fun hg => (c_in (addU p ((upC p.classes[j]).take y.2.2) x.2.1) hos ((upC p.classes[j]).getD y.2.2 default))) rfl ?_
          refine aops_g (wT rfl rfl rfl rfl) rfl (fun hg => (eff_not rfl (ev_g hg rfl))) ?_
          refine aops_e (w0 rfl) rfl (eff_and rfl rfl rfl (fun h => h)) ?_
          refine aops_nil ?_
          refine awp_cond rfl ?_ ?_
          · intro hc
            have e : addU p ((upC p.classes[j]).take (y.2.2 + 1)) x.2.1 = (addU p ((upC p.classes[j]).take y.2.2) x.2.1) ++ [(upC p.classes[j]).getD y.2.2 default] := by rw [addU_take hy, addS, ← getD_eq hy, ← classAt_nn]; exact if_pos hc
            refine awp_region ?_
            refine aops_e (w0 rfl) rfl (eff_move rfl rfl) ?_
            refine aops_e (w0 rfl) rfl (eff_move rfl rfl) ?_
            refine aops_e (w0 rfl) rfl (eff_move rfl rfl) ?_
            refine aops_e (w0 rfl) rfl (eff_indexAddr_ownN y.2.2 rfl rfl rfl (by first | omega | (simp only [List.length_map]; omega)) (by first | omega | (simp only [List.length_map]; omega)) (by omega)) ?_
            refine aops_load_ptr 0 (w0 rfl) rfl rfl rfl rfl (own_get (by omega)) ld_one ?_
            refine aops_n (w0 rfl) rfl (fun id => eff_buildSlice id (ps := [(0, .tmp 72)]) rfl rfl rfl rfl rfl rfl rfl rfl) (fun id20 => ?_)
            refine aops_append 2 (w0 rfl) rfl rfl rfl rfl (by simp) rfl ⟨rfl, _, _, List.mem_of_getElem? (i := 0) rfl, by simp, rfl⟩ (by first | omega | (simp; omega) | (simp [maxLen]; omega) | (simp; done) | (simp [maxLen]; done)) (by first | omega | (simp; omega) | (simp [maxLen]; omega) | (simp; done) | (simp [maxLen]; done)) (fun id21 => ?_)
            refine aops_e (w0 rfl) rfl (eff_assign rfl rfl) ?_
            refine aops_nil ?_
            refine awp_region ?_
            refine aops_e (w0 rfl) rfl (eff_move rfl rfl) ?_
            refine aops_e (w0 rfl) rfl (eff_arith rfl rfl rfl (arith_add (by first | omega | (simp only [List.length_map]; omega)))) ?_
            refine aops_e (w0 rfl) rfl (eff_assign rfl rfl) ?_
            refine aops_nil ?_
            refine ⟨(id21, y.2.1, y.2.2 + 1), (by show y.2.2 + 1 ≤ (upC p.classes[j]).length; omega), (by show (upC p.classes[j]).length - (y.2.2 + 1) < (upC p.classes[j]).length - y.2.2; omega), ?_⟩
            exact weak_pick [1, 2, 3] ⟨rfl, rfl, (by show some (AV.own _ _ _ _) = some (AV.own _ _ _ _); first | (rw [e]; done) | (rw [e]; simp [cellsA])), rfl, rfl, trivial⟩ (by show some [_, (_, AObj.rows _ _ _), _] = some [_, (_, AObj.rows _ _ _), _]; first | (rw [e]; done) | (rw [e]; simp [cellsA])) (by decide) rfl rfl
          · intro hc
            have e : addU p ((upC p.classes[j]).take (y.2.2 + 1)) x.2.1 = (addU p ((upC p.classes[j]).take y.2.2) x.2.1) := by rw [addU_take hy, addS, ← getD_eq hy, ← classAt_nn]; exact if_neg (by rw [hc]; exact Bool.false_ne_true)
            refine awp_skip ?_
            refine awp_region ?_
            refine aops_e (w0 rfl) rfl (eff_move rfl rfl) ?_
            refine aops_e (w0 rfl) rfl (eff_arith rfl rfl rfl (arith_add (by first | omega | (simp only [List.length_map]; omega)))) ?_
            refine aops_e (w0 rfl) rfl (eff_assign rfl rfl) ?_
            refine aops_nil ?_
            refine ⟨(y.1, y.2.1, y.2.2 + 1), (by show y.2.2 + 1 ≤ (upC p.classes[j]).length; omega), (by show (upC p.classes[j]).length - (y.2.2 + 1) < (upC p.classes[j]).length - y.2.2; omega), ?_⟩
            exact weak_pick [0, 1, 2] ⟨rfl, rfl, (by show some (AV.own _ _ _ _) = some (AV.own _ _ _ _); first | (rw [e]; done) | (rw [e]; simp [cellsA])), rfl, rfl, trivial⟩ (by show some [_, (_, AObj.rows _ _ _), _] = some [_, (_, AObj.rows _ _ _), _]; first | (rw [e]; done) | (rw [e]; simp [cellsA])) (by decide) rfl rfl
        · intro hc
          have hy : ¬ y.2.2 < (upC p.classes[j]).length := by simpa using hc
          have e2 : (addU p ((upC p.classes[j]).take y.2.2) x.2.1) = addU p (upC p.classes[j]) x.2.1 := by rw [List.take_of_length_le (by omega)]
          refine awp_exit ?_
          refine awp_region ?_
          refine aops_e (w0 rfl) rfl (eff_move rfl rfl) ?_
          refine aops_e (w0 rfl) rfl (eff_arith rfl rfl rfl (arith_add (by first | omega | (simp only [List.length_map]; omega)))) ?_
          refine aops_e (w0 rfl) rfl (eff_assign rfl rfl) ?_
          refine aops_nil ?_
          refine ⟨(y.1, addU p (upC p.classes[j]) x.2.1, x.2.2 + 1), (hJ.stepD hx h2), (by show p.classes.length - (x.2.2 + 1) < p.classes.length - x.2.2; omega), ?_⟩
          exact weak_pick [1, 2] ⟨rfl, (by show some (AV.own _ _ _ _) = some (AV.own _ _ _ _); rw [e2]), rfl, trivial⟩ (by show some [(_, AObj.rows _ _ _), _] = some [(_, AObj.rows _ _ _), _]; rw [e2]) (by decide) rfl rfl
      · intro hc
        have hs : beqS p.classes[j].super zS = true := notF hc
        refine awp_skip ?_
        refine awp_seq ?_
        refine awp_region ?_
        refine aops_e (w0 rfl) rfl (eff_move rfl rfl) ?_
        refine aops_e (w0 rfl) rfl (eff_fieldAddr rfl rfl rfl) ?_
        refine aops_load_ptr 1 (w0 rfl) rfl rfl rfl rfl rfl ld_one ?_
        refine aops_append 0 (w0 rfl) rfl rfl rfl rfl (by simp) rfl ⟨rfl, len_map (fun _ => rfl)⟩ (by first | omega | (simp; omega) | (simp [maxLen]; omega) | (simp; done) | (simp [maxLen]; done)) (by first | omega | (simp; omega) | (simp [maxLen]; omega) | (simp; done) | (simp [maxLen]; done)) (fun id22 => ?_)
        refine aops_e (w0 rfl) rfl (eff_assign rfl rfl) ?_
        refine aops_nil ?_
        refine awp_seq ?_
        refine awp_region ?_
        refine aops_e (w0 rfl) rfl (eff_assign rfl rfl) ?_
        refine aops_nil ?_
        refine awp_block ?_
        refine awp_loopJ (α := Nat × Nat × Nat) (fun y => ⟨[(9, iA y.2.2), (8, .own y.2.1 1 0 (upC p.classes[j]).length), (5, .own y.1 1 0 (addU p ((upC p.classes[j]).take y.2.2) x.2.1).length), (6, iA x.2.2), (2, .ptr id1 5 0 0)], [(y.2.1, .rows 9 1 ((upC p.classes[j]).map fun x => [sA x])), (y.1, .rows 9 1 ((addU p ((upC p.classes[j]).take y.2.2) x.2.1).map fun x => [sA x])), (id1, .rows 27 5 [p.cells])], [], 77⟩) (fun y => y.2.2 ≤ (upC p.classes[j]).length) (fun y => (upC p.classes[j]).length - y.2.2) (x.1, id22, 0) (Nat.zero_le _) ?_ ?_
        · exact weak_pick [0, 2, 3] ⟨rfl, (by show some (AV.own _ _ _ _) = some (AV.own _ _ _ _); simp [upC, hs, Nat.add_comm]), rfl, rfl, rfl, trivial⟩ (by show some [(_, AObj.rows _ _ _), (_, AObj.rows _ _ _), _] = some [(_, AObj.rows _ _ _), (_, AObj.rows _ _ _), _]; simp [upC, hs, cellsA, addU]) (by decide) rfl rfl
        rintro y hJ1
        have hal := (hJ.inner ((upC p.classes[j]).take y.2.2))
        have hos : small (addU p ((upC p.classes[j]).take y.2.2) x.2.1).length := by unfold small; omega
        refine awp_seq ?_
        refine awp_seq ?_
        refine awp_region ?_
        refine aops_e (w0 rfl) rfl (eff_move rfl rfl) ?_
        refine aops_e (w0 rfl) rfl (eff_move rfl rfl) ?_
        refine aops_e (w0 rfl) rfl (eff_len rfl rfl rfl rfl) ?_
        refine aops_e (w0 rfl) rfl (eff_icmp rfl rfl rfl rfl) ?_
        refine aops_nil ?_
        refine awp_cond rfl ?_ ?_
        · intro hc
          have hy : y.2.2 < (upC p.classes[j]).length := by simpa using hc
          refine awp_skip ?_
          refine awp_seq ?_
          refine awp_block ?_
          refine awp_seq ?_
          refine awp_drawM [0, 0, 0, 6, 14, 31, 63, 127, 255, 255, 255, 1791, 3839, 8191, 16383, 32767] 13 rfl (by kernel_rfl) ?_
          refine calm_load_ptr 2 (w0 rfl) rfl rfl rfl rfl rfl (ld_agg (Nat.le_of_ble_eq_true rfl)) ?_
          refine calm_e (w0 rfl) rfl (eff_move rfl rfl) ?_
          refine calm_e (w0 rfl) rfl (eff_move rfl rfl) ?_
          refine calm_e (w0 rfl) rfl (eff_indexAddr_ownN y.2.2 rfl rfl rfl (by first | omega | (simp only [List.length_map]; omega)) (by first | omega | (simp only [List.length_map]; omega)) (by omega)) ?_
          refine calm_load_ptr 0 (w0 rfl) rfl rfl rfl rfl (own_get (by omega)) ld_one ?_
          refine calm_e (w0 rfl) rfl (eff_call [] rfl rfl rfl (c_class p hbs _) List.nodup_nil) ?_
          refine calm_e (w0 rfl) rfl (eff_icmp rfl rfl rfl rfl) ?_
          refine calm_e (w0 rfl) rfl (eff_move rfl rfl) ?_
          refine calm_g (wT rfl rfl rfl rfl) rfl (fun hg => (eff_move rfl rfl)) ?_
          refine calm_g (wT rfl rfl rfl rfl) rfl (fun hg => (eff_move rfl rfl)) ?_
          refine calm_g (wT rfl rfl rfl rfl) rfl (fun hg => (eff_move rfl rfl)) ?_
          refine calm_g (wT rfl rfl rfl rfl) rfl (fun hg => (eff_indexAddr_ownN y.2.2 rfl (ev_g hg rfl) (ev_g hg rfl) (by (try simp at hg) <;> first | omega | (simp only [List.length_map]; omega)) (by (try simp at hg) <;> first | omega | (simp only [List.length_map]; omega)) (by omega))) ?_
          refine calm_gload 0 (wT rfl rfl rfl rfl) rfl rfl (fun hg => (ev_g hg rfl)) rfl (own_get (by omega)) ld_one ?_
          refine .done ?_
          refine aops_glend (x := bA (inL (addU p ((upC p.classes[j]).take y.2.2) x.2.1) ((upC p.classes[j]).getD y.2.2 default))) 1 (wT rfl rfl rfl rfl) rfl rfl rfl (fun hg => (evs_cons (ev_g hg rfl) (evs_cons (ev_g hg rfl) evs_nil))) rfl (.lend (by simp) (.keep .nil)) (fun hg => (c_in (addU p ((upC p.classes[j]).take y.2.2) x.2.1) hos ((upC p.classes[j]).getD y.2.2 default))) rfl ?_
          refine aops_g (wT rfl rfl rfl rfl) rfl (fun hg => (eff_not rfl (ev_g hg rfl))) ?_
          refine aops_e (w0 rfl) rfl (eff_and rfl rfl rfl (fun h => h)) ?_
          refine aops_nil ?_
          refine awp_cond rfl ?_ ?_
          · intro hc
            have e : addU p ((upC p.classes[j]).take (y.2.2 + 1)) x.2.1 = (addU p ((upC p.classes[j]).take y.2.2) x.2.1) ++ [(upC p.classes[j]).getD y.2.2 default] := by rw [addU_take hy, addS, ← getD_eq hy, ← classAt_nn]; exact if_pos hc
            refine awp_region ?_
            refine aops_e (w0 rfl) rfl (eff_move rfl rfl) ?_
            refine aops_e (w0 rfl) rfl (eff_move rfl rfl) ?_
            refine aops_e (w0 rfl) rfl (eff_move rfl rfl) ?_
            refine aops_e (w0 rfl) rfl (eff_indexAddr_ownN y.2.2 rfl rfl rfl (by first | omega | (simp only [List.length_map]; omega)) (by first | omega | (simp only [List.length_map]; omega)) (by omega)) ?_
            refine aops_load_ptr 0 (w0 rfl) rfl rfl rfl rfl (own_get (by omega)) ld_one ?_
            refine aops_n (w0 rfl) rfl (fun id => eff_buildSlice id (ps := [(0, .tmp 72)]) rfl rfl rfl rfl rfl rfl rfl rfl) (fun id23 => ?_)
            refine aops_append 2 (w0 rfl) rfl rfl rfl rfl (by simp) rfl ⟨rfl, _, _, List.mem_of_getElem? (i := 0) rfl, by simp, rfl⟩ (by first | omega | (simp; omega) | (simp [maxLen]; omega) | (simp; done) | (simp [maxLen]; done)) (by first | omega | (simp; omega) | (simp [maxLen]; omega) | (simp; done) | (simp [maxLen]; done)) (fun id24 => ?_)
            refine aops_e (w0 rfl) rfl (eff_assign rfl rfl) ?_
            refine aops_nil ?_
            refine awp_region ?_
            refine aops_e (w0 rfl) rfl (eff_move rfl rfl) ?_
            refine aops_e (w0 rfl) rfl (eff_arith rfl rfl rfl (arith_add (by first | omega | (simp only [List.length_map]; omega)))) ?_
            refine aops_e (w0 rfl) rfl (eff_assign rfl rfl) ?_
            refine aops_nil ?_
            refine ⟨(id24, y.2.1, y.2.2 + 1), (by show y.2.2 + 1 ≤ (upC p.classes[j]).length; omega), (by show (upC p.classes[j]).length - (y.2.2 + 1) < (upC p.classes[j]).length - y.2.2; omega), ?_⟩
            exact weak_pick [1, 2, 3] ⟨rfl, rfl, (by show some (AV.own _ _ _ _) = some (AV.own _ _ _ _); first | (rw [e]; done) | (rw [e]; simp [cellsA])), rfl, rfl, trivial⟩ (by show some [_, (_, AObj.rows _ _ _), _] = some [_, (_, AObj.rows _ _ _), _]; first | (rw [e]; done) | (rw [e]; simp [cellsA])) (by decide) rfl rfl
          · intro hc
            have e : addU p ((upC p.classes[j]).take (y.2.2 + 1)) x.2.1 = (addU p ((upC p.classes[j]).take y.2.2) x.2.1) := by rw [addU_take hy, addS, ← getD_eq hy, ← classAt_nn]; exact if_neg (by rw [hc]; exact Bool.false_ne_true)
            refine awp_skip ?_
            refine awp_region ?_
            refine aops_e (w0 rfl) rfl (eff_move rfl rfl) ?_
            refine aops_e (w0 rfl) rfl (eff_arith rfl rfl rfl (arith_add (by first | omega | (simp only [List.length_map]; omega)))) ?_
            refine aops_e (w0 rfl) rfl (eff_assign rfl rfl) ?_
            refine aops_nil ?_
            refine ⟨(y.1, y.2.1, y.2.2 + 1), (by show y.2.2 + 1 ≤ (upC p.classes[j]).length; omega), (by show (upC p.classes[j]).length - (y.2.2 + 1) < (upC p.classes[j]).length - y.2.2; omega), ?_⟩
            exact weak_pick [0, 1, 2] ⟨rfl, rfl, (by show some (AV.own _ _ _ _) = some (AV.own _ _ _ _); first | (rw [e]; done) | (rw [e]; simp [cellsA])), rfl, rfl, trivial⟩ (by show some [_, (_, AObj.rows _ _ _), _] = some [_, (_, AObj.rows _ _ _), _]; first | (rw [e]; done) | (rw [e]; simp [cellsA])) (by decide) rfl rfl
        · intro hc
          have hy : ¬ y.2.2 < (upC p.classes[j]).length := by simpa using hc
          have e2 : (addU p ((upC p.classes[j]).take y.2.2) x.2.1) = addU p (upC p.classes[j]) x.2.1 := by rw [List.take_of_length_le (by omega)]
          refine awp_exit ?_
          refine awp_region ?_
          refine aops_e (w0 rfl) rfl (eff_move rfl rfl) ?_
          refine aops_e (w0 rfl) rfl (eff_arith rfl rfl rfl (arith_add (by first | omega | (simp only [List.length_map]; omega)))) ?_
          refine aops_e (w0 rfl) rfl (eff_assign rfl rfl) ?_
          refine aops_nil ?_
          refine ⟨(y.1, addU p (upC p.classes[j]) x.2.1, x.2.2 + 1), (hJ.stepD hx h2), (by show p.classes.length - (x.2.2 + 1) < p.classes.length - x.2.2; omega), ?_⟩
          exact weak_pick [1, 2] ⟨rfl, (by show some (AV.own _ _ _ _) = some (AV.own _ _ _ _); rw [e2]), rfl, trivial⟩ (by show some [(_, AObj.rows _ _ _), _] = some [(_, AObj.rows _ _ _), _]; rw [e2]) (by decide) rfl rfl
    · intro hc
      have hx : ¬ x.2.2 < x.2.1.length := by simpa using hc
      refine awp_exit ?_
      refine awp_seq ?_
      refine awp_weak (weak_frz 0 5 (T' := []) rfl rfl (by simp) trivial) ?_
      refine awp_region ?_
      refine aops_e (w0 rfl) rfl (eff_move rfl rfl) ?_
      refine aops_e (w0 rfl) rfl (eff_call [] rfl rfl rfl (c_rising x.2.1 (by omega)) List.nodup_nil) ?_
      refine aops_e (w0 rfl) rfl (eff_assign rfl rfl) ?_
      refine aops_nil ?_
      refine awp_ret ?_
      exact retq rfl (res_tmp rfl res_nil) (gsome (risF x.2.1) ⟨x.2.1, rfl, hJ.fin hx, by omega⟩ rfl)

theorem c_refSub (p : Prog) (hb : p.classes.length ≤ 1000) (hif : ∀ c, c ∈ p.classes → c.ifaces.length ≤ 1000) (a b : Str) : ACalls Try.prog 34 [p.av, sA a, sA b] [] (Gives (bA (subP p a b))) := by
  refine acalls_of (n := 12) Try.func34 rfl (by decide +kernel) rfl rfl ?_
  refine awp_seq ?_
  refine awp_region ?_
  refine aops_n (w0 rfl) rfl (fun id => eff_box id rfl rfl rfl rfl rfl) (fun id1 => ?_)
  refine aops_e (w0 rfl) rfl (eff_assign rfl rfl) ?_
  refine aops_nil ?_
  refine awp_seq ?_
  refine awp_region ?_
  refine aops_load_ptr 0 (w0 rfl) rfl rfl rfl rfl rfl (ld_agg (Nat.le_of_ble_eq_true rfl)) ?_
  refine aops_e (w0 rfl) rfl (eff_move rfl rfl) ?_
  refine aops_callS (w0 rfl) rfl rfl rfl rfl (c_refAnc p hb hif a) (fun v2 hv2 => ?_)
  obtain ⟨out, rfl, hm, ho⟩ := hv2
  refine aops_e (w0 rfl) rfl (eff_move rfl rfl) ?_
  refine aops_e (w0 rfl) rfl (eff_call [] rfl rfl rfl (c_in (risF out) (by have := risF_len out; unfold small; omega) b) List.nodup_nil) ?_
  refine aops_e (w0 rfl) rfl (eff_assign rfl rfl) ?_
  refine aops_nil ?_
  refine awp_ret ?_
  exact retq rfl (res_tmp rfl res_nil) (gb (inL_subP (fun s => (risF_mem out s).trans (hm s))))

theorem c_refCheck (p : Prog) (hb : p.classes.length ≤ 1000) (hif : ∀ c, c ∈ p.classes → c.ifaces.length ≤ 1000) : ACalls Try.prog 23 [p.av] [] (Gives (.tup [iA (checkP p).1, sA (checkP p).2])) := by
  have hbs : small p.classes.length := by unfold small; omega
  refine acalls_of (n := 123) Try.func23 rfl (by decide +kernel) rfl rfl ?_
  refine awp_seq ?_
  refine awp_region ?_
  refine aops_n (w0 rfl) rfl (fun id => eff_box id rfl rfl rfl rfl rfl) (fun id1 => ?_)
  refine aops_e (w0 rfl) rfl (eff_assign rfl rfl) ?_
  refine aops_e (w0 rfl) rfl (eff_assign rfl rfl) ?_
  refine aops_nil ?_
  refine awp_seq ?_
  refine awp_seq ?_
  refine awp_region ?_
  refine aops_e (w0 rfl) rfl (eff_assign rfl rfl) ?_
  refine aops_nil ?_
  refine awp_block ?_
  refine awp_loopJ (α := Nat) (fun i => ⟨[(4, iA i), (1, .ptr id1 5 0 0)], [(id1, .rows 27 5 [p.cells])], [], 123⟩) (fun i => i ≤ p.classes.length ∧ (p.classes.drop i).find? (f1 p) = p.classes.find? (f1 p)) (fun i => p.classes.length - i) 0 ⟨Nat.zero_le _, rfl⟩ ?_ ?_
  · exact weak_pick [0] ⟨rfl, rfl, trivial⟩ rfl (by decide) rfl rfl
  rintro i hJ
  refine awp_seq ?_
  refine awp_seq ?_
  refine awp_region ?_
  refine aops_e (w0 rfl) rfl (eff_move rfl rfl) ?_
  refine aops_e (w0 rfl) rfl (eff_fieldAddr rfl rfl rfl) ?_
  refine aops_load_ptr 0 (w0 rfl) rfl rfl rfl rfl rfl ld_one ?_
  refine aops_e (w0 rfl) rfl (eff_len rfl rfl rfl rfl) ?_
  refine aops_e (w0 rfl) rfl (eff_icmp rfl rfl rfl rfl) ?_
  refine aops_nil ?_
  refine awp_cond rfl ?_ ?_
  · intro hc
    have hi : i < p.classes.length := by simpa using hc
    have hil := hif _ (List.getElem_mem hi)
    refine awp_skip ?_
    refine awp_seq ?_
    refine awp_block ?_
    refine awp_seq ?_
    refine awp_region ?_
    refine aops_e (w0 rfl) rfl (eff_fieldAddr rfl rfl rfl) ?_
    refine aops_load_ptr 0 (w0 rfl) rfl rfl rfl rfl rfl ld_one ?_
    refine aops_e (w0 rfl) rfl (eff_move rfl rfl) ?_
    refine aops_e (w0 rfl) rfl (eff_indexAddr_lst rfl rfl rfl (len_map (fun _ => rfl)) (by first | omega | (simp only [List.length_map]; omega)) (by first | omega | (simp only [List.length_map]; omega))) ?_
    refine aops_e (w0 rfl) rfl (eff_loadE rfl rfl (map_get (by first | assumption | omega)) (ld_agg (Nat.le_of_ble_eq_true rfl))) ?_
    refine aops_n (w0 rfl) rfl (fun id => eff_alloc id rfl rfl rfl) (fun id2 => ?_)
    refine aops_store 0 (w0 rfl) rfl rfl rfl rfl rfl rfl rfl rfl rfl ?_
    refine aops_nil ?_
    refine awp_seq ?_
    refine awp_seq ?_
    refine awp_region ?_
    refine aops_e (w0 rfl) rfl (eff_fieldAddr rfl rfl rfl) ?_
    refine aops_load_ptr 0 (w0 rfl) rfl rfl rfl rfl rfl ld_one ?_
    refine aops_e (w0 rfl) rfl (eff_scmp rfl rfl rfl rfl) ?_
    refine aops_e (w0 rfl) rfl (eff_move rfl rfl) ?_
    refine aops_gload 1 (wT rfl rfl rfl rfl) rfl rfl (fun hg => rfl) rfl rfl (ld_agg (Nat.le_of_ble_eq_true rfl)) ?_
    refine aops_g (wT rfl rfl rfl rfl) rfl (fun hg => (eff_fieldAddr rfl rfl rfl)) ?_
    refine aops_gload 0 (wT rfl rfl rfl rfl) rfl rfl (fun hg => (ev_g hg rfl)) rfl rfl ld_one ?_
    refine aops_g (wT rfl rfl rfl rfl) rfl (fun hg => (eff_call [] rfl rfl (evs_cons (ev_g hg rfl) (evs_cons (ev_g hg rfl) evs_nil)) (c_class p hbs _) List.nodup_nil)) ?_
    refine aops_g (wT rfl rfl rfl rfl) rfl (fun hg => (eff_icmp rfl (ev_g hg rfl) rfl rfl)) ?_
    refine aops_e (w0 rfl) rfl (eff_and rfl rfl rfl (fun h => h)) ?_
    refine aops_nil ?_
    refine awp_cond rfl ?_ ?_
    · intro hc
      have hs1 : (!beqS p.classes[i].super zS && !hasC p p.classes[i].super) = true := by rw [← classAt_neg]; exact hc
      have h7 : chk1 p p.classes[i] = 7 := by unfold chk1; rw [hs1]; rfl
      refine awp_seq ?_
      refine awp_drawN 4 rfl (by kernel_rfl) ?_
      refine calm_e (w0 rfl) rfl (eff_fieldAddr rfl rfl rfl) ?_
      refine calm_load_ptr 0 (w0 rfl) rfl rfl rfl rfl rfl ld_one ?_
      refine calm_e (w0 rfl) rfl (eff_assign rfl rfl) ?_
      refine calm_e (w0 rfl) rfl (eff_assign rfl rfl) ?_
      refine .done ?_
      refine aops_nil ?_
      refine awp_ret ?_
      exact retq rfl (res_tmp rfl (res_tmp rfl res_nil)) (gvr (by rw [checkP_one (find_hit hJ.2 hi (by unfold f1; rw [h7]; rfl)) h7]; rfl))
    · intro hc
      have hs1 : (!beqS p.classes[i].super zS && !hasC p p.classes[i].super) = false := by rw [← classAt_neg]; exact hc
      refine awp_skip ?_
      refine awp_seq ?_
      refine awp_seq ?_
      refine awp_region ?_
      refine aops_e (w0 rfl) rfl (eff_assign rfl rfl) ?_
      refine aops_nil ?_
      refine awp_block ?_
      refine awp_loopJ (α := Nat) (fun k => ⟨[(6, iA k), (5, .ptr id2 7 0 0), (4, iA i), (1, .ptr id1 5 0 0)], [(id2, .rows 54 7 [p.classes[i].cells]), (id1, .rows 27 5 [p.cells])], [], 123⟩) (fun k => k ≤ p.classes[i].ifaces.length ∧ (p.classes[i].ifaces.drop k).any (fun s => !hasC p s) = p.classes[i].ifaces.any (fun s => !hasC p s)) (fun k => p.classes[i].ifaces.length - k) 0 ⟨Nat.zero_le _, rfl⟩ ?_ ?_
      · exact weak_pick [0, 1] ⟨rfl, rfl, rfl, rfl, trivial⟩ rfl (by decide) rfl rfl
      rintro k hJ1
      refine awp_seq ?_
      refine awp_seq ?_
      refine awp_region ?_
      refine aops_e (w0 rfl) rfl (eff_move rfl rfl) ?_
      refine aops_e (w0 rfl) rfl (eff_fieldAddr rfl rfl rfl) ?_
      refine aops_load_ptr 0 (w0 rfl) rfl rfl rfl rfl rfl ld_one ?_
      refine aops_e (w0 rfl) rfl (eff_len rfl rfl rfl rfl) ?_
      refine aops_e (w0 rfl) rfl (eff_icmp rfl rfl rfl rfl) ?_
      refine aops_nil ?_
      refine awp_cond rfl ?_ ?_
      · intro hc
        have hk : k < p.classes[i].ifaces.length := by simpa using hc
        refine awp_skip ?_
        refine awp_seq ?_
        refine awp_block ?_
        refine awp_seq ?_
        refine awp_drawN 8 rfl (by kernel_rfl) ?_
        refine calm_load_ptr 1 (w0 rfl) rfl rfl rfl rfl rfl (ld_agg (Nat.le_of_ble_eq_true rfl)) ?_
        refine calm_e (w0 rfl) rfl (eff_fieldAddr rfl rfl rfl) ?_
        refine calm_load_ptr 0 (w0 rfl) rfl rfl rfl rfl rfl ld_one ?_
        refine calm_e (w0 rfl) rfl (eff_move rfl rfl) ?_
        refine calm_e (w0 rfl) rfl (eff_indexAddr_lst rfl rfl rfl (len_map (fun _ => rfl)) (by first | omega | (simp only [List.length_map]; omega)) (by first | omega | (simp only [List.length_map]; omega))) ?_
        refine calm_e (w0 rfl) rfl (eff_loadE rfl rfl (map_get (by first | assumption | omega)) ld_one) ?_
        refine calm_e (w0 rfl) rfl (eff_call [] rfl rfl rfl (c_class p hbs _) List.nodup_nil) ?_
        refine calm_e (w0 rfl) rfl (eff_icmp rfl rfl rfl rfl) ?_
        refine .done ?_
        refine aops_nil ?_
        refine awp_cond rfl ?_ ?_
        · intro hc
          have hq : (!hasC p (p.classes[i].ifaces[k])) = true := (classAt_neg _ _).symm.trans hc
          have h7 : chk1 p p.classes[i] = 7 := by unfold chk1; rw [hs1, any_hit hJ1.2 hk hq]; rfl
          refine awp_seq ?_
          refine awp_drawN 4 rfl (by kernel_rfl) ?_
          refine calm_e (w0 rfl) rfl (eff_fieldAddr rfl rfl rfl) ?_
          refine calm_load_ptr 0 (w0 rfl) rfl rfl rfl rfl rfl ld_one ?_
          refine calm_e (w0 rfl) rfl (eff_assign rfl rfl) ?_
          refine calm_e (w0 rfl) rfl (eff_assign rfl rfl) ?_
          refine .done ?_
          refine aops_nil ?_
          refine awp_ret ?_
          exact retq rfl (res_tmp rfl (res_tmp rfl res_nil)) (gvr (by rw [checkP_one (find_hit hJ.2 hi (by unfold f1; rw [h7]; rfl)) h7]; rfl))
        · intro hc
          have hq : (!hasC p (p.classes[i].ifaces[k])) = false := (classAt_neg _ _).symm.trans hc
          refine awp_skip ?_
          refine awp_region ?_
          refine aops_e (w0 rfl) rfl (eff_move rfl rfl) ?_
          refine aops_e (w0 rfl) rfl (eff_arith rfl rfl rfl (arith_add (by first | omega | (simp only [List.length_map]; omega)))) ?_
          refine aops_e (w0 rfl) rfl (eff_assign rfl rfl) ?_
          refine aops_nil ?_
          refine ⟨k + 1, ⟨hk, any_next hJ1.2 hk hq⟩, (by omega), ?_⟩
          exact weak_pick [0, 1] ⟨rfl, rfl, rfl, rfl, trivial⟩ rfl (by decide) rfl rfl
      · intro hc
        have hk : ¬ k < p.classes[i].ifaces.length := by simpa using hc
        have ha1 := any_end hJ1.2 hk
        refine awp_exit ?_
        refine awp_seq ?_
        refine awp_seq ?_
        refine awp_region ?_
        refine aops_e (w0 rfl) rfl (eff_fieldAddr rfl rfl rfl) ?_
        refine aops_load_ptr 0 (w0 rfl) rfl rfl rfl rfl rfl ld_one ?_
        refine aops_e (w0 rfl) rfl (eff_scmp rfl rfl rfl rfl) ?_
        refine aops_e (w0 rfl) rfl (eff_move rfl rfl) ?_
        refine aops_gload 1 (wT rfl rfl rfl rfl) rfl rfl (fun hg => rfl) rfl rfl (ld_agg (Nat.le_of_ble_eq_true rfl)) ?_
        refine aops_g (wT rfl rfl rfl rfl) rfl (fun hg => (eff_fieldAddr rfl rfl rfl)) ?_
        refine aops_gload 0 (wT rfl rfl rfl rfl) rfl rfl (fun hg => (ev_g hg rfl)) rfl rfl ld_one ?_
        refine aops_g (wT rfl rfl rfl rfl) rfl (fun hg => (eff_call [] rfl rfl (evs_cons (ev_g hg rfl) (evs_cons (ev_g hg rfl) evs_nil)) (c_refIface p hbs _) List.nodup_nil)) ?_
        refine aops_e (w0 rfl) rfl (eff_and rfl rfl rfl (fun h => h)) ?_
        refine aops_nil ?_
        refine awp_cond rfl ?_ ?_
        · intro hc
          have hs2 : (!beqS p.classes[i].super zS && ifaceP p p.classes[i].super) = true := hc
          have h7 : chk1 p p.classes[i] = 9 := by unfold chk1; rw [hs1, ha1, hs2]; rfl
          refine awp_seq ?_
          refine awp_drawN 4 rfl (by kernel_rfl) ?_
          refine calm_e (w0 rfl) rfl (eff_fieldAddr rfl rfl rfl) ?_
          refine calm_load_ptr 0 (w0 rfl) rfl rfl rfl rfl rfl ld_one ?_
          refine calm_e (w0 rfl) rfl (eff_assign rfl rfl) ?_
          refine calm_e (w0 rfl) rfl (eff_assign rfl rfl) ?_
          refine .done ?_
          refine aops_nil ?_
          refine awp_ret ?_
          exact retq rfl (res_tmp rfl (res_tmp rfl res_nil)) (gvr (by rw [checkP_one (find_hit hJ.2 hi (by unfold f1; rw [h7]; rfl)) h7]; rfl))
        · intro hc
          have hs2 : (!beqS p.classes[i].super zS && ifaceP p p.classes[i].super) = false := hc
          refine awp_skip ?_
          refine awp_seq ?_
          refine awp_region ?_
          refine aops_e (w0 rfl) rfl (eff_assign rfl rfl) ?_
          refine aops_nil ?_
          refine awp_block ?_
          refine awp_loopJ (α := Nat) (fun k => ⟨[(7, iA k), (5, .ptr id2 7 0 0), (4, iA i), (1, .ptr id1 5 0 0)], [(id2, .rows 54 7 [p.classes[i].cells]), (id1, .rows 27 5 [p.cells])], [], 123⟩) (fun k => k ≤ p.classes[i].ifaces.length ∧ (p.classes[i].ifaces.drop k).any (fun s => !ifaceP p s) = p.classes[i].ifaces.any (fun s => !ifaceP p s)) (fun k => p.classes[i].ifaces.length - k) 0 ⟨Nat.zero_le _, rfl⟩ ?_ ?_
          · exact weak_pick [0, 1] ⟨rfl, rfl, rfl, rfl, trivial⟩ rfl (by decide) rfl rfl
          rintro k hJ1
          refine awp_seq ?_
          refine awp_seq ?_
          refine awp_region ?_
          refine aops_e (w0 rfl) rfl (eff_move rfl rfl) ?_
          refine aops_e (w0 rfl) rfl (eff_fieldAddr rfl rfl rfl) ?_
          refine aops_load_ptr 0 (w0 rfl) rfl rfl rfl rfl rfl ld_one ?_
          refine aops_e (w0 rfl) rfl (eff_len rfl rfl rfl rfl) ?_
          refine aops_e (w0 rfl) rfl (eff_icmp rfl rfl rfl rfl) ?_
          refine aops_nil ?_
          refine awp_cond rfl ?_ ?_
          · intro hc
            have hk : k < p.classes[i].ifaces.length := by simpa using hc
            refine awp_skip ?_
            refine awp_seq ?_
            refine awp_block ?_
            refine awp_seq ?_
            refine awp_drawN 8 rfl (by kernel_rfl) ?_
            refine calm_load_ptr 1 (w0 rfl) rfl rfl rfl rfl rfl (ld_agg (Nat.le_of_ble_eq_true rfl)) ?_
            refine calm_e (w0 rfl) rfl (eff_fieldAddr rfl rfl rfl) ?_
            refine calm_load_ptr 0 (w0 rfl) rfl rfl rfl rfl rfl ld_one ?_
            refine calm_e (w0 rfl) rfl (eff_move rfl rfl) ?_
            refine calm_e (w0 rfl) rfl (eff_indexAddr_lst rfl rfl rfl (len_map (fun _ => rfl)) (by first | omega | (simp only [List.length_map]; omega)) (by first | omega | (simp only [List.length_map]; omega))) ?_
            refine calm_e (w0 rfl) rfl (eff_loadE rfl rfl (map_get (by first | assumption | omega)) ld_one) ?_
            refine calm_e (w0 rfl) rfl (eff_call [] rfl rfl rfl (c_refIface p hbs _) List.nodup_nil) ?_
            refine calm_e (w0 rfl) rfl (eff_not rfl rfl) ?_
            refine .done ?_
            refine aops_nil ?_
            refine awp_cond rfl ?_ ?_
            · intro hc
              have hq : (!ifaceP p (p.classes[i].ifaces[k])) = true := hc
              have h7 : chk1 p p.classes[i] = 9 := by unfold chk1; rw [hs1, ha1, hs2, any_hit hJ1.2 hk hq]; rfl
              refine awp_seq ?_
              refine awp_drawN 4 rfl (by kernel_rfl) ?_
              refine calm_e (w0 rfl) rfl (eff_fieldAddr rfl rfl rfl) ?_
              refine calm_load_ptr 0 (w0 rfl) rfl rfl rfl rfl rfl ld_one ?_
              refine calm_e (w0 rfl) rfl (eff_assign rfl rfl) ?_
              refine calm_e (w0 rfl) rfl (eff_assign rfl rfl) ?_
              refine .done ?_
              refine aops_nil ?_
              refine awp_ret ?_
              exact retq rfl (res_tmp rfl (res_tmp rfl res_nil)) (gvr (by rw [checkP_one (find_hit hJ.2 hi (by unfold f1; rw [h7]; rfl)) h7]; rfl))
            · intro hc
              have hq : (!ifaceP p (p.classes[i].ifaces[k])) = false := hc
              refine awp_skip ?_
              refine awp_region ?_
              refine aops_e (w0 rfl) rfl (eff_move rfl rfl) ?_
              refine aops_e (w0 rfl) rfl (eff_arith rfl rfl rfl (arith_add (by first | omega | (simp only [List.length_map]; omega)))) ?_
              refine aops_e (w0 rfl) rfl (eff_assign rfl rfl) ?_
              refine aops_nil ?_
              refine ⟨k + 1, ⟨hk, any_next hJ1.2 hk hq⟩, (by omega), ?_⟩
              exact weak_pick [0, 1] ⟨rfl, rfl, rfl, rfl, trivial⟩ rfl (by decide) rfl rfl
          · intro hc
            have hk : ¬ k < p.classes[i].ifaces.length := by simpa using hc
            have ha2 := any_end hJ1.2 hk
            refine awp_exit ?_
            refine awp_region ?_
            refine aops_e (w0 rfl) rfl (eff_move rfl rfl) ?_
            refine aops_e (w0 rfl) rfl (eff_arith rfl rfl rfl (arith_add (by first | omega | (simp only [List.length_map]; omega)))) ?_
            refine aops_e (w0 rfl) rfl (eff_assign rfl rfl) ?_
            refine aops_nil ?_
            refine ⟨i + 1, ⟨hi, find_next hJ.2 hi (by unfold f1 chk1; rw [hs1, ha1, hs2, ha2]; rfl)⟩, (by omega), ?_⟩
            exact weak_pick [1] ⟨rfl, rfl, trivial⟩ rfl (by decide) rfl rfl
  · intro hc
    have hi : ¬ i < p.classes.length := by simpa using hc
    have hn1 := find_end hJ.2 hi
    refine awp_exit ?_
    refine awp_seq ?_
    refine awp_seq ?_
    refine awp_region ?_
    refine aops_e (w0 rfl) rfl (eff_assign rfl rfl) ?_
    refine aops_nil ?_
    refine awp_block ?_
    refine awp_loopJ (α := Nat) (fun i => ⟨[(8, iA i), (1, .ptr id1 5 0 0)], [(id1, .rows 27 5 [p.cells])], [], 123⟩) (fun i => i ≤ p.classes.length ∧ (p.classes.drop i).find? (chk2 p) = p.classes.find? (chk2 p)) (fun i => p.classes.length - i) 0 ⟨Nat.zero_le _, rfl⟩ ?_ ?_
    · exact weak_pick [0] ⟨rfl, rfl, trivial⟩ rfl (by decide) rfl rfl
    rintro i hJ
    refine awp_seq ?_
    refine awp_seq ?_
    refine awp_region ?_
    refine aops_e (w0 rfl) rfl (eff_move rfl rfl) ?_
    refine aops_e (w0 rfl) rfl (eff_fieldAddr rfl rfl rfl) ?_
    refine aops_load_ptr 0 (w0 rfl) rfl rfl rfl rfl rfl ld_one ?_
    refine aops_e (w0 rfl) rfl (eff_len rfl rfl rfl rfl) ?_
    refine aops_e (w0 rfl) rfl (eff_icmp rfl rfl rfl rfl) ?_
    refine aops_nil ?_
    refine awp_cond rfl ?_ ?_
    · intro hc
      have hi : i < p.classes.length := by simpa using hc
      have hil := hif _ (List.getElem_mem hi)
      refine awp_skip ?_
      refine awp_seq ?_
      refine awp_block ?_
      refine awp_seq ?_
      refine awp_region ?_
      refine aops_e (w0 rfl) rfl (eff_fieldAddr rfl rfl rfl) ?_
      refine aops_load_ptr 0 (w0 rfl) rfl rfl rfl rfl rfl ld_one ?_
      refine aops_e (w0 rfl) rfl (eff_move rfl rfl) ?_
      refine aops_e (w0 rfl) rfl (eff_indexAddr_lst rfl rfl rfl (len_map (fun _ => rfl)) (by first | omega | (simp only [List.length_map]; omega)) (by first | omega | (simp only [List.length_map]; omega))) ?_
      refine aops_e (w0 rfl) rfl (eff_loadE rfl rfl (map_get (by first | assumption | omega)) (ld_agg (Nat.le_of_ble_eq_true rfl))) ?_
      refine aops_n (w0 rfl) rfl (fun id => eff_alloc id rfl rfl rfl) (fun id3 => ?_)
      refine aops_store 0 (w0 rfl) rfl rfl rfl rfl rfl rfl rfl rfl rfl ?_
      refine aops_nil ?_
      refine awp_seq ?_
      refine awp_seq ?_
      refine awp_region ?_
      refine aops_e (w0 rfl) rfl (eff_fieldAddr rfl rfl rfl) ?_
      refine aops_load_ptr 0 (w0 rfl) rfl rfl rfl rfl rfl ld_one ?_
      refine aops_e (w0 rfl) rfl (eff_scmp rfl rfl rfl rfl) ?_
      refine aops_e (w0 rfl) rfl (eff_move rfl rfl) ?_
      refine aops_gload 1 (wT rfl rfl rfl rfl) rfl rfl (fun hg => rfl) rfl rfl (ld_agg (Nat.le_of_ble_eq_true rfl)) ?_
      refine aops_g (wT rfl rfl rfl rfl) rfl (fun hg => (eff_fieldAddr rfl rfl rfl)) ?_
      refine aops_gload 0 (wT rfl rfl rfl rfl) rfl rfl (fun hg => (ev_g hg rfl)) rfl rfl ld_one ?_
      refine aops_g (wT rfl rfl rfl rfl) rfl (fun hg => (eff_fieldAddr rfl rfl rfl)) ?_
      refine aops_gload 0 (wT rfl rfl rfl rfl) rfl rfl (fun hg => (ev_g hg rfl)) rfl rfl ld_one ?_
      refine aops_g (wT rfl rfl rfl rfl) rfl (fun hg => (eff_call [] rfl rfl (evs_cons (ev_g hg rfl) (evs_cons (ev_g hg rfl) (evs_cons (ev_g hg rfl) evs_nil))) (c_refSub p hb hif _ _) List.nodup_nil)) ?_
      refine aops_e (w0 rfl) rfl (eff_and rfl rfl rfl (fun h => h)) ?_
      refine aops_nil ?_
      refine awp_cond rfl ?_ ?_
      · intro hc
        have hs3 : (!beqS p.classes[i].super zS && subP p p.classes[i].super p.classes[i].name) = true := hc
        have h8 : chk2 p p.classes[i] = true := by unfold chk2; rw [hs3]; rfl
        refine awp_seq ?_
        refine awp_drawN 4 rfl (by kernel_rfl) ?_
        refine calm_e (w0 rfl) rfl (eff_fieldAddr rfl rfl rfl) ?_
        refine calm_load_ptr 0 (w0 rfl) rfl rfl rfl rfl rfl ld_one ?_
        refine calm_e (w0 rfl) rfl (eff_assign rfl rfl) ?_
        refine calm_e (w0 rfl) rfl (eff_assign rfl rfl) ?_
        refine .done ?_
        refine aops_nil ?_
        refine awp_ret ?_
        exact retq rfl (res_tmp rfl (res_tmp rfl res_nil)) (gvr (by rw [checkP_two hn1 (find_hit hJ.2 hi h8)]; rfl))
      · intro hc
        have hs3 : (!beqS p.classes[i].super zS && subP p p.classes[i].super p.classes[i].name) = false := hc
        refine awp_skip ?_
        refine awp_seq ?_
        refine awp_region ?_
        refine aops_e (w0 rfl) rfl (eff_assign rfl rfl) ?_
        refine aops_nil ?_
        refine awp_block ?_
        refine awp_loopJ (α := Nat) (fun k => ⟨[(10, iA k), (9, .ptr id3 7 0 0), (8, iA i), (1, .ptr id1 5 0 0)], [(id3, .rows 54 7 [p.classes[i].cells]), (id1, .rows 27 5 [p.cells])], [], 123⟩) (fun k => k ≤ p.classes[i].ifaces.length ∧ (p.classes[i].ifaces.drop k).any (fun s => subP p s p.classes[i].name) = p.classes[i].ifaces.any (fun s => subP p s p.classes[i].name)) (fun k => p.classes[i].ifaces.length - k) 0 ⟨Nat.zero_le _, rfl⟩ ?_ ?_
        · exact weak_pick [0, 1] ⟨rfl, rfl, rfl, rfl, trivial⟩ rfl (by decide) rfl rfl
        rintro k hJ1
        refine awp_seq ?_
        refine awp_seq ?_
        refine awp_region ?_
        refine aops_e (w0 rfl) rfl (eff_move rfl rfl) ?_
        refine aops_e (w0 rfl) rfl (eff_fieldAddr rfl rfl rfl) ?_
        refine aops_load_ptr 0 (w0 rfl) rfl rfl rfl rfl rfl ld_one ?_
        refine aops_e (w0 rfl) rfl (eff_len rfl rfl rfl rfl) ?_
        refine aops_e (w0 rfl) rfl (eff_icmp rfl rfl rfl rfl) ?_
        refine aops_nil ?_
        refine awp_cond rfl ?_ ?_
        · intro hc
          have hk : k < p.classes[i].ifaces.length := by simpa using hc
          refine awp_skip ?_
          refine awp_seq ?_
          refine awp_block ?_
          refine awp_seq ?_
          refine awp_drawN 9 rfl (by kernel_rfl) ?_
          refine calm_load_ptr 1 (w0 rfl) rfl rfl rfl rfl rfl (ld_agg (Nat.le_of_ble_eq_true rfl)) ?_
          refine calm_e (w0 rfl) rfl (eff_fieldAddr rfl rfl rfl) ?_
          refine calm_load_ptr 0 (w0 rfl) rfl rfl rfl rfl rfl ld_one ?_
          refine calm_e (w0 rfl) rfl (eff_move rfl rfl) ?_
          refine calm_e (w0 rfl) rfl (eff_indexAddr_lst rfl rfl rfl (len_map (fun _ => rfl)) (by first | omega | (simp only [List.length_map]; omega)) (by first | omega | (simp only [List.length_map]; omega))) ?_
          refine calm_e (w0 rfl) rfl (eff_loadE rfl rfl (map_get (by first | assumption | omega)) ld_one) ?_
          refine calm_e (w0 rfl) rfl (eff_fieldAddr rfl rfl rfl) ?_
          refine calm_load_ptr 0 (w0 rfl) rfl rfl rfl rfl rfl ld_one ?_
          refine calm_e (w0 rfl) rfl (eff_call [] rfl rfl rfl (c_refSub p hb hif _ _) List.nodup_nil) ?_
          refine .done ?_
          refine aops_nil ?_
          refine awp_cond rfl ?_ ?_
          · intro hc
            have hq : subP p (p.classes[i].ifaces[k]) p.classes[i].name = true := hc
            have h8 : chk2 p p.classes[i] = true := by unfold chk2; rw [any_hit hJ1.2 hk hq]; exact Bool.or_true _
            refine awp_seq ?_
            refine awp_drawN 4 rfl (by kernel_rfl) ?_
            refine calm_e (w0 rfl) rfl (eff_fieldAddr rfl rfl rfl) ?_
            refine calm_load_ptr 0 (w0 rfl) rfl rfl rfl rfl rfl ld_one ?_
            refine calm_e (w0 rfl) rfl (eff_assign rfl rfl) ?_
            refine calm_e (w0 rfl) rfl (eff_assign rfl rfl) ?_
            refine .done ?_
            refine aops_nil ?_
            refine awp_ret ?_
            exact retq rfl (res_tmp rfl (res_tmp rfl res_nil)) (gvr (by rw [checkP_two hn1 (find_hit hJ.2 hi h8)]; rfl))
          · intro hc
            have hq : subP p (p.classes[i].ifaces[k]) p.classes[i].name = false := hc
            refine awp_skip ?_
            refine awp_region ?_
            refine aops_e (w0 rfl) rfl (eff_move rfl rfl) ?_
            refine aops_e (w0 rfl) rfl (eff_arith rfl rfl rfl (arith_add (by first | omega | (simp only [List.length_map]; omega)))) ?_
            refine aops_e (w0 rfl) rfl (eff_assign rfl rfl) ?_
            refine aops_nil ?_
            refine ⟨k + 1, ⟨hk, any_next hJ1.2 hk hq⟩, (by omega), ?_⟩
            exact weak_pick [0, 1] ⟨rfl, rfl, rfl, rfl, trivial⟩ rfl (by decide) rfl rfl
        · intro hc
          have hk : ¬ k < p.classes[i].ifaces.length := by simpa using hc
          have ha3 := any_end hJ1.2 hk
          refine awp_exit ?_
          refine awp_region ?_
          refine aops_e (w0 rfl) rfl (eff_move rfl rfl) ?_
          refine aops_e (w0 rfl) rfl (eff_arith rfl rfl rfl (arith_add (by first | omega | (simp only [List.length_map]; omega)))) ?_
          refine aops_e (w0 rfl) rfl (eff_assign rfl rfl) ?_
          refine aops_nil ?_
          refine ⟨i + 1, ⟨hi, find_next hJ.2 hi (by unfold chk2; rw [hs3, ha3]; rfl)⟩, (by omega), ?_⟩
          exact weak_pick [1] ⟨rfl, rfl, trivial⟩ rfl (by decide) rfl rfl
    · intro hc
      have hi : ¬ i < p.classes.length := by simpa using hc
      have hn2 := find_end hJ.2 hi
      refine awp_exit ?_
      refine awp_seq ?_
      refine awp_region ?_
      refine aops_e (w0 rfl) rfl (eff_assign rfl rfl) ?_
      refine aops_e (w0 rfl) rfl (eff_assign rfl rfl) ?_
      refine aops_nil ?_
      refine awp_ret ?_
      exact retq rfl (res_tmp rfl (res_tmp rfl res_nil)) (gvr (by rw [checkP_ok hn1 hn2]; rfl))

theorem c_sound (p : Prog) (hp : p.ok) (hb : p.classes.length ≤ 1000) (hif : ∀ c, c ∈ p.classes → c.ifaces.length ≤ 1000) : ACalls Try.prog 13 [p.av] [] (GSome bA (fun b => b = true → SoundP p)) := by
  refine acalls_of (n := 17) Try.func13 rfl (by decide +kernel) rfl rfl ?_
  refine awp_seq ?_
  refine awp_region ?_
  refine aops_n (w0 rfl) rfl (fun id => eff_box id rfl rfl rfl rfl rfl) (fun id1 => ?_)
  refine aops_e (w0 rfl) rfl (eff_assign rfl rfl) ?_
  refine aops_nil ?_
  refine awp_seq ?_
  refine awp_region ?_
  refine aops_load_ptr 0 (w0 rfl) rfl rfl rfl rfl rfl (ld_agg (Nat.le_of_ble_eq_true rfl)) ?_
  refine aops_e (w0 rfl) rfl (eff_call [] rfl rfl rfl (c_refCheck p hb hif) List.nodup_nil) ?_
  refine aops_e (w0 rfl) rfl (eff_move rfl rfl) ?_
  refine aops_e (w0 rfl) rfl (eff_extract rfl rfl rfl) ?_
  refine aops_e (w0 rfl) rfl (eff_extract rfl rfl rfl) ?_
  refine aops_e (w0 rfl) rfl (eff_assign rfl rfl) ?_
  refine aops_e (w0 rfl) rfl (eff_assign rfl rfl) ?_
  refine aops_nil ?_
  refine awp_seq ?_
  refine awp_region ?_
  refine aops_e (w0 rfl) rfl (eff_move rfl rfl) ?_
  refine aops_e (w0 rfl) rfl (eff_icmp rfl rfl rfl rfl) ?_
  refine aops_e (w0 rfl) rfl (eff_move rfl rfl) ?_
  refine aops_gload 0 (wT rfl rfl rfl rfl) rfl rfl (fun hg => rfl) rfl rfl (ld_agg (Nat.le_of_ble_eq_true rfl)) ?_
  refine aops_gcallS (wT rfl rfl rfl rfl) rfl rfl (fun hg => rfl) (fun hg => (evs_cons (ev_g hg rfl) evs_nil)) (fun hg => (w_right p hp)) (fun v2 hv2 => ?_)
  refine aops_g (wT rfl rfl rfl rfl) rfl (fun hg => (eff_icmp rfl (ev_g hg rfl) rfl rfl)) ?_
  refine aops_e (w0 rfl) rfl (eff_and rfl rfl rfl (fun h => h)) ?_
  refine aops_e (w0 rfl) rfl (eff_assign rfl rfl) ?_
  refine aops_nil ?_
  refine awp_ret ?_
  exact retq rfl (res_tmp rfl res_nil) (gsome _ (fun h => checkP_sound (by have := andL h; simpa using this)) rfl)

theorem c_near (p : Prog) (hb : p.classes.length ≤ 1000) (f : Fact) (k : Int) (h0 : 0 ≤ k) (h1 : k ≤ 255) : ACalls Try.prog 14 [p.av, f.av, uA k] [] (Gives (Fact.av (nearF p f k))) := by
  have hm := tmod7 f.kind
  have hm2 := tmod7 (f.kind.tmod 7 + 7)
  refine acalls_of (n := 44) Try.func14 rfl (by decide +kernel) rfl rfl ?_
  refine awp_seq ?_
  refine awp_region ?_
  refine aops_n (w0 rfl) rfl (fun id => eff_box id rfl rfl rfl rfl rfl) (fun id1 => ?_)
  refine aops_n (w0 rfl) rfl (fun id => eff_box id rfl rfl rfl rfl rfl) (fun id2 => ?_)
  refine aops_n (w0 rfl) rfl (fun id => eff_alloc id rfl rfl rfl) (fun id3 => ?_)
  refine aops_nil ?_
  refine awp_seq ?_
  refine awp_region ?_
  refine aops_e (w0 rfl) rfl (eff_fieldAddr rfl rfl rfl) ?_
  refine aops_load_ptr 1 (w0 rfl) rfl rfl rfl rfl rfl ld_one ?_
  refine aops_e (w0 rfl) rfl (eff_rem rfl rfl rfl (by decide)) ?_
  refine aops_e (w0 rfl) rfl (eff_arith rfl rfl rfl (arith_add (by first | omega | (simp only [List.length_map]; omega)))) ?_
  refine aops_e (w0 rfl) rfl (eff_rem rfl rfl rfl (by decide)) ?_
  refine aops_e (w0 rfl) rfl (eff_fieldAddr rfl rfl rfl) ?_
  refine aops_store 1 (w0 rfl) rfl rfl rfl rfl rfl rfl rfl rfl rfl ?_
  refine aops_nil ?_
  refine awp_seq ?_
  refine awp_region ?_
  refine aops_e (w0 rfl) rfl (eff_fieldAddr rfl rfl rfl) ?_
  refine aops_store 1 (w0 rfl) rfl rfl rfl rfl rfl rfl rfl rfl rfl ?_
  refine aops_nil ?_
  refine awp_seq ?_
  refine awp_seq ?_
  refine awp_region ?_
  refine aops_e (w0 rfl) rfl (eff_fieldAddr rfl rfl rfl) ?_
  refine aops_load_ptr 1 (w0 rfl) rfl rfl rfl rfl rfl ld_one ?_
  refine aops_e (w0 rfl) rfl (eff_icmp rfl rfl rfl rfl) ?_
  refine aops_e (w0 rfl) rfl (eff_move rfl rfl) ?_
  refine aops_g (wF rfl rfl rfl rfl) rfl (fun hg => (eff_fieldAddr rfl rfl rfl)) ?_
  refine aops_gload 1 (wF rfl rfl rfl rfl) rfl rfl (fun hg => (ev_g hg rfl)) rfl rfl ld_one ?_
  refine aops_g (wF rfl rfl rfl rfl) rfl (fun hg => (eff_icmp rfl (ev_g hg rfl) rfl rfl)) ?_
  refine aops_e (w0 rfl) rfl (eff_or rfl rfl rfl (fun h => by rw [h]; rfl)) ?_
  refine aops_nil ?_
  refine awp_cond rfl ?_ ?_
  · intro hc
    have hk : nearK f.kind = 3 ∨ nearK f.kind = 5 := by simpa [nearK] using hc
    refine awp_seq ?_
    refine awp_region ?_
    refine aops_e (w0 rfl) rfl (eff_fieldAddr rfl rfl rfl) ?_
    refine aops_store 1 (w0 rfl) rfl rfl rfl rfl rfl rfl rfl rfl rfl ?_
    refine aops_nil ?_
    refine awp_seq ?_
    refine awp_region ?_
    refine aops_e (w0 rfl) rfl (eff_fieldAddr rfl rfl rfl) ?_
    refine aops_load_ptr 2 (w0 rfl) rfl rfl rfl rfl rfl ld_one ?_
    refine aops_e (w0 rfl) rfl (eff_len rfl rfl rfl rfl) ?_
    refine aops_e (w0 rfl) rfl (eff_icmp rfl rfl rfl rfl) ?_
    refine aops_e (w0 rfl) rfl (eff_move rfl rfl) ?_
    refine aops_g (wT rfl rfl rfl rfl) rfl (fun hg => (eff_move rfl rfl)) ?_
    refine aops_g (wT rfl rfl rfl rfl) rfl (fun hg => (eff_icmp rfl (ev_g hg rfl) rfl rfl)) ?_
    refine aops_e (w0 rfl) rfl (eff_and rfl rfl rfl (fun h => h)) ?_
    refine aops_nil ?_
    refine awp_cond rfl ?_ ?_
    · intro hc
      have hc' := hc
      have hc := andL hc'
      have hc2 := andR hc'
      have hn : 0 < p.classes.length := by simpa using hc
      have hk2 : k < 250 := by simpa using hc2
      refine awp_drawM [0, 1, 0, 4, 0, 16, 48, 124, 255, 511, 1023, 2047, 4095] 12 rfl (by kernel_rfl) ?_
      refine calm_e (w0 rfl) rfl (eff_fieldAddr rfl rfl rfl) ?_
      refine calm_load_ptr 2 (w0 rfl) rfl rfl rfl rfl rfl ld_one ?_
      refine calm_e (w0 rfl) rfl (eff_move rfl rfl) ?_
      refine calm_e (w0 rfl) rfl (eff_to (y := iA k) (eff_convInt rfl rfl) (congrArg iA (i64_wrap (by omega)))) ?_
      refine calm_e (w0 rfl) rfl (eff_fieldAddr rfl rfl rfl) ?_
      refine calm_load_ptr 2 (w0 rfl) rfl rfl rfl rfl rfl ld_one ?_
      refine calm_e (w0 rfl) rfl (eff_to (y := iA p.classes.length) (eff_len rfl rfl rfl rfl) (congrArg iA (by simp))) ?_
      refine calm_e (w0 rfl) rfl (eff_rem rfl rfl rfl (by omega)) ?_
      refine calm_e (w0 rfl) rfl (eff_indexAddr_lst rfl rfl rfl (len_map (fun _ => rfl)) (by first | exact Int.tmod_nonneg _ h0 | (simp only [List.length_map]; exact Int.tmod_lt_of_pos _ (by omega))) (by first | exact Int.tmod_nonneg _ h0 | (simp only [List.length_map]; exact Int.tmod_lt_of_pos _ (by omega)))) ?_
      refine calm_e (w0 rfl) rfl (eff_fieldAddr rfl rfl rfl) ?_
      refine calm_e (w0 rfl) rfl (eff_loadE rfl rfl (map_get (by (have := near_lt hn h0; omega))) ld_one) ?_
      refine calm_e (w0 rfl) rfl (eff_fieldAddr rfl rfl rfl) ?_
      refine .done ?_
      refine aops_store 1 (w0 rfl) rfl rfl rfl rfl rfl rfl rfl rfl rfl ?_
      refine aops_nil ?_
      refine awp_seq ?_
      refine awp_region ?_
      refine aops_load_ptr 1 (w0 rfl) rfl rfl rfl rfl rfl (ld_agg (Nat.le_of_ble_eq_true rfl)) ?_
      refine aops_store 0 (w0 rfl) rfl rfl rfl rfl rfl rfl rfl rfl rfl ?_
      refine aops_nil ?_
      refine awp_ret ?_
      exact retq rfl (res_cell 0 rfl rfl rfl (ld_agg (Nat.le_of_ble_eq_true rfl)) res_nil) (gvr (by first | (unfold nearF; rw [if_neg hk]; rfl) | (unfold nearF; rw [if_pos hk, if_neg hn]; rfl) | (unfold nearF; rw [if_pos hk, if_pos ⟨hn, hk2⟩, near_get hn h0]; rfl)))
    · intro hc
      have hn : ¬ (0 < p.classes.length ∧ k < 250) := by simp at hc; omega
      refine awp_skip ?_
      refine awp_seq ?_
      refine awp_region ?_
      refine aops_load_ptr 1 (w0 rfl) rfl rfl rfl rfl rfl (ld_agg (Nat.le_of_ble_eq_true rfl)) ?_
      refine aops_store 0 (w0 rfl) rfl rfl rfl rfl rfl rfl rfl rfl rfl ?_
      refine aops_nil ?_
      refine awp_ret ?_
      exact retq rfl (res_cell 0 rfl rfl rfl (ld_agg (Nat.le_of_ble_eq_true rfl)) res_nil) (gvr (by first | (unfold nearF; rw [if_neg hk]; rfl) | (unfold nearF; rw [if_pos hk, if_neg hn]; rfl) | (unfold nearF; rw [if_pos hk, if_pos ⟨hn, hk2⟩, near_get hn h0]; rfl)))
  · intro hc
    have hk : ¬ (nearK f.kind = 3 ∨ nearK f.kind = 5) := by simpa [nearK] using hc
    refine awp_skip ?_
    refine awp_seq ?_
    refine awp_region ?_
    refine aops_load_ptr 1 (w0 rfl) rfl rfl rfl rfl rfl (ld_agg (Nat.le_of_ble_eq_true rfl)) ?_
    refine aops_store 0 (w0 rfl) rfl rfl rfl rfl rfl rfl rfl rfl rfl ?_
    refine aops_nil ?_
    refine awp_ret ?_
    exact retq rfl (res_cell 0 rfl rfl rfl (ld_agg (Nat.le_of_ble_eq_true rfl)) res_nil) (gvr (by first | (unfold nearF; rw [if_neg hk]; rfl) | (unfold nearF; rw [if_pos hk, if_neg hn]; rfl) | (unfold nearF; rw [if_pos hk, if_pos ⟨hn, hk2⟩, near_get hn h0]; rfl)))

end Go.Sx
