/- Layer 11, walked: classes below one, what is wrong with a program. -/
import Derived.Test.YtdombpcfmjlnlaaSyAnc
import Derived.Test.YtdombpcfmjlnlaaSyPool
import Derived.Test.YtdombpcfmjlnlaaSxCpt
import Derived.Test.YtdombpcfmjlnlaaSxCall2
set_option linter.unusedVariables false
set_option linter.unusedSimpArgs false
namespace Go.Sx
open Go Go.Proofs

theorem c_compact (q n : Nat) (l : List Str) (hn : l.length = n) (hN : n ≤ 140737488355328) : ACalls Try.prog 68 [.own q 1 0 n] [(q, .rows 9 1 (l.map fun x => [sA x]))] (GP (fun m : List Str => .own q 1 0 m.length) (fun m => [(q, .rows 9 1 (m.map fun x => [sA x]))]) (fun m => m = cptN l l.length)) := by
  refine acalls_of (n := 61) Try.func68 rfl (by decide +kernel) rfl rfl ?_
  refine awp_seq ?_
  refine awp_region ?_
  refine aops_e (w0 rfl) rfl (eff_assign rfl rfl) ?_
  refine aops_nil ?_
  refine awp_seq ?_
  refine awp_seq ?_
  refine awp_region ?_
  refine aops_e (w0 rfl) rfl (eff_move rfl rfl) ?_
  refine aops_e (w0 rfl) rfl (eff_len rfl rfl rfl rfl) ?_
  refine aops_e (w0 rfl) rfl (eff_icmp rfl rfl rfl rfl) ?_
  refine aops_nil ?_
  refine awp_cond rfl ?_ ?_
  · intro hc
    have hlt : n < 2 := by simp at hc; omega
    refine awp_seq ?_
    refine awp_region ?_
    refine aops_e (w0 rfl) rfl (eff_move rfl rfl) ?_
    refine aops_e (w0 rfl) rfl (eff_assign rfl rfl) ?_
    refine aops_nil ?_
    refine awp_ret ?_
    exact retq_keep rfl (res_tmp rfl res_nil) (.cons_cons _ .slnil) (gp l (by rw [cptN_take (Nat.le_refl _) (fun k h1 h2 => by omega), List.take_length]) (by rw [hn]; rfl) rfl)
  · intro hc
    have hlt : ¬ n < 2 := by simp at hc; omega
    refine awp_skip ?_
    refine awp_seq ?_
    refine awp_seq ?_
    refine awp_region ?_
    refine aops_e (w0 rfl) rfl (eff_assign rfl rfl) ?_
    refine aops_nil ?_
    refine awp_block ?_
    refine awp_loopJ (α := Nat) (fun x => ⟨[(3, iA x), (0, .own q 1 0 n)], [(q, .rows 9 1 (l.map fun x => [sA x]))], [], 61⟩) (fun x => 1 ≤ x ∧ x ≤ n ∧ ∀ i, 0 < i → i < x → cptS l i = true) (fun x => n - x) 1 ⟨Nat.le_refl _, by omega, fun i h1 h2 => by omega⟩ ?_ ?_
    · exact weak_pick [0] ⟨rfl, rfl, trivial⟩ rfl (by decide) rfl rfl
    rintro x hJ
    refine awp_seq ?_
    refine awp_seq ?_
    refine awp_region ?_
    refine aops_e (w0 rfl) rfl (eff_move rfl rfl) ?_
    refine aops_e (w0 rfl) rfl (eff_move rfl rfl) ?_
    refine aops_e (w0 rfl) rfl (eff_len rfl rfl rfl rfl) ?_
    refine aops_e (w0 rfl) rfl (eff_icmp rfl rfl rfl rfl) ?_
    refine aops_nil ?_
    refine awp_cond rfl ?_ ?_
    · intro hc
      have hx : x < n := by simpa using hc
      refine awp_skip ?_
      refine awp_seq ?_
      refine awp_block ?_
      refine awp_seq ?_
      refine awp_drawN 10 rfl (by kernel_rfl) ?_
      refine calm_e (w0 rfl) rfl (eff_move rfl rfl) ?_
      refine calm_e (w0 rfl) rfl (eff_move rfl rfl) ?_
      refine calm_e (w0 rfl) rfl (eff_indexAddr_ownN x rfl rfl rfl (by first | omega | (simp only [List.length_map]; omega)) (by first | omega | (simp only [List.length_map]; omega)) (by omega)) ?_
      refine calm_load_ptr 0 (w0 rfl) rfl rfl rfl rfl (own_get (by first | assumption | omega)) ld_one ?_
      refine calm_e (w0 rfl) rfl (eff_move rfl rfl) ?_
      refine calm_e (w0 rfl) rfl (eff_move rfl rfl) ?_
      refine calm_e (w0 rfl) rfl (eff_arith rfl rfl rfl (arith_sub (by first | omega | (simp only [List.length_map]; omega)))) ?_
      refine calm_e (w0 rfl) rfl (eff_indexAddr_ownN (x - 1) rfl rfl rfl (by first | omega | (simp only [List.length_map]; omega)) (by first | omega | (simp only [List.length_map]; omega)) (by omega)) ?_
      refine calm_load_ptr 0 (w0 rfl) rfl rfl rfl rfl (own_get (by first | assumption | omega)) ld_one ?_
      refine calm_e (w0 rfl) rfl (eff_scmp rfl rfl rfl rfl) ?_
      refine .done ?_
      refine aops_nil ?_
      refine awp_cond rfl ?_ ?_
      · intro hc
        have hq : beqS (l.getD x default) (l.getD (x - 1) default) = true := hc
        refine awp_seq ?_
        refine awp_region ?_
        refine aops_e (w0 rfl) rfl (eff_move rfl rfl) ?_
        refine aops_e (w0 rfl) rfl (eff_move rfl rfl) ?_
        refine aops_e (w0 rfl) rfl (eff_to (y := .own q 1 x (n - x)) (eff_sliceFrom_own rfl rfl rfl (by first | omega | (simp only [List.length_map]; omega)) (by first | omega | (simp only [List.length_map]; omega))) ((by simp))) ?_
        refine aops_e (w0 rfl) rfl (eff_assign rfl rfl) ?_
        refine aops_nil ?_
        refine awp_seq ?_
        refine awp_seq ?_
        refine awp_region ?_
        refine aops_e (w0 rfl) rfl (eff_assign rfl rfl) ?_
        refine aops_nil ?_
        refine awp_block ?_
        refine awp_loopJ (α := List Str × Nat × Nat) (fun z => ⟨[(3, iA z.2.1), (5, iA z.2.2), (4, .own q 1 x (n - x)), (0, .own q 1 0 n)], [(q, .rows 9 1 (z.1.map fun x => [sA x]))], [], 61⟩) (fun z => CptJ l x z.1 z.2.1 z.2.2) (fun z => n - x - z.2.2) (l, x, 1) (CptJ.start hJ.1 (by omega) hJ.2.2 hq) ?_ ?_
        · exact weak_pick [0] ⟨rfl, rfl, rfl, rfl, trivial⟩ rfl (by decide) rfl rfl
        rintro z hJ1
        have hm1 := hJ1.h1
        have hm2 := hJ1.h2
        have hm3 := hJ1.h3
        have hm4 := hJ1.h4
        have hml := hJ1.hl
        refine awp_seq ?_
        refine awp_seq ?_
        refine awp_region ?_
        refine aops_e (w0 rfl) rfl (eff_move rfl rfl) ?_
        refine aops_e (w0 rfl) rfl (eff_move rfl rfl) ?_
        refine aops_e (w0 rfl) rfl (eff_len rfl rfl rfl rfl) ?_
        refine aops_e (w0 rfl) rfl (eff_icmp rfl rfl rfl rfl) ?_
        refine aops_nil ?_
        refine awp_cond rfl ?_ ?_
        · intro hc
          have hj : z.2.2 < l.length - x := by simp at hc; omega
          refine awp_skip ?_
          refine awp_seq ?_
          refine awp_block ?_
          refine awp_seq ?_
          refine awp_drawN 10 rfl (by kernel_rfl) ?_
          refine calm_e (w0 rfl) rfl (eff_move rfl rfl) ?_
          refine calm_e (w0 rfl) rfl (eff_move rfl rfl) ?_
          refine calm_e (w0 rfl) rfl (eff_indexAddr_ownN (x + z.2.2) rfl rfl rfl (by first | omega | (simp only [List.length_map]; omega)) (by first | omega | (simp only [List.length_map]; omega)) (by omega)) ?_
          refine calm_load_ptr 0 (w0 rfl) rfl rfl rfl rfl (own_get (by first | assumption | omega)) ld_one ?_
          refine calm_e (w0 rfl) rfl (eff_move rfl rfl) ?_
          refine calm_e (w0 rfl) rfl (eff_move rfl rfl) ?_
          refine calm_e (w0 rfl) rfl (eff_arith rfl rfl rfl (arith_sub (by first | omega | (simp only [List.length_map]; omega)))) ?_
          refine calm_e (w0 rfl) rfl (eff_indexAddr_ownN (x + (z.2.2 - 1)) rfl rfl rfl (by first | omega | (simp only [List.length_map]; omega)) (by first | omega | (simp only [List.length_map]; omega)) (by omega)) ?_
          refine calm_load_ptr 0 (w0 rfl) rfl rfl rfl rfl (own_get (by first | assumption | omega)) ld_one ?_
          refine calm_e (w0 rfl) rfl (eff_scmp rfl rfl rfl rfl) ?_
          refine .done ?_
          refine aops_nil ?_
          refine awp_cond rfl ?_ ?_
          · intro hc
            have hv : (!beqS (z.1.getD (x + z.2.2) default) (z.1.getD (x + (z.2.2 - 1)) default)) = true := hc
            refine awp_seq ?_
            refine awp_region ?_
            refine aops_e (w0 rfl) rfl (eff_move rfl rfl) ?_
            refine aops_e (w0 rfl) rfl (eff_move rfl rfl) ?_
            refine aops_e (w0 rfl) rfl (eff_move rfl rfl) ?_
            refine aops_e (w0 rfl) rfl (eff_move rfl rfl) ?_
            refine aops_e (w0 rfl) rfl (eff_indexAddr_ownN (x + z.2.2) rfl rfl rfl (by first | omega | (simp only [List.length_map]; omega)) (by first | omega | (simp only [List.length_map]; omega)) (by omega)) ?_
            refine aops_load_ptr 0 (w0 rfl) rfl rfl rfl rfl (own_get (by first | assumption | omega)) ld_one ?_
            refine aops_e (w0 rfl) rfl (eff_indexAddr_ownN z.2.1 rfl rfl rfl (by first | omega | (simp only [List.length_map]; omega)) (by first | omega | (simp only [List.length_map]; omega)) (by omega)) ?_
            refine aops_storeS 0 rfl (w0 rfl) rfl rfl rfl rfl (by first | omega | (simp; omega)) rfl ?_
            refine aops_nil ?_
            refine awp_region ?_
            refine aops_e (w0 rfl) rfl (eff_move rfl rfl) ?_
            refine aops_e (w0 rfl) rfl (eff_arith rfl rfl rfl (arith_add (by first | omega | (simp only [List.length_map]; omega)))) ?_
            refine aops_e (w0 rfl) rfl (eff_assign rfl rfl) ?_
            refine aops_nil ?_
            refine awp_region ?_
            refine aops_e (w0 rfl) rfl (eff_move rfl rfl) ?_
            refine aops_e (w0 rfl) rfl (eff_arith rfl rfl rfl (arith_add (by first | omega | (simp only [List.length_map]; omega)))) ?_
            refine aops_e (w0 rfl) rfl (eff_assign rfl rfl) ?_
            refine aops_nil ?_
            refine ⟨(z.1.set z.2.1 (z.1.getD (x + z.2.2) default), z.2.1 + 1, z.2.2 + 1), (hJ1.put hj hv), (by (try simp only) <;> omega), ?_⟩
            exact weak_pick [0] ⟨rfl, rfl, rfl, rfl, trivial⟩ rfl (by decide) rfl rfl
          · intro hc
            have hv : beqS (z.1.getD (x + z.2.2) default) (z.1.getD (x + (z.2.2 - 1)) default) = true := notF hc
            refine awp_skip ?_
            refine awp_region ?_
            refine aops_e (w0 rfl) rfl (eff_move rfl rfl) ?_
            refine aops_e (w0 rfl) rfl (eff_arith rfl rfl rfl (arith_add (by first | omega | (simp only [List.length_map]; omega)))) ?_
            refine aops_e (w0 rfl) rfl (eff_assign rfl rfl) ?_
            refine aops_nil ?_
            refine ⟨(z.1, z.2.1, z.2.2 + 1), (hJ1.keep hj hv), (by (try simp only) <;> omega), ?_⟩
            exact weak_pick [0] ⟨rfl, rfl, rfl, rfl, trivial⟩ rfl (by decide) rfl rfl
        · intro hc
          have hj : ¬ z.2.2 < l.length - x := by simp at hc; omega
          have hfin := hJ1.fin (by omega) hj
          refine awp_exit ?_
          refine awp_seq ?_
          refine awp_region ?_
          refine aops_e (w0 rfl) rfl (eff_move rfl rfl) ?_
          refine aops_e (w0 rfl) rfl (eff_move rfl rfl) ?_
          refine aops_e (w0 rfl) rfl (eff_to (y := .own q 1 z.2.1 (n - z.2.1)) (eff_sliceFrom_own rfl rfl rfl (by first | omega | (simp only [List.length_map]; omega)) (by first | omega | (simp only [List.length_map]; omega))) ((by simp))) ?_
          refine aops_clearOwn 0 rfl rfl (w0 rfl) rfl rfl rfl rfl ?_
          refine aops_nil ?_
          refine awp_seq ?_
          refine awp_region ?_
          refine aops_e (w0 rfl) rfl (eff_move rfl rfl) ?_
          refine aops_e (w0 rfl) rfl (eff_move rfl rfl) ?_
          refine aops_e (w0 rfl) rfl (eff_to (y := .own q 1 0 z.2.1) (eff_sliceTo_own rfl rfl rfl (by first | omega | (simp only [List.length_map]; omega)) (by first | omega | (simp only [List.length_map]; omega))) ((by simp))) ?_
          refine aops_e (w0 rfl) rfl (eff_assign rfl rfl) ?_
          refine aops_nil ?_
          refine awp_ret ?_
          exact retq_keep rfl (res_tmp rfl res_nil) (.cons_cons _ .slnil) (gp (z.1.take z.2.1) hfin.1 (by show AV.own q 1 0 _ = AV.own q 1 0 _; rw [List.length_take]; congr 1; omega) (by show [(_, AObj.rows _ _ _)] = [(_, AObj.rows _ _ _)]; rw [List.map_take]))
      · intro hc
        have hv : cptS l x = true := by unfold cptS; rw [show beqS (l.getD x default) (l.getD (x - 1) default) = false from hc]; rfl
        refine awp_skip ?_
        refine awp_region ?_
        refine aops_e (w0 rfl) rfl (eff_move rfl rfl) ?_
        refine aops_e (w0 rfl) rfl (eff_arith rfl rfl rfl (arith_add (by first | omega | (simp only [List.length_map]; omega)))) ?_
        refine aops_e (w0 rfl) rfl (eff_assign rfl rfl) ?_
        refine aops_nil ?_
        refine ⟨(x + 1), ⟨by omega, by omega, fun i h1 h2 => by rcases Nat.lt_succ_iff_lt_or_eq.1 h2 with h | h; exact hJ.2.2 i h1 h; rw [h]; exact hv⟩, (by omega), ?_⟩
        exact weak_pick [0] ⟨rfl, rfl, trivial⟩ rfl (by decide) rfl rfl
    · intro hc
      have hx : ¬ x < n := by simpa using hc
      refine awp_exit ?_
      refine awp_seq ?_
      refine awp_region ?_
      refine aops_e (w0 rfl) rfl (eff_move rfl rfl) ?_
      refine aops_e (w0 rfl) rfl (eff_assign rfl rfl) ?_
      refine aops_nil ?_
      refine awp_ret ?_
      exact retq_keep rfl (res_tmp rfl res_nil) (.cons_cons _ .slnil) (gp l (by rw [cptN_take (Nat.le_refl _) (fun k h1 h2 => hJ.2.2 k h1 (by omega)), List.take_length]) (by rw [hn]; rfl) rfl)

theorem c_idxG (l : List Str) (hl : small l.length) (g : Nat) (caps : List AV) (Hc : AHeap) (f : Str → Bool) (hg : ∀ s, s ∈ l → ACalls Try.prog g (sA s :: caps) Hc (GivesH (bA (f s)) Hc)) : ACalls Try.prog 113 [row1 sA l, .fn (.func g) caps] Hc (GivesH (iA (idxFrom f l 0)) Hc) := by
  simp only [small] at hl
  refine acalls_of (n := 19) Try.func113 rfl (by decide +kernel) rfl rfl ?_
  refine awp_seq ?_
  refine awp_region ?_
  refine aops_e (w0 rfl) rfl (eff_assign rfl rfl) ?_
  refine aops_nil ?_
  refine awp_seq ?_
  refine awp_seq ?_
  refine awp_region ?_
  refine aops_e (w0 rfl) rfl (eff_move rfl rfl) ?_
  refine aops_e (w0 rfl) rfl (eff_len rfl rfl rfl rfl) ?_
  refine aops_e (w0 rfl) rfl (eff_move rfl rfl) ?_
  refine aops_nil ?_
  refine awp_block ?_
  refine awp_loopJ (α := Nat) (fun i => ⟨[(8, iA i), (0, row1 sA l), (1, .fn (.func g) caps), (7, iA l.length)], [] ++ Hc, [], 19⟩) (fun i => i ≤ l.length ∧ idxFrom f (l.drop i) i = idxFrom f l 0) (fun i => l.length - i) 0 ⟨by omega, rfl⟩ ?_ ?_
  · exact weak_tail (F := []) (F' := []) (Hj := Hc) [] ⟨rfl, rfl, rfl, (by show some (iA _) = some (iA _); simp), trivial⟩ rfl rfl rfl (by decide) rfl rfl
  rintro i hJ
  refine awp_seq ?_
  refine awp_region ?_
  refine aops_e (w0 rfl) rfl (eff_icmp rfl rfl rfl rfl) ?_
  refine aops_nil ?_
  refine awp_seq ?_
  refine awp_cond rfl ?_ ?_
  · intro hc
    have hi : i < l.length := by simpa using hc
    refine awp_skip ?_
    refine awp_seq ?_
    refine awp_block ?_
    refine awp_seq ?_
    refine awp_region ?_
    refine aops_e (w0 rfl) rfl (eff_move rfl rfl) ?_
    refine aops_e (w0 rfl) rfl (eff_assign rfl rfl) ?_
    refine aops_nil ?_
    refine awp_seq ?_
    refine awp_region ?_
    refine aops_e (w0 rfl) rfl (eff_move rfl rfl) ?_
    refine aops_e (w0 rfl) rfl (eff_move rfl rfl) ?_
    refine aops_e (w0 rfl) rfl (eff_move rfl rfl) ?_
    refine aops_e (w0 rfl) rfl (eff_indexAddr_lst rfl rfl rfl (len_map (fun _ => rfl)) (by first | omega | (simp only [List.length_map]; omega)) (by first | omega | (simp only [List.length_map]; omega))) ?_
    refine aops_e (w0 rfl) rfl (eff_loadE rfl rfl (map_get (by first | assumption | omega)) ld_one) ?_
    refine aops_callG Hc [] (w0 rfl) rfl rfl rfl rfl (by simp) (hg _ (List.getElem_mem hi)) ?_
    refine aops_nil ?_
    refine awp_cond rfl ?_ ?_
    · intro hc
      have hc : f (l[i]) = true := hc
      refine awp_seq ?_
      refine awp_region ?_
      refine aops_e (w0 rfl) rfl (eff_move rfl rfl) ?_
      refine aops_e (w0 rfl) rfl (eff_assign rfl rfl) ?_
      refine aops_nil ?_
      refine awp_ret ?_
      exact retq_keep rfl (res_tmp rfl res_nil) (.refl _) (gvH (congrArg iA (by rw [← hJ.2, drop_get hi]; simp [idxFrom, hc])))
    · intro hc
      have hc : f (l[i]) = false := hc
      refine awp_skip ?_
      refine awp_region ?_
      refine aops_e (w0 rfl) rfl (eff_arith rfl rfl rfl (arith_add (by first | omega | (simp only [List.length_map]; omega)))) ?_
      refine aops_e (w0 rfl) rfl (eff_move rfl rfl) ?_
      refine aops_nil ?_
      refine ⟨i + 1, ⟨by omega, by rw [← hJ.2, drop_get hi]; simp [idxFrom, hc]⟩, (by omega), ?_⟩
      exact weak_tail (F := []) (F' := []) (Hj := Hc) [] ⟨rfl, rfl, rfl, rfl, trivial⟩ rfl rfl rfl (by decide) rfl rfl
  · intro hc
    have hi : ¬ i < l.length := by simpa using hc
    refine awp_exit ?_
    refine awp_seq ?_
    refine awp_region ?_
    refine aops_e (w0 rfl) rfl (eff_assign rfl rfl) ?_
    refine aops_nil ?_
    refine awp_ret ?_
    exact retq_keep rfl (res_tmp rfl res_nil) (.refl _) (gvH (congrArg iA (by rw [← hJ.2, drop_end hi]; rfl)))

theorem c_contG (l : List Str) (hl : small l.length) (g : Nat) (caps : List AV) (Hc : AHeap) (f : Str → Bool) (hg : ∀ s, s ∈ l → ACalls Try.prog g (sA s :: caps) Hc (GivesH (bA (f s)) Hc)) : ACalls Try.prog 94 [row1 sA l, .fn (.func g) caps] Hc (GivesH (bA (l.any f)) Hc) := by
  refine acalls_of (n := 9) Try.func94 rfl (by decide +kernel) rfl rfl ?_
  refine awp_seq ?_
  refine awp_region ?_
  refine aops_e (w0 rfl) rfl (eff_assign rfl rfl) ?_
  refine aops_nil ?_
  refine awp_seq ?_
  refine awp_region ?_
  refine aops_e (w0 rfl) rfl (eff_move rfl rfl) ?_
  refine aops_e (w0 rfl) rfl (eff_move rfl rfl) ?_
  refine aops_callG Hc [] (w0 rfl) rfl rfl rfl rfl (by simp) (c_idxG l hl g caps Hc f hg) ?_
  refine aops_e (w0 rfl) rfl (eff_icmp rfl rfl rfl rfl) ?_
  refine aops_e (w0 rfl) rfl (eff_assign rfl rfl) ?_
  refine aops_nil ?_
  refine awp_ret ?_
  exact retq_keep rfl (res_tmp rfl res_nil) (.refl _) (gvH (congrArg bA (idx_any f l)))

theorem c_missFn (p : Prog) (hb : p.classes.length ≤ 1000) (i1 : Nat) (s : Str) : ACalls Try.prog 107 [sA s, .ptr i1 5 0 0] [(i1, .rows 39 5 [p.cells])] (GivesH (bA (!hasC p s)) [(i1, .rows 39 5 [p.cells])]) := by
  have hbs : small p.classes.length := by unfold small; omega
  refine acalls_of (n := 8) Try.func107 rfl (by decide +kernel) rfl rfl ?_
  refine awp_seq ?_
  refine awp_region ?_
  refine aops_e (w0 rfl) rfl (eff_assign rfl rfl) ?_
  refine aops_nil ?_
  refine awp_seq ?_
  refine awp_region ?_
  refine aops_load_ptr 0 (w0 rfl) rfl rfl rfl rfl rfl (ld_agg (Nat.le_of_ble_eq_true rfl)) ?_
  refine aops_e (w0 rfl) rfl (eff_move rfl rfl) ?_
  refine aops_e (w0 rfl) rfl (eff_call [] rfl rfl rfl (c_normClass p hbs s) List.nodup_nil) ?_
  refine aops_e (w0 rfl) rfl (eff_icmp rfl rfl rfl rfl) ?_
  refine aops_e (w0 rfl) rfl (eff_assign rfl rfl) ?_
  refine aops_nil ?_
  refine awp_ret ?_
  exact retq_keep rfl (res_tmp rfl res_nil) (.refl _) (gvH (congrArg bA (classAt_neg p s)))

theorem c_crossFn (p : Prog) (hb : p.classes.length ≤ 1000) (i1 : Nat) (s : Str) : ACalls Try.prog 108 [sA s, .ptr i1 5 0 0] [(i1, .rows 39 5 [p.cells])] (GivesH (bA (!ifaceP p s)) [(i1, .rows 39 5 [p.cells])]) := by
  have hbs : small p.classes.length := by unfold small; omega
  refine acalls_of (n := 8) Try.func108 rfl (by decide +kernel) rfl rfl ?_
  refine awp_seq ?_
  refine awp_region ?_
  refine aops_e (w0 rfl) rfl (eff_assign rfl rfl) ?_
  refine aops_nil ?_
  refine awp_seq ?_
  refine awp_region ?_
  refine aops_load_ptr 0 (w0 rfl) rfl rfl rfl rfl rfl (ld_agg (Nat.le_of_ble_eq_true rfl)) ?_
  refine aops_e (w0 rfl) rfl (eff_move rfl rfl) ?_
  refine aops_e (w0 rfl) rfl (eff_call [] rfl rfl rfl (c_iface p hbs s) List.nodup_nil) ?_
  refine aops_e (w0 rfl) rfl (eff_not rfl rfl) ?_
  refine aops_e (w0 rfl) rfl (eff_assign rfl rfl) ?_
  refine aops_nil ?_
  refine awp_ret ?_
  exact retq_keep rfl (res_tmp rfl res_nil) (.refl _) (gvH rfl)

theorem c_roundFn (p : Prog) (hb : p.classes.length ≤ 1000) (hif : ∀ c, c ∈ p.classes → c.ifaces.length ≤ 1000) (i1 i2 : Nat) (c : Cls) (s : Str) : ACalls Try.prog 109 [sA s, .ptr i1 5 0 0, .ptr i2 7 0 0] [(i2, .rows 55 7 [c.cells]), (i1, .rows 39 5 [p.cells])] (GivesH (bA (subP p s c.name)) [(i2, .rows 55 7 [c.cells]), (i1, .rows 39 5 [p.cells])]) := by
  refine acalls_of (n := 10) Try.func109 rfl (by decide +kernel) rfl rfl ?_
  refine awp_seq ?_
  refine awp_region ?_
  refine aops_e (w0 rfl) rfl (eff_assign rfl rfl) ?_
  refine aops_nil ?_
  refine awp_seq ?_
  refine awp_region ?_
  refine aops_load_ptr 1 (w0 rfl) rfl rfl rfl rfl rfl (ld_agg (Nat.le_of_ble_eq_true rfl)) ?_
  refine aops_e (w0 rfl) rfl (eff_move rfl rfl) ?_
  refine aops_e (w0 rfl) rfl (eff_fieldAddr rfl rfl rfl) ?_
  refine aops_load_ptr 0 (w0 rfl) rfl rfl rfl rfl rfl ld_one ?_
  refine aops_e (w0 rfl) rfl (eff_call [] rfl rfl rfl (c_sub p hb hif s c.name) List.nodup_nil) ?_
  refine aops_e (w0 rfl) rfl (eff_assign rfl rfl) ?_
  refine aops_nil ?_
  refine awp_ret ?_
  exact retq_keep rfl (res_tmp rfl res_nil) (.refl _) (gvH rfl)

theorem c_missing (p : Prog) (hb : p.classes.length ≤ 1000) (c : Cls) (hl : c.ifaces.length ≤ 1000) : ACalls Try.prog 73 [p.av, c.av] [] (Gives (bA ((upC c).any fun s => !hasC p s))) := by
  refine acalls_of (n := 9) Try.func73 rfl (by decide +kernel) rfl rfl ?_
  refine awp_seq ?_
  refine awp_region ?_
  refine aops_n (w0 rfl) rfl (fun id => eff_box id rfl rfl rfl rfl rfl) (fun id1 => ?_)
  refine aops_n (w0 rfl) rfl (fun id => eff_box id rfl rfl rfl rfl rfl) (fun id2 => ?_)
  refine aops_e (w0 rfl) rfl (eff_assign rfl rfl) ?_
  refine aops_nil ?_
  refine awp_seq ?_
  refine awp_region ?_
  refine aops_load_ptr 0 (w0 rfl) rfl rfl rfl rfl rfl (ld_agg (Nat.le_of_ble_eq_true rfl)) ?_
  refine aops_e (w0 rfl) rfl (eff_call [] rfl rfl rfl (c_up c hl) List.nodup_nil) ?_
  refine aops_e (w0 rfl) rfl (eff_makeFunc rfl rfl) ?_
  refine aops_callG [_] _ (w0 rfl) rfl rfl rfl rfl (perm_get (k := 1) rfl) (c_contG (upC c) (upC_mem_len hl) 107 _ _ (fun s => !hasC p s) (fun s _ => c_missFn p hb id1 s)) ?_
  refine aops_e (w0 rfl) rfl (eff_assign rfl rfl) ?_
  refine aops_nil ?_
  refine awp_ret ?_
  exact retq rfl (res_tmp rfl res_nil) (gb rfl)

theorem c_round (p : Prog) (hb : p.classes.length ≤ 1000) (hif : ∀ c, c ∈ p.classes → c.ifaces.length ≤ 1000) (c : Cls) (hl : c.ifaces.length ≤ 1000) : ACalls Try.prog 75 [p.av, c.av] [] (Gives (bA ((upC c).any fun s => subP p s c.name))) := by
  refine acalls_of (n := 9) Try.func75 rfl (by decide +kernel) rfl rfl ?_
  refine awp_seq ?_
  refine awp_region ?_
  refine aops_n (w0 rfl) rfl (fun id => eff_box id rfl rfl rfl rfl rfl) (fun id1 => ?_)
  refine aops_n (w0 rfl) rfl (fun id => eff_box id rfl rfl rfl rfl rfl) (fun id2 => ?_)
  refine aops_e (w0 rfl) rfl (eff_assign rfl rfl) ?_
  refine aops_nil ?_
  refine awp_seq ?_
  refine awp_region ?_
  refine aops_load_ptr 0 (w0 rfl) rfl rfl rfl rfl rfl (ld_agg (Nat.le_of_ble_eq_true rfl)) ?_
  refine aops_e (w0 rfl) rfl (eff_call [] rfl rfl rfl (c_up c hl) List.nodup_nil) ?_
  refine aops_e (w0 rfl) rfl (eff_makeFunc rfl rfl) ?_
  refine aops_callG [_, _] [] (w0 rfl) rfl rfl rfl rfl (.refl _) (c_contG (upC c) (upC_mem_len hl) 109 _ _ (fun s => subP p s c.name) (fun s _ => c_roundFn p hb hif id1 id2 c s)) ?_
  refine aops_e (w0 rfl) rfl (eff_assign rfl rfl) ?_
  refine aops_nil ?_
  refine awp_ret ?_
  exact retq rfl (res_tmp rfl res_nil) (gb rfl)

theorem c_crossed (p : Prog) (hb : p.classes.length ≤ 1000) (c : Cls) (hl : c.ifaces.length ≤ 1000) : ACalls Try.prog 74 [p.av, c.av] [] (Gives (bA ((!beqS c.super zS && ifaceP p c.super) || c.ifaces.any fun s => !ifaceP p s))) := by
  have hbs : small p.classes.length := by unfold small; omega
  refine acalls_of (n := 20) Try.func74 rfl (by decide +kernel) rfl rfl ?_
  refine awp_seq ?_
  refine awp_region ?_
  refine aops_n (w0 rfl) rfl (fun id => eff_box id rfl rfl rfl rfl rfl) (fun id1 => ?_)
  refine aops_n (w0 rfl) rfl (fun id => eff_box id rfl rfl rfl rfl rfl) (fun id2 => ?_)
  refine aops_e (w0 rfl) rfl (eff_assign rfl rfl) ?_
  refine aops_nil ?_
  refine awp_seq ?_
  refine awp_region ?_
  refine aops_e (w0 rfl) rfl (eff_fieldAddr rfl rfl rfl) ?_
  refine aops_load_ptr 0 (w0 rfl) rfl rfl rfl rfl rfl ld_one ?_
  refine aops_e (w0 rfl) rfl (eff_scmp rfl rfl rfl rfl) ?_
  refine aops_e (w0 rfl) rfl (eff_move rfl rfl) ?_
  refine aops_gload 1 (wT rfl rfl rfl rfl) rfl rfl (fun hg => rfl) rfl rfl (ld_agg (Nat.le_of_ble_eq_true rfl)) ?_
  refine aops_g (wT rfl rfl rfl rfl) rfl (fun hg => (eff_fieldAddr rfl rfl rfl)) ?_
  refine aops_gload 0 (wT rfl rfl rfl rfl) rfl rfl (fun hg => (ev_g hg rfl)) rfl rfl ld_one ?_
  refine aops_g (wT rfl rfl rfl rfl) rfl (fun hg => (eff_call [] rfl rfl (evs_cons (ev_g hg rfl) (evs_cons (ev_g hg rfl) evs_nil)) (c_iface p hbs c.super) List.nodup_nil)) ?_
  refine aops_e (w0 rfl) rfl (eff_and rfl rfl rfl (fun h => h)) ?_
  refine aops_e (w0 rfl) rfl (eff_move rfl rfl) ?_
  refine aops_g (wF rfl rfl rfl rfl) rfl (fun hg => (eff_fieldAddr rfl rfl rfl)) ?_
  refine aops_gload 0 (wF rfl rfl rfl rfl) rfl rfl (fun hg => (ev_g hg rfl)) rfl rfl ld_one ?_
  refine aops_g (wF rfl rfl rfl rfl) rfl (fun hg => (eff_makeFunc rfl rfl)) ?_
  refine aops_gcallG [_] _ (wF rfl rfl rfl rfl) rfl rfl (fun hg => rfl) (fun hg => (evs_cons (ev_g hg rfl) (evs_cons (ev_g hg rfl) evs_nil))) (perm_get (k := 1) rfl) (fun hg => (c_contG c.ifaces (by unfold small; omega) 108 _ _ (fun s => !ifaceP p s) (fun s _ => c_crossFn p hb id1 s))) ?_
  refine aops_e (w0 rfl) rfl (eff_or rfl rfl rfl (fun h => by rw [h]; rfl)) ?_
  refine aops_e (w0 rfl) rfl (eff_assign rfl rfl) ?_
  refine aops_nil ?_
  refine awp_ret ?_
  exact retq rfl (res_tmp rfl res_nil) (gb rfl)

def concP (p : Prog) (nm : Str) : Bool := match clsFind p nm with | some c => !c.abs | none => false

theorem c_conc (p : Prog) (hb : p.classes.length ≤ 1000) (nm : Str) : ACalls Try.prog 38 [p.av, sA nm] [] (Gives (bA (concP p nm))) := by
  have hbs : small p.classes.length := by unfold small; omega
  refine acalls_of (n := 19) Try.func38 rfl (by decide +kernel) rfl rfl ?_
  refine awp_seq ?_
  refine awp_region ?_
  refine aops_n (w0 rfl) rfl (fun id => eff_box id rfl rfl rfl rfl rfl) (fun id1 => ?_)
  refine aops_e (w0 rfl) rfl (eff_assign rfl rfl) ?_
  refine aops_nil ?_
  refine awp_seq ?_
  rcases hk : clsFind p nm with _ | c
  · skip
    refine awp_region ?_
    refine aops_load_ptr 0 (w0 rfl) rfl rfl rfl rfl rfl (ld_agg (Nat.le_of_ble_eq_true rfl)) ?_
    refine aops_e (w0 rfl) rfl (eff_move rfl rfl) ?_
    refine aops_e (w0 rfl) rfl (eff_call [] rfl rfl rfl (c_known p hbs nm hk) List.nodup_nil) ?_
    refine aops_e (w0 rfl) rfl (eff_move rfl rfl) ?_
    refine aops_e (w0 rfl) rfl (eff_extract rfl rfl rfl) ?_
    refine aops_e (w0 rfl) rfl (eff_extract rfl rfl rfl) ?_
    refine aops_n (w0 rfl) rfl (fun id => eff_alloc id rfl rfl rfl) (fun id2 => ?_)
    refine aops_store 0 (w0 rfl) rfl rfl rfl rfl rfl rfl rfl rfl rfl ?_
    refine aops_e (w0 rfl) rfl (eff_assign rfl rfl) ?_
    refine aops_nil ?_
    refine awp_seq ?_
    refine awp_region ?_
    refine aops_e (w0 rfl) rfl (eff_move rfl rfl) ?_
    refine aops_e (w0 rfl) rfl (eff_move rfl rfl) ?_
    refine aops_g (wT rfl rfl rfl rfl) rfl (fun hg => (eff_fieldAddr rfl rfl rfl)) ?_
    refine aops_gload 0 (wT rfl rfl rfl rfl) rfl rfl (fun hg => (ev_g hg rfl)) rfl rfl ld_one ?_
    refine aops_g (wT rfl rfl rfl rfl) rfl (fun hg => (eff_not rfl (ev_g hg rfl))) ?_
    refine aops_e (w0 rfl) rfl (eff_and rfl rfl rfl (fun h => h)) ?_
    refine aops_e (w0 rfl) rfl (eff_assign rfl rfl) ?_
    refine aops_nil ?_
    refine awp_ret ?_
    exact retq rfl (res_tmp rfl res_nil) (gb (by simp [concP, hk]))
  · skip
    refine awp_region ?_
    refine aops_load_ptr 0 (w0 rfl) rfl rfl rfl rfl rfl (ld_agg (Nat.le_of_ble_eq_true rfl)) ?_
    refine aops_e (w0 rfl) rfl (eff_move rfl rfl) ?_
    refine aops_e (w0 rfl) rfl (eff_call [] rfl rfl rfl (c_known p hbs nm hk) List.nodup_nil) ?_
    refine aops_e (w0 rfl) rfl (eff_move rfl rfl) ?_
    refine aops_e (w0 rfl) rfl (eff_extract rfl rfl rfl) ?_
    refine aops_e (w0 rfl) rfl (eff_extract rfl rfl rfl) ?_
    refine aops_n (w0 rfl) rfl (fun id => eff_alloc id rfl rfl rfl) (fun id3 => ?_)
    refine aops_store 0 (w0 rfl) rfl rfl rfl rfl rfl rfl rfl rfl rfl ?_
    refine aops_e (w0 rfl) rfl (eff_assign rfl rfl) ?_
    refine aops_nil ?_
    refine awp_seq ?_
    refine awp_region ?_
    refine aops_e (w0 rfl) rfl (eff_move rfl rfl) ?_
    refine aops_e (w0 rfl) rfl (eff_move rfl rfl) ?_
    refine aops_g (wT rfl rfl rfl rfl) rfl (fun hg => (eff_fieldAddr rfl rfl rfl)) ?_
    refine aops_gload 0 (wT rfl rfl rfl rfl) rfl rfl (fun hg => (ev_g hg rfl)) rfl rfl ld_one ?_
    refine aops_g (wT rfl rfl rfl rfl) rfl (fun hg => (eff_not rfl (ev_g hg rfl))) ?_
    refine aops_e (w0 rfl) rfl (eff_and rfl rfl rfl (fun h => h)) ?_
    refine aops_e (w0 rfl) rfl (eff_assign rfl rfl) ?_
    refine aops_nil ?_
    refine awp_ret ?_
    exact retq rfl (res_tmp rfl res_nil) (gb (by simp [concP, hk]))

theorem c_refConc (p : Prog) (hb : p.classes.length ≤ 1000) (nm : Str) : ACalls Try.prog 39 [p.av, sA nm] [] (Gives (bA (concP p nm))) := by
  have hbs : small p.classes.length := by unfold small; omega
  refine acalls_of (n := 20) Try.func39 rfl (by decide +kernel) rfl rfl ?_
  refine awp_seq ?_
  refine awp_region ?_
  refine aops_n (w0 rfl) rfl (fun id => eff_box id rfl rfl rfl rfl rfl) (fun id1 => ?_)
  refine aops_e (w0 rfl) rfl (eff_assign rfl rfl) ?_
  refine aops_nil ?_
  refine awp_seq ?_
  rcases classAt_cases p nm with ⟨h1, h2⟩ | ⟨j, hj, h1, h2⟩
  · skip
    refine awp_region ?_
    refine aops_load_ptr 0 (w0 rfl) rfl rfl rfl rfl rfl (ld_agg (Nat.le_of_ble_eq_true rfl)) ?_
    refine aops_e (w0 rfl) rfl (eff_move rfl rfl) ?_
    refine aops_e (w0 rfl) rfl (eff_call [] rfl rfl rfl (c_class p hbs nm) List.nodup_nil) ?_
    refine aops_e (w0 rfl) rfl (eff_assign rfl rfl) ?_
    refine aops_nil ?_
    refine awp_seq ?_
    refine awp_region ?_
    refine aops_e (w0 rfl) rfl (eff_move rfl rfl) ?_
    refine aops_e (w0 rfl) rfl (eff_icmp rfl rfl rfl rfl) ?_
    refine aops_e (w0 rfl) rfl (eff_move rfl rfl) ?_
    refine aops_g (wT rfl rfl rfl rfl) rfl (fun hg => (eff_fieldAddr rfl rfl rfl)) ?_
    refine aops_gload 0 (wT rfl rfl rfl rfl) rfl rfl (fun hg => (ev_g hg rfl)) rfl rfl ld_one ?_
    refine aops_g (wT rfl rfl rfl rfl) rfl (fun hg => (eff_move rfl rfl)) ?_
    refine aops_g (wT rfl rfl rfl rfl) rfl (fun hg => (eff_indexAddr_lst rfl (ev_g hg rfl) (ev_g hg rfl) (len_map (fun _ => rfl)) (by (try simp at hg) <;> first | omega | (simp only [List.length_map]; omega)) (by (try simp at hg) <;> first | omega | (simp only [List.length_map]; omega)))) ?_
    refine aops_g (wT rfl rfl rfl rfl) rfl (fun hg => (eff_fieldAddr rfl (ev_g hg rfl) rfl)) ?_
    refine aops_g (wT rfl rfl rfl rfl) rfl (fun hg => (eff_loadE rfl (ev_g hg rfl) (map_getD (by (try simp at hg) <;> first | assumption | omega)) ld_one)) ?_
    refine aops_g (wT rfl rfl rfl rfl) rfl (fun hg => (eff_not rfl (ev_g hg rfl))) ?_
    refine aops_e (w0 rfl) rfl (eff_and rfl rfl rfl (fun h => h)) ?_
    refine aops_e (w0 rfl) rfl (eff_assign rfl rfl) ?_
    refine aops_nil ?_
    refine awp_ret ?_
    exact retq rfl (res_tmp rfl res_nil) (gb (by simp_all [concP]))
  · skip
    refine awp_region ?_
    refine aops_load_ptr 0 (w0 rfl) rfl rfl rfl rfl rfl (ld_agg (Nat.le_of_ble_eq_true rfl)) ?_
    refine aops_e (w0 rfl) rfl (eff_move rfl rfl) ?_
    refine aops_e (w0 rfl) rfl (eff_call [] rfl rfl rfl (c_class p hbs nm) List.nodup_nil) ?_
    refine aops_e (w0 rfl) rfl (eff_assign rfl rfl) ?_
    refine aops_nil ?_
    refine awp_seq ?_
    refine awp_region ?_
    refine aops_e (w0 rfl) rfl (eff_move rfl rfl) ?_
    refine aops_e (w0 rfl) rfl (eff_icmp rfl rfl rfl rfl) ?_
    refine aops_e (w0 rfl) rfl (eff_move rfl rfl) ?_
    refine aops_g (wT rfl rfl rfl rfl) rfl (fun hg => (eff_fieldAddr rfl rfl rfl)) ?_
    refine aops_gload 0 (wT rfl rfl rfl rfl) rfl rfl (fun hg => (ev_g hg rfl)) rfl rfl ld_one ?_
    refine aops_g (wT rfl rfl rfl rfl) rfl (fun hg => (eff_move rfl rfl)) ?_
    refine aops_g (wT rfl rfl rfl rfl) rfl (fun hg => (eff_indexAddr_lst rfl (ev_g hg rfl) (ev_g hg rfl) (len_map (fun _ => rfl)) (by (try simp at hg) <;> first | omega | (simp only [List.length_map]; omega)) (by (try simp at hg) <;> first | omega | (simp only [List.length_map]; omega)))) ?_
    refine aops_g (wT rfl rfl rfl rfl) rfl (fun hg => (eff_fieldAddr rfl (ev_g hg rfl) rfl)) ?_
    refine aops_g (wT rfl rfl rfl rfl) rfl (fun hg => (eff_loadE rfl (ev_g hg rfl) (map_getD (by (try simp at hg) <;> first | assumption | omega)) ld_one)) ?_
    refine aops_g (wT rfl rfl rfl rfl) rfl (fun hg => (eff_not rfl (ev_g hg rfl))) ?_
    refine aops_e (w0 rfl) rfl (eff_and rfl rfl rfl (fun h => h)) ?_
    refine aops_e (w0 rfl) rfl (eff_assign rfl rfl) ?_
    refine aops_nil ?_
    refine awp_ret ?_
    exact retq rfl (res_tmp rfl res_nil) (gb (by simp_all [concP]))

theorem c_subs (p : Prog) (hb : p.classes.length ≤ 1000) (hif : ∀ c, c ∈ p.classes → c.ifaces.length ≤ 1000) (nm : Str) : ACalls Try.prog 32 [p.av, sA nm] [] (Gives (row1 sA (subsL p nm))) := by
  refine acalls_of (n := 30) Try.func32 rfl (by decide +kernel) rfl rfl ?_
  refine awp_seq ?_
  refine awp_region ?_
  refine aops_n (w0 rfl) rfl (fun id => eff_box id rfl rfl rfl rfl rfl) (fun id1 => ?_)
  refine aops_e (w0 rfl) rfl (eff_assign rfl rfl) ?_
  refine aops_nil ?_
  refine awp_seq ?_
  refine awp_region ?_
  refine aops_n (w0 rfl) rfl (fun id => eff_nil id 9 1 (.inl rfl) rfl) (fun id2 => ?_)
  refine aops_nil ?_
  refine awp_seq ?_
  refine awp_seq ?_
  refine awp_region ?_
  refine aops_e (w0 rfl) rfl (eff_fieldAddr rfl rfl rfl) ?_
  refine aops_load_ptr 1 (w0 rfl) rfl rfl rfl rfl rfl ld_one ?_
  refine aops_e (w0 rfl) rfl (eff_len rfl rfl rfl rfl) ?_
  refine aops_e (w0 rfl) rfl (eff_move rfl rfl) ?_
  refine aops_nil ?_
  refine awp_block ?_
  refine awp_loopJ (α := Nat × Nat) (fun x => ⟨[(11, iA x.2), (5, .own x.1 1 0 (subN p nm x.2).length), (2, .ptr id1 5 0 0), (1, sA nm), (10, iA p.classes.length), (9, .lst (p.classes.map Cls.cells))], [(x.1, .rows 9 1 ((subN p nm x.2).map fun x => [sA x])), (id1, .rows 39 5 [p.cells])], [], 30⟩) (fun x => x.2 ≤ p.classes.length) (fun x => p.classes.length - x.2) (id2, 0) (Nat.zero_le _) ?_ ?_
  · exact weak_pick [0, 1] ⟨rfl, rfl, rfl, rfl, (by show some (iA _) = some (iA _); simp), rfl, trivial⟩ rfl (by decide) rfl rfl
  rintro x hJ
  have hsn := subN_len p nm x.2
  refine awp_seq ?_
  refine awp_region ?_
  refine aops_e (w0 rfl) rfl (eff_icmp rfl rfl rfl rfl) ?_
  refine aops_nil ?_
  refine awp_seq ?_
  refine awp_cond rfl ?_ ?_
  · intro hc
    have hi : x.2 < p.classes.length := by simpa using hc
    refine awp_skip ?_
    refine awp_seq ?_
    refine awp_block ?_
    refine awp_seq ?_
    refine awp_region ?_
    refine aops_e (w0 rfl) rfl (eff_indexAddr_lst rfl rfl rfl (len_map (fun _ => rfl)) (by first | omega | (simp only [List.length_map]; omega)) (by first | omega | (simp only [List.length_map]; omega))) ?_
    refine aops_e (w0 rfl) rfl (eff_loadE rfl rfl (map_get (by first | assumption | omega)) (ld_agg (Nat.le_of_ble_eq_true rfl))) ?_
    refine aops_n (w0 rfl) rfl (fun id => eff_alloc id rfl rfl rfl) (fun id3 => ?_)
    refine aops_store 0 (w0 rfl) rfl rfl rfl rfl rfl rfl rfl rfl rfl ?_
    refine aops_nil ?_
    refine awp_seq ?_
    refine awp_region ?_
    refine aops_load_ptr 2 (w0 rfl) rfl rfl rfl rfl rfl (ld_agg (Nat.le_of_ble_eq_true rfl)) ?_
    refine aops_e (w0 rfl) rfl (eff_fieldAddr rfl rfl rfl) ?_
    refine aops_load_ptr 0 (w0 rfl) rfl rfl rfl rfl rfl ld_one ?_
    refine aops_e (w0 rfl) rfl (eff_move rfl rfl) ?_
    refine aops_e (w0 rfl) rfl (eff_call [] rfl rfl rfl (c_sub p hb hif _ nm) List.nodup_nil) ?_
    refine aops_nil ?_
    refine awp_cond rfl ?_ ?_
    · intro hc
      have hq : subP p p.classes[x.2].name nm = true := hc
      have e : subN p nm (x.2 + 1) = (subN p nm x.2) ++ [p.classes[x.2].name] := by rw [subN_succ hi, hq]; rfl
      refine awp_region ?_
      refine aops_e (w0 rfl) rfl (eff_move rfl rfl) ?_
      refine aops_e (w0 rfl) rfl (eff_fieldAddr rfl rfl rfl) ?_
      refine aops_load_ptr 0 (w0 rfl) rfl rfl rfl rfl rfl ld_one ?_
      refine aops_n (w0 rfl) rfl (fun id => eff_buildSlice id (ps := [(0, .tmp 22)]) rfl rfl rfl rfl rfl rfl rfl rfl) (fun id4 => ?_)
      refine aops_append 2 (w0 rfl) rfl rfl rfl rfl (by simp) rfl ⟨rfl, _, _, List.mem_of_getElem? (i := 0) rfl, by simp, rfl⟩ (by first | omega | (simp; omega) | (simp [maxLen]; omega) | (simp; done) | (simp [maxLen]; done)) (by first | omega | (simp; omega) | (simp [maxLen]; omega) | (simp; done) | (simp [maxLen]; done)) (fun id5 => ?_)
      refine aops_e (w0 rfl) rfl (eff_assign rfl rfl) ?_
      refine aops_nil ?_
      refine awp_region ?_
      refine aops_e (w0 rfl) rfl (eff_arith rfl rfl rfl (arith_add (by first | omega | (simp only [List.length_map]; omega)))) ?_
      refine aops_e (w0 rfl) rfl (eff_move rfl rfl) ?_
      refine aops_nil ?_
      refine ⟨(id5, x.2 + 1), (by show x.2 + 1 ≤ _; omega), (by show p.classes.length - (x.2 + 1) < p.classes.length - x.2; omega), ?_⟩
      exact weak_pick [2, 3] ⟨rfl, (by show some (AV.own _ _ _ _) = some (AV.own _ _ _ _); first | (rw [e]; done) | (rw [e]; simp [cellsA])), rfl, rfl, rfl, rfl, trivial⟩ (by show some [(_, AObj.rows _ _ _), _] = some [(_, AObj.rows _ _ _), _]; first | (rw [e]; done) | (rw [e]; simp [cellsA])) (by decide) rfl rfl
    · intro hc
      have hq : subP p p.classes[x.2].name nm = false := hc
      have e : subN p nm (x.2 + 1) = (subN p nm x.2) := by rw [subN_succ hi, hq]; simp
      refine awp_skip ?_
      refine awp_region ?_
      refine aops_e (w0 rfl) rfl (eff_arith rfl rfl rfl (arith_add (by first | omega | (simp only [List.length_map]; omega)))) ?_
      refine aops_e (w0 rfl) rfl (eff_move rfl rfl) ?_
      refine aops_nil ?_
      refine ⟨(x.1, x.2 + 1), (by show x.2 + 1 ≤ _; omega), (by show p.classes.length - (x.2 + 1) < p.classes.length - x.2; omega), ?_⟩
      exact weak_pick [1, 2] ⟨rfl, (by show some (AV.own _ _ _ _) = some (AV.own _ _ _ _); first | (rw [e]; done) | (rw [e]; simp [cellsA])), rfl, rfl, rfl, rfl, trivial⟩ (by show some [(_, AObj.rows _ _ _), _] = some [(_, AObj.rows _ _ _), _]; first | (rw [e]; done) | (rw [e]; simp [cellsA])) (by decide) rfl rfl
  · intro hc
    have hi : ¬ x.2 < p.classes.length := by simpa using hc
    refine awp_exit ?_
    refine awp_seq ?_
    refine awp_region ?_
    refine aops_e (w0 rfl) rfl (eff_move rfl rfl) ?_
    refine aops_callP [_] _ (w0 rfl) rfl rfl rfl rfl (perm_get (k := 0) rfl) (c_sort x.1 _ (subN p nm x.2) rfl (by omega)) (fun v6 hv6 => ?_)
    have hsrt := hv6
    refine aops_nil ?_
    refine awp_seq ?_
    refine awp_region ?_
    refine aops_e (w0 rfl) rfl (eff_move rfl rfl) ?_
    refine aops_callP [_] _ (w0 rfl) rfl rfl rfl rfl (perm_get (k := 0) rfl) (c_compact x.1 _ v6 hsrt.1.length_eq (by omega)) (fun v7 hv7 => ?_)
    refine aops_e (w0 rfl) rfl (eff_assign rfl rfl) ?_
    refine aops_nil ?_
    refine awp_ret ?_
    exact retq_frz 0 rfl rfl rfl rfl (by simp) (by rw [hv7, cptN_ris hsrt.1 (by rw [hsrt.1.length_eq]; exact hsrt.2), subN_all p nm hi]; rfl)

theorem c_refSubs (p : Prog) (hb : p.classes.length ≤ 1000) (hif : ∀ c, c ∈ p.classes → c.ifaces.length ≤ 1000) (nm : Str) : ACalls Try.prog 33 [p.av, sA nm] [] (Gives (row1 sA (subsL p nm))) := by
  refine acalls_of (n := 34) Try.func33 rfl (by decide +kernel) rfl rfl ?_
  refine awp_seq ?_
  refine awp_region ?_
  refine aops_n (w0 rfl) rfl (fun id => eff_box id rfl rfl rfl rfl rfl) (fun id1 => ?_)
  refine aops_e (w0 rfl) rfl (eff_assign rfl rfl) ?_
  refine aops_nil ?_
  refine awp_seq ?_
  refine awp_region ?_
  refine aops_n (w0 rfl) rfl (fun id => eff_nil id 9 1 (.inl rfl) rfl) (fun id2 => ?_)
  refine aops_nil ?_
  refine awp_seq ?_
  refine awp_seq ?_
  refine awp_region ?_
  refine aops_e (w0 rfl) rfl (eff_assign rfl rfl) ?_
  refine aops_nil ?_
  refine awp_block ?_
  refine awp_loopJ (α := Nat × Nat) (fun x => ⟨[(6, iA x.2), (5, .own x.1 1 0 (subN p nm x.2).length), (2, .ptr id1 5 0 0), (1, sA nm)], [(x.1, .rows 9 1 ((subN p nm x.2).map fun x => [sA x])), (id1, .rows 39 5 [p.cells])], [], 34⟩) (fun x => x.2 ≤ p.classes.length) (fun x => p.classes.length - x.2) (id2, 0) (Nat.zero_le _) ?_ ?_
  · exact weak_pick [0, 1] ⟨rfl, rfl, rfl, rfl, trivial⟩ rfl (by decide) rfl rfl
  rintro x hJ
  have hsn := subN_len p nm x.2
  refine awp_seq ?_
  refine awp_seq ?_
  refine awp_region ?_
  refine aops_e (w0 rfl) rfl (eff_move rfl rfl) ?_
  refine aops_e (w0 rfl) rfl (eff_fieldAddr rfl rfl rfl) ?_
  refine aops_load_ptr 1 (w0 rfl) rfl rfl rfl rfl rfl ld_one ?_
  refine aops_e (w0 rfl) rfl (eff_len rfl rfl rfl rfl) ?_
  refine aops_e (w0 rfl) rfl (eff_icmp rfl rfl rfl rfl) ?_
  refine aops_nil ?_
  refine awp_cond rfl ?_ ?_
  · intro hc
    have hi : x.2 < p.classes.length := by simpa using hc
    refine awp_skip ?_
    refine awp_seq ?_
    refine awp_block ?_
    refine awp_seq ?_
    refine awp_drawN 9 rfl (by kernel_rfl) ?_
    refine calm_load_ptr 1 (w0 rfl) rfl rfl rfl rfl rfl (ld_agg (Nat.le_of_ble_eq_true rfl)) ?_
    refine calm_e (w0 rfl) rfl (eff_fieldAddr rfl rfl rfl) ?_
    refine calm_load_ptr 1 (w0 rfl) rfl rfl rfl rfl rfl ld_one ?_
    refine calm_e (w0 rfl) rfl (eff_move rfl rfl) ?_
    refine calm_e (w0 rfl) rfl (eff_indexAddr_lst rfl rfl rfl (len_map (fun _ => rfl)) (by first | omega | (simp only [List.length_map]; omega)) (by first | omega | (simp only [List.length_map]; omega))) ?_
    refine calm_e (w0 rfl) rfl (eff_fieldAddr rfl rfl rfl) ?_
    refine calm_e (w0 rfl) rfl (eff_loadE rfl rfl (map_get (by first | assumption | omega)) ld_one) ?_
    refine calm_e (w0 rfl) rfl (eff_move rfl rfl) ?_
    refine calm_e (w0 rfl) rfl (eff_call [] rfl rfl rfl (c_refSub p hb hif _ nm) List.nodup_nil) ?_
    refine .done ?_
    refine aops_nil ?_
    refine awp_cond rfl ?_ ?_
    · intro hc
      have hq : subP p p.classes[x.2].name nm = true := hc
      have e : subN p nm (x.2 + 1) = (subN p nm x.2) ++ [p.classes[x.2].name] := by rw [subN_succ hi, hq]; rfl
      refine awp_region ?_
      refine aops_e (w0 rfl) rfl (eff_move rfl rfl) ?_
      refine aops_e (w0 rfl) rfl (eff_fieldAddr rfl rfl rfl) ?_
      refine aops_load_ptr 1 (w0 rfl) rfl rfl rfl rfl rfl ld_one ?_
      refine aops_e (w0 rfl) rfl (eff_move rfl rfl) ?_
      refine aops_e (w0 rfl) rfl (eff_indexAddr_lst rfl rfl rfl (len_map (fun _ => rfl)) (by first | omega | (simp only [List.length_map]; omega)) (by first | omega | (simp only [List.length_map]; omega))) ?_
      refine aops_e (w0 rfl) rfl (eff_fieldAddr rfl rfl rfl) ?_
      refine aops_e (w0 rfl) rfl (eff_loadE rfl rfl (map_get (by first | assumption | omega)) ld_one) ?_
      refine aops_n (w0 rfl) rfl (fun id => eff_buildSlice id (ps := [(0, .tmp 29)]) rfl rfl rfl rfl rfl rfl rfl rfl) (fun id3 => ?_)
      refine aops_append 1 (w0 rfl) rfl rfl rfl rfl (by simp) rfl ⟨rfl, _, _, List.mem_of_getElem? (i := 0) rfl, by simp, rfl⟩ (by first | omega | (simp; omega) | (simp [maxLen]; omega) | (simp; done) | (simp [maxLen]; done)) (by first | omega | (simp; omega) | (simp [maxLen]; omega) | (simp; done) | (simp [maxLen]; done)) (fun id4 => ?_)
      refine aops_e (w0 rfl) rfl (eff_assign rfl rfl) ?_
      refine aops_nil ?_
      refine awp_region ?_
      refine aops_e (w0 rfl) rfl (eff_move rfl rfl) ?_
      refine aops_e (w0 rfl) rfl (eff_arith rfl rfl rfl (arith_add (by first | omega | (simp only [List.length_map]; omega)))) ?_
      refine aops_e (w0 rfl) rfl (eff_assign rfl rfl) ?_
      refine aops_nil ?_
      refine ⟨(id4, x.2 + 1), (by show x.2 + 1 ≤ _; omega), (by show p.classes.length - (x.2 + 1) < p.classes.length - x.2; omega), ?_⟩
      exact weak_pick [1, 2] ⟨rfl, (by show some (AV.own _ _ _ _) = some (AV.own _ _ _ _); first | (rw [e]; done) | (rw [e]; simp [cellsA])), rfl, rfl, trivial⟩ (by show some [(_, AObj.rows _ _ _), _] = some [(_, AObj.rows _ _ _), _]; first | (rw [e]; done) | (rw [e]; simp [cellsA])) (by decide) rfl rfl
    · intro hc
      have hq : subP p p.classes[x.2].name nm = false := hc
      have e : subN p nm (x.2 + 1) = (subN p nm x.2) := by rw [subN_succ hi, hq]; simp
      refine awp_skip ?_
      refine awp_region ?_
      refine aops_e (w0 rfl) rfl (eff_move rfl rfl) ?_
      refine aops_e (w0 rfl) rfl (eff_arith rfl rfl rfl (arith_add (by first | omega | (simp only [List.length_map]; omega)))) ?_
      refine aops_e (w0 rfl) rfl (eff_assign rfl rfl) ?_
      refine aops_nil ?_
      refine ⟨(x.1, x.2 + 1), (by show x.2 + 1 ≤ _; omega), (by show p.classes.length - (x.2 + 1) < p.classes.length - x.2; omega), ?_⟩
      exact weak_pick [0, 1] ⟨rfl, (by show some (AV.own _ _ _ _) = some (AV.own _ _ _ _); first | (rw [e]; done) | (rw [e]; simp [cellsA])), rfl, rfl, trivial⟩ (by show some [(_, AObj.rows _ _ _), _] = some [(_, AObj.rows _ _ _), _]; first | (rw [e]; done) | (rw [e]; simp [cellsA])) (by decide) rfl rfl
  · intro hc
    have hi : ¬ x.2 < p.classes.length := by simpa using hc
    refine awp_exit ?_
    refine awp_seq ?_
    refine awp_weak (weak_frz 0 5 (T' := []) rfl rfl (by simp) trivial) ?_
    refine awp_region ?_
    refine aops_e (w0 rfl) rfl (eff_move rfl rfl) ?_
    refine aops_e (w0 rfl) rfl (eff_call [] rfl rfl rfl (c_rising (subN p nm x.2) (by omega)) List.nodup_nil) ?_
    refine aops_e (w0 rfl) rfl (eff_assign rfl rfl) ?_
    refine aops_nil ?_
    refine awp_ret ?_
    exact retq rfl (res_tmp rfl res_nil) (gvr (by rw [subN_all p nm hi]; rfl))

theorem c_check (p : Prog) (hb : p.classes.length ≤ 1000) (hif : ∀ c, c ∈ p.classes → c.ifaces.length ≤ 1000) : ACalls Try.prog 40 [p.av] [] (Gives (.tup [iA (checkP p).1, sA (checkP p).2])) := by
  refine acalls_of (n := 41) Try.func40 rfl (by decide +kernel) rfl rfl ?_
  refine awp_seq ?_
  refine awp_region ?_
  refine aops_n (w0 rfl) rfl (fun id => eff_box id rfl rfl rfl rfl rfl) (fun id1 => ?_)
  refine aops_e (w0 rfl) rfl (eff_assign rfl rfl) ?_
  refine aops_e (w0 rfl) rfl (eff_assign rfl rfl) ?_
  refine aops_nil ?_
  refine awp_seq ?_
  refine awp_seq ?_
  refine awp_region ?_
  refine aops_e (w0 rfl) rfl (eff_fieldAddr rfl rfl rfl) ?_
  refine aops_load_ptr 0 (w0 rfl) rfl rfl rfl rfl rfl ld_one ?_
  refine aops_e (w0 rfl) rfl (eff_len rfl rfl rfl rfl) ?_
  refine aops_e (w0 rfl) rfl (eff_move rfl rfl) ?_
  refine aops_nil ?_
  refine awp_block ?_
  refine awp_loopJ (α := Nat) (fun i => ⟨[(11, iA i), (10, iA p.classes.length), (9, .lst (p.classes.map Cls.cells)), (1, .ptr id1 5 0 0)], [(id1, .rows 39 5 [p.cells])], [], 41⟩) (fun i => i ≤ p.classes.length ∧ (p.classes.drop i).find? (f1 p) = p.classes.find? (f1 p)) (fun i => p.classes.length - i) 0 ⟨Nat.zero_le _, rfl⟩ ?_ ?_
  · exact weak_pick [0] ⟨rfl, (by show some (iA _) = some (iA _); simp), rfl, rfl, trivial⟩ rfl (by decide) rfl rfl
  rintro i hJ
  refine awp_seq ?_
  refine awp_region ?_
  refine aops_e (w0 rfl) rfl (eff_icmp rfl rfl rfl rfl) ?_
  refine aops_nil ?_
  refine awp_seq ?_
  refine awp_cond rfl ?_ ?_
  · intro hc
    have hi : i < p.classes.length := by simpa using hc
    have hil := hif _ (List.getElem_mem hi)
    refine awp_skip ?_
    refine awp_seq ?_
    refine awp_block ?_
    refine awp_seq ?_
    refine awp_region ?_
    refine aops_e (w0 rfl) rfl (eff_indexAddr_lst rfl rfl rfl (len_map (fun _ => rfl)) (by first | omega | (simp only [List.length_map]; omega)) (by first | omega | (simp only [List.length_map]; omega))) ?_
    refine aops_e (w0 rfl) rfl (eff_loadE rfl rfl (map_get (by first | assumption | omega)) (ld_agg (Nat.le_of_ble_eq_true rfl))) ?_
    refine aops_n (w0 rfl) rfl (fun id => eff_alloc id rfl rfl rfl) (fun id2 => ?_)
    refine aops_store 0 (w0 rfl) rfl rfl rfl rfl rfl rfl rfl rfl rfl ?_
    refine aops_nil ?_
    refine awp_block ?_
    refine awp_seq ?_
    refine awp_region ?_
    refine aops_load_ptr 1 (w0 rfl) rfl rfl rfl rfl rfl (ld_agg (Nat.le_of_ble_eq_true rfl)) ?_
    refine aops_load_ptr 0 (w0 rfl) rfl rfl rfl rfl rfl (ld_agg (Nat.le_of_ble_eq_true rfl)) ?_
    refine aops_e (w0 rfl) rfl (eff_call [] rfl rfl rfl (c_missing p hb p.classes[i] hil) List.nodup_nil) ?_
    refine aops_e (w0 rfl) rfl (eff_assign rfl rfl) ?_
    refine aops_nil ?_
    refine awp_cond rfl ?_ ?_
    · intro hc
      have h7 : chk1 p p.classes[i] = 7 := chk1_miss hc
      refine awp_seq ?_
      refine awp_drawN 4 rfl (by kernel_rfl) ?_
      refine calm_e (w0 rfl) rfl (eff_fieldAddr rfl rfl rfl) ?_
      refine calm_load_ptr 0 (w0 rfl) rfl rfl rfl rfl rfl ld_one ?_
      refine calm_e (w0 rfl) rfl (eff_assign rfl rfl) ?_
      refine calm_e (w0 rfl) rfl (eff_assign rfl rfl) ?_
      refine .done ?_
      refine aops_nil ?_
      refine awp_ret ?_
      exact retq rfl (res_tmp rfl (res_tmp rfl res_nil)) (gvr (by rw [checkP_one (find_hit hJ.2 hi (by unfold f1; rw [h7]; rfl)) h7]; rfl))
    · intro hc
      have hm1 : ((upC p.classes[i]).any fun s => !hasC p s) = false := hc
      refine awp_seq ?_
      refine awp_region ?_
      refine aops_load_ptr 1 (w0 rfl) rfl rfl rfl rfl rfl (ld_agg (Nat.le_of_ble_eq_true rfl)) ?_
      refine aops_load_ptr 0 (w0 rfl) rfl rfl rfl rfl rfl (ld_agg (Nat.le_of_ble_eq_true rfl)) ?_
      refine aops_e (w0 rfl) rfl (eff_call [] rfl rfl rfl (c_crossed p hb p.classes[i] hil) List.nodup_nil) ?_
      refine aops_e (w0 rfl) rfl (eff_assign rfl rfl) ?_
      refine aops_nil ?_
      refine awp_cond rfl ?_ ?_
      · intro hc
        have h7 : chk1 p p.classes[i] = 9 := chk1_cross hm1 hc
        refine awp_seq ?_
        refine awp_drawN 4 rfl (by kernel_rfl) ?_
        refine calm_e (w0 rfl) rfl (eff_fieldAddr rfl rfl rfl) ?_
        refine calm_load_ptr 0 (w0 rfl) rfl rfl rfl rfl rfl ld_one ?_
        refine calm_e (w0 rfl) rfl (eff_assign rfl rfl) ?_
        refine calm_e (w0 rfl) rfl (eff_assign rfl rfl) ?_
        refine .done ?_
        refine aops_nil ?_
        refine awp_ret ?_
        exact retq rfl (res_tmp rfl (res_tmp rfl res_nil)) (gvr (by rw [checkP_one (find_hit hJ.2 hi (by unfold f1; rw [h7]; rfl)) h7]; rfl))
      · intro hc
        have hm2 : ((!beqS p.classes[i].super zS && ifaceP p p.classes[i].super) || p.classes[i].ifaces.any fun s => !ifaceP p s) = false := hc
        refine awp_skip ?_
        refine awp_region ?_
        refine aops_e (w0 rfl) rfl (eff_arith rfl rfl rfl (arith_add (by first | omega | (simp only [List.length_map]; omega)))) ?_
        refine aops_e (w0 rfl) rfl (eff_move rfl rfl) ?_
        refine aops_nil ?_
        refine ⟨i + 1, ⟨hi, find_next hJ.2 hi (by unfold f1; rw [chk1_ok hm1 hm2]; rfl)⟩, (by omega), ?_⟩
        exact weak_pick [1] ⟨rfl, rfl, rfl, rfl, trivial⟩ rfl (by decide) rfl rfl
  · intro hc
    have hi : ¬ i < p.classes.length := by simpa using hc
    have hn1 := find_end hJ.2 hi
    refine awp_exit ?_
    refine awp_seq ?_
    refine awp_seq ?_
    refine awp_region ?_
    refine aops_e (w0 rfl) rfl (eff_fieldAddr rfl rfl rfl) ?_
    refine aops_load_ptr 0 (w0 rfl) rfl rfl rfl rfl rfl ld_one ?_
    refine aops_e (w0 rfl) rfl (eff_len rfl rfl rfl rfl) ?_
    refine aops_e (w0 rfl) rfl (eff_move rfl rfl) ?_
    refine aops_nil ?_
    refine awp_block ?_
    refine awp_loopJ (α := Nat) (fun i => ⟨[(31, iA i), (30, iA p.classes.length), (29, .lst (p.classes.map Cls.cells)), (1, .ptr id1 5 0 0)], [(id1, .rows 39 5 [p.cells])], [], 41⟩) (fun i => i ≤ p.classes.length ∧ (p.classes.drop i).find? (chk2 p) = p.classes.find? (chk2 p)) (fun i => p.classes.length - i) 0 ⟨Nat.zero_le _, rfl⟩ ?_ ?_
    · exact weak_pick [0] ⟨rfl, (by show some (iA _) = some (iA _); simp), rfl, rfl, trivial⟩ rfl (by decide) rfl rfl
    rintro i hJ
    refine awp_seq ?_
    refine awp_region ?_
    refine aops_e (w0 rfl) rfl (eff_icmp rfl rfl rfl rfl) ?_
    refine aops_nil ?_
    refine awp_seq ?_
    refine awp_cond rfl ?_ ?_
    · intro hc
      have hi : i < p.classes.length := by simpa using hc
      have hil := hif _ (List.getElem_mem hi)
      refine awp_skip ?_
      refine awp_seq ?_
      refine awp_block ?_
      refine awp_seq ?_
      refine awp_region ?_
      refine aops_e (w0 rfl) rfl (eff_indexAddr_lst rfl rfl rfl (len_map (fun _ => rfl)) (by first | omega | (simp only [List.length_map]; omega)) (by first | omega | (simp only [List.length_map]; omega))) ?_
      refine aops_e (w0 rfl) rfl (eff_loadE rfl rfl (map_get (by first | assumption | omega)) (ld_agg (Nat.le_of_ble_eq_true rfl))) ?_
      refine aops_n (w0 rfl) rfl (fun id => eff_alloc id rfl rfl rfl) (fun id3 => ?_)
      refine aops_store 0 (w0 rfl) rfl rfl rfl rfl rfl rfl rfl rfl rfl ?_
      refine aops_nil ?_
      refine awp_seq ?_
      refine awp_region ?_
      refine aops_load_ptr 1 (w0 rfl) rfl rfl rfl rfl rfl (ld_agg (Nat.le_of_ble_eq_true rfl)) ?_
      refine aops_load_ptr 0 (w0 rfl) rfl rfl rfl rfl rfl (ld_agg (Nat.le_of_ble_eq_true rfl)) ?_
      refine aops_e (w0 rfl) rfl (eff_call [] rfl rfl rfl (c_round p hb hif p.classes[i] hil) List.nodup_nil) ?_
      refine aops_nil ?_
      refine awp_cond rfl ?_ ?_
      · intro hc
        have h8 : chk2 p p.classes[i] = true := by rw [chk2_round]; exact hc
        refine awp_seq ?_
        refine awp_drawN 4 rfl (by kernel_rfl) ?_
        refine calm_e (w0 rfl) rfl (eff_fieldAddr rfl rfl rfl) ?_
        refine calm_load_ptr 0 (w0 rfl) rfl rfl rfl rfl rfl ld_one ?_
        refine calm_e (w0 rfl) rfl (eff_assign rfl rfl) ?_
        refine calm_e (w0 rfl) rfl (eff_assign rfl rfl) ?_
        refine .done ?_
        refine aops_nil ?_
        refine awp_ret ?_
        exact retq rfl (res_tmp rfl (res_tmp rfl res_nil)) (gvr (by rw [checkP_two hn1 (find_hit hJ.2 hi h8)]; rfl))
      · intro hc
        have hm3 : ((upC p.classes[i]).any fun s => subP p s p.classes[i].name) = false := hc
        refine awp_skip ?_
        refine awp_region ?_
        refine aops_e (w0 rfl) rfl (eff_arith rfl rfl rfl (arith_add (by first | omega | (simp only [List.length_map]; omega)))) ?_
        refine aops_e (w0 rfl) rfl (eff_move rfl rfl) ?_
        refine aops_nil ?_
        refine ⟨i + 1, ⟨hi, find_next hJ.2 hi (by rw [chk2_round]; exact hm3)⟩, (by omega), ?_⟩
        exact weak_pick [1] ⟨rfl, rfl, rfl, rfl, trivial⟩ rfl (by decide) rfl rfl
    · intro hc
      have hi : ¬ i < p.classes.length := by simpa using hc
      have hn2 := find_end hJ.2 hi
      refine awp_exit ?_
      refine awp_seq ?_
      refine awp_region ?_
      refine aops_e (w0 rfl) rfl (eff_assign rfl rfl) ?_
      refine aops_e (w0 rfl) rfl (eff_assign rfl rfl) ?_
      refine aops_nil ?_
      refine awp_ret ?_
      exact retq rfl (res_tmp rfl (res_tmp rfl res_nil)) (gvr (by rw [checkP_ok hn1 hn2]; rfl))

theorem c_name (p : Prog) (hbs : small p.classes.length) (k : Int) (hk : 0 ≤ k) (hk2 : k ≤ 255) : ACalls Try.prog 27 [p.av, uA k] [] (Gives (sA (nameP p k))) := by
  simp only [small] at hbs
  refine acalls_of (n := 24) Try.func27 rfl (by decide +kernel) rfl rfl ?_
  refine awp_seq ?_
  refine awp_region ?_
  refine aops_n (w0 rfl) rfl (fun id => eff_box id rfl rfl rfl rfl rfl) (fun id1 => ?_)
  refine aops_e (w0 rfl) rfl (eff_assign rfl rfl) ?_
  refine aops_nil ?_
  refine awp_seq ?_
  refine awp_seq ?_
  refine awp_region ?_
  refine aops_e (w0 rfl) rfl (eff_fieldAddr rfl rfl rfl) ?_
  refine aops_load_ptr 0 (w0 rfl) rfl rfl rfl rfl rfl ld_one ?_
  refine aops_e (w0 rfl) rfl (eff_len rfl rfl rfl rfl) ?_
  refine aops_e (w0 rfl) rfl (eff_icmp rfl rfl rfl rfl) ?_
  refine aops_e (w0 rfl) rfl (eff_move rfl rfl) ?_
  refine aops_g (wF rfl rfl rfl rfl) rfl (fun hg => (eff_move rfl rfl)) ?_
  refine aops_g (wF rfl rfl rfl rfl) rfl (fun hg => (eff_icmp rfl (ev_g hg rfl) rfl rfl)) ?_
  refine aops_e (w0 rfl) rfl (eff_or rfl rfl rfl (fun h => by rw [h]; rfl)) ?_
  refine aops_nil ?_
  refine awp_cond rfl ?_ ?_
  · intro hc
    have hq : p.classes.length = 0 ∨ k = 255 := by simp only [Bool.or_eq_true, Bool.or_eq_false_iff, decide_eq_true_eq, decide_eq_false_iff_not, beq_iff_eq, beq_eq_false_iff_ne, ne_eq, List.length_map] at hc; omega
    refine awp_seq ?_
    refine awp_region ?_
    refine aops_e (w0 rfl) rfl (eff_assign rfl rfl) ?_
    refine aops_nil ?_
    refine awp_ret ?_
    exact retq rfl (res_tmp rfl res_nil) (gs (by unfold nameP; rw [if_pos hq]; rfl))
  · intro hc
    have hq : ¬ (p.classes.length = 0 ∨ k = 255) := by simp only [Bool.or_eq_true, Bool.or_eq_false_iff, decide_eq_true_eq, decide_eq_false_iff_not, beq_iff_eq, beq_eq_false_iff_ne, ne_eq, List.length_map] at hc; omega
    have hn : 0 < p.classes.length := by omega
    have hlt := near_lt hn hk
    have hnn : 0 ≤ k.tmod p.classes.length := Int.tmod_nonneg _ hk
    refine awp_skip ?_
    refine awp_seq ?_
    refine awp_drawN 12 rfl (by kernel_rfl) ?_
    refine calm_e (w0 rfl) rfl (eff_fieldAddr rfl rfl rfl) ?_
    refine calm_load_ptr 0 (w0 rfl) rfl rfl rfl rfl rfl ld_one ?_
    refine calm_e (w0 rfl) rfl (eff_move rfl rfl) ?_
    refine calm_e (w0 rfl) rfl (eff_to (y := iA k) (eff_convInt rfl rfl) (congrArg iA (i64_wrap (by omega)))) ?_
    refine calm_e (w0 rfl) rfl (eff_fieldAddr rfl rfl rfl) ?_
    refine calm_load_ptr 0 (w0 rfl) rfl rfl rfl rfl rfl ld_one ?_
    refine calm_e (w0 rfl) rfl (eff_to (y := iA p.classes.length) (eff_len rfl rfl rfl rfl) (congrArg iA (by simp))) ?_
    refine calm_e (w0 rfl) rfl (eff_rem rfl rfl rfl (by omega)) ?_
    refine calm_e (w0 rfl) rfl (eff_indexAddr_lst rfl rfl rfl (len_map (fun _ => rfl)) (by first | exact Int.tmod_nonneg _ hk | (simp only [List.length_map]; exact Int.tmod_lt_of_pos _ (by omega))) (by first | exact Int.tmod_nonneg _ hk | (simp only [List.length_map]; exact Int.tmod_lt_of_pos _ (by omega)))) ?_
    refine calm_e (w0 rfl) rfl (eff_fieldAddr rfl rfl rfl) ?_
    refine calm_e (w0 rfl) rfl (eff_loadE rfl rfl (map_get (by (omega))) ld_one) ?_
    refine calm_e (w0 rfl) rfl (eff_assign rfl rfl) ?_
    refine .done ?_
    refine aops_nil ?_
    refine awp_ret ?_
    exact retq rfl (res_tmp rfl res_nil) (gs (by unfold nameP; rw [if_neg hq]; simp [List.getD, hlt]))

end Go.Sx
