/- Layer 24, walked: those of a set whose classes are below one. -/
import Derived.Test.YtaphgfiboidpbaaBaSzSet
import Derived.Test.YtaphgfiboidpbaaBaSzJ
set_option linter.unusedVariables false
set_option linter.unusedSimpArgs false
namespace Go.Sx
open Go Go.Proofs

noncomputable def delP (p : Prog) (cl : Str) (s : Site) : Bool := !beqS cl zS && !subP p s.cls cl
theorem idxG_no {α : Type} {f : α → Bool} {l : List α} (h : l.find? f = none) : (l.filter fun x => !f x) = l := by
  rw [List.filter_eq_self]
  intro x hx
  have := List.find?_eq_none.1 h x hx
  simpa using this
theorem idxG_lt {α : Type} [Inhabited α] {f : α → Bool} : ∀ (l : List α) (k j : Nat), idxFrom f l k = ((k + j : Nat) : Int) → ∀ i, i < j → f (l.getD i default) = false
  | [], k, j, h, i, hi => by simp [idxFrom] at h; omega
  | a :: l, k, j, h, i, hi => by
    unfold idxFrom at h
    split at h
    · omega
    · rename_i ha
      cases i with
      | zero => simpa using ha
      | succ i => simpa using idxG_lt l (k + 1) (j - 1) (by rw [h]; congr 1; omega) i (by omega)

theorem c_onlyFn (p : Prog) (hb : p.classes.length ≤ 1000) (hif : ∀ c, c ∈ p.classes → c.ifaces.length ≤ 1000) (cl : Str) (i1 i2 : Nat) (s : Site) : ACalls Try.prog 39 [s.av, .ptr i2 1 0 0, .ptr i1 5 0 0] [(i2, .rows 9 1 [[sA cl]]), (i1, .rows 39 5 [p.cells])] (GivesH (bA (delP p cl s)) [(i2, .rows 9 1 [[sA cl]]), (i1, .rows 39 5 [p.cells])]) := by
  refine acalls_of (n := 15) Try.func39 rfl (by decide +kernel) rfl rfl ?_
  refine awp_seq ?_
  refine awp_region ?_
  refine aops_n (w0 rfl) rfl (fun id => eff_box id rfl rfl rfl rfl rfl) (fun id1 => ?_)
  refine aops_e (w0 rfl) rfl (eff_assign rfl rfl) ?_
  refine aops_nil ?_
  refine awp_seq ?_
  refine awp_region ?_
  refine aops_load_ptr 1 (w0 rfl) rfl rfl rfl rfl rfl ld_one ?_
  refine aops_e (w0 rfl) rfl (eff_scmp rfl rfl rfl rfl) ?_
  refine aops_e (w0 rfl) rfl (eff_move rfl rfl) ?_
  refine aops_gload 2 (wT rfl rfl rfl rfl) rfl rfl (fun hg => rfl) rfl rfl (ld_agg (Nat.le_of_ble_eq_true rfl)) ?_
  refine aops_g (wT rfl rfl rfl rfl) rfl (fun hg => (eff_fieldAddr rfl rfl rfl)) ?_
  refine aops_gload 0 (wT rfl rfl rfl rfl) rfl rfl (fun hg => (ev_g hg rfl)) rfl rfl ld_one ?_
  refine aops_gload 1 (wT rfl rfl rfl rfl) rfl rfl (fun hg => rfl) rfl rfl ld_one ?_
  refine aops_g (wT rfl rfl rfl rfl) rfl (fun hg => (eff_call [] rfl rfl (evs_cons (ev_g hg rfl) (evs_cons (ev_g hg rfl) (evs_cons (ev_g hg rfl) evs_nil))) (c_sub p hb hif s.cls cl) List.nodup_nil)) ?_
  refine aops_g (wT rfl rfl rfl rfl) rfl (fun hg => (eff_not rfl (ev_g hg rfl))) ?_
  refine aops_e (w0 rfl) rfl (eff_and rfl rfl rfl (fun h => h)) ?_
  refine aops_e (w0 rfl) rfl (eff_assign rfl rfl) ?_
  refine aops_nil ?_
  refine awp_ret ?_
  exact retq_keep rfl (res_tmp rfl res_nil) (.cons _ (.refl _)) (gvH rfl)

theorem c_delIdx (p : Prog) (hb : p.classes.length ≤ 1000) (hif : ∀ c, c ∈ p.classes → c.ifaces.length ≤ 1000) (cl : Str) (q i1 i2 n : Nat) (l : List Site) (hn : l.length = n) (hN : n ≤ 140737488355328) : ACalls Try.prog 55 [.own q 5 0 n, .fn (.func 39) [.ptr i2 1 0 0, .ptr i1 5 0 0]] [(q, .rows 26 5 (l.map Site.cells)), (i2, .rows 9 1 [[sA cl]]), (i1, .rows 39 5 [p.cells])] (GivesH (iA (idxFrom (delP p cl) l 0)) [(q, .rows 26 5 (l.map Site.cells)), (i2, .rows 9 1 [[sA cl]]), (i1, .rows 39 5 [p.cells])]) := by
  refine acalls_of (n := 19) Try.func55 rfl (by decide +kernel) rfl rfl ?_
  refine awp_seq ?_
  refine awp_region ?_
  refine aops_e (w0 rfl) rfl (eff_assign rfl rfl) ?_
  refine aops_nil ?_
  refine awp_seq ?_
  refine awp_seq ?_
  refine awp_region ?_
  refine aops_e (w0 rfl) rfl (eff_move rfl rfl) ?_
  refine aops_e (w0 rfl) rfl (eff_len rfl rfl rfl rfl) ?_
  refine aops_e (w0 rfl) rfl (eff_move rfl rfl) ?_
  refine aops_nil ?_
  refine awp_block ?_
  refine awp_loopJ (α := Nat) (fun i => ⟨[(8, iA i), (0, .own q 5 0 n), (1, .fn (.func 39) [.ptr i2 1 0 0, .ptr i1 5 0 0]), (7, iA n)], [(q, .rows 26 5 (l.map Site.cells)), (i2, .rows 9 1 [[sA cl]]), (i1, .rows 39 5 [p.cells])], [], 19⟩) (fun i => i ≤ l.length ∧ idxFrom (delP p cl) (l.drop i) i = idxFrom (delP p cl) l 0) (fun i => l.length - i) 0 ⟨by omega, rfl⟩ ?_ ?_
  · exact weak_pick [0, 1, 2] ⟨rfl, rfl, rfl, rfl, trivial⟩ rfl (by decide) rfl rfl
  rintro i hJ
  refine awp_seq ?_
  refine awp_region ?_
  refine aops_e (w0 rfl) rfl (eff_icmp rfl rfl rfl rfl) ?_
  refine aops_nil ?_
  refine awp_seq ?_
  refine awp_cond rfl ?_ ?_
  · intro hc
    have hi : i < l.length := by simp at hc; omega
    refine awp_skip ?_
    refine awp_seq ?_
    refine awp_block ?_
    refine awp_seq ?_
    refine awp_region ?_
    refine aops_e (w0 rfl) rfl (eff_move rfl rfl) ?_
    refine aops_e (w0 rfl) rfl (eff_assign rfl rfl) ?_
    refine aops_nil ?_
    refine awp_seq ?_
    refine awp_region ?_
    refine aops_e (w0 rfl) rfl (eff_move rfl rfl) ?_
    refine aops_e (w0 rfl) rfl (eff_move rfl rfl) ?_
    refine aops_e (w0 rfl) rfl (eff_move rfl rfl) ?_
    refine aops_e (w0 rfl) rfl (eff_indexAddr_ownN i rfl rfl rfl (by first | omega | (simp only [List.length_map]; omega) | (simp only [List.length_map, List.length_drop]; omega)) (by first | omega | (simp only [List.length_map]; omega) | (simp only [List.length_map, List.length_drop]; omega)) (by omega)) ?_
    refine aops_load_ptr 0 (w0 rfl) rfl rfl rfl rfl (own_getC (by first | assumption | omega | (simp only [List.length_drop]; omega))) (ld_aggC rfl) ?_
    refine aops_callG [_, _] _ (w0 rfl) rfl rfl rfl rfl (perm_get2 (k := 1) (j := 1) rfl rfl) (c_onlyFn p hb hif cl i1 i2 _) ?_
    refine aops_nil ?_
    refine awp_cond rfl ?_ ?_
    · intro hc
      have hq : delP p cl l[i] = true := by rw [← siteD hi]; exact hc
      refine awp_seq ?_
      refine awp_region ?_
      refine aops_e (w0 rfl) rfl (eff_move rfl rfl) ?_
      refine aops_e (w0 rfl) rfl (eff_assign rfl rfl) ?_
      refine aops_nil ?_
      refine awp_ret ?_
      exact retq_keep rfl (res_tmp rfl res_nil) (.cons_cons _ (.cons_cons _ (.cons_cons _ .slnil))) (gvH (congrArg iA (by rw [← hJ.2, drop_get hi]; simp only [idxFrom]; rw [if_pos hq])))
    · intro hc
      have hq : delP p cl l[i] = false := by rw [← siteD hi]; exact hc
      refine awp_skip ?_
      refine awp_region ?_
      refine aops_e (w0 rfl) rfl (eff_arith rfl rfl rfl (arith_add (by first | omega | (simp only [List.length_map]; omega)))) ?_
      refine aops_e (w0 rfl) rfl (eff_move rfl rfl) ?_
      refine aops_nil ?_
      refine ⟨i + 1, ⟨by omega, by rw [← hJ.2, drop_get hi]; simp only [idxFrom]; rw [if_neg (by rw [hq]; simp)]⟩, (by omega), ?_⟩
      exact weak_pick [0, 1, 2] ⟨rfl, rfl, rfl, rfl, trivial⟩ rfl (by decide) rfl rfl
  · intro hc
    have hi : ¬ i < l.length := by simp at hc; omega
    refine awp_exit ?_
    refine awp_seq ?_
    refine awp_region ?_
    refine aops_e (w0 rfl) rfl (eff_assign rfl rfl) ?_
    refine aops_nil ?_
    refine awp_ret ?_
    exact retq_keep rfl (res_tmp rfl res_nil) (.cons_cons _ (.cons_cons _ (.cons_cons _ .slnil))) (gvH (congrArg iA (by rw [← hJ.2, drop_end hi]; rfl)))

theorem c_delIdxX (p : Prog) (hb : p.classes.length ≤ 1000) (hif : ∀ c, c ∈ p.classes → c.ifaces.length ≤ 1000) (cl : Str) (q i1 i2 n : Nat) (l : List Site) (hn : l.length = n) (hN : n ≤ 140737488355328) {r : Int} (h : idxFrom (delP p cl) l 0 = r) : ACalls Try.prog 55 [.own q 5 0 n, .fn (.func 39) [.ptr i2 1 0 0, .ptr i1 5 0 0]] [(q, .rows 26 5 (l.map Site.cells)), (i2, .rows 9 1 [[sA cl]]), (i1, .rows 39 5 [p.cells])] (GivesH (iA r) [(q, .rows 26 5 (l.map Site.cells)), (i2, .rows 9 1 [[sA cl]]), (i1, .rows 39 5 [p.cells])]) := h ▸ c_delIdx p hb hif cl q i1 i2 n l hn hN

theorem c_deleteF (p : Prog) (hb : p.classes.length ≤ 1000) (hif : ∀ c, c ∈ p.classes → c.ifaces.length ≤ 1000) (cl : Str) (q i1 i2 n : Nat) (l : List Site) (hn : l.length = n) (hN : n ≤ 140737488355328) : ACalls Try.prog 38 [.own q 5 0 n, .fn (.func 39) [.ptr i2 1 0 0, .ptr i1 5 0 0]] [(q, .rows 26 5 (l.map Site.cells)), (i2, .rows 9 1 [[sA cl]]), (i1, .rows 39 5 [p.cells])] (GP (fun _ : Unit => .own q 5 0 ((l.filter fun s => !delP p cl s)).length) (fun _ => [(q, .rows 26 5 (((l.filter fun s => !delP p cl s)).map Site.cells)), (i2, .rows 9 1 [[sA cl]]), (i1, .rows 39 5 [p.cells])]) (fun _ => True)) := by
  refine acalls_of (n := 42) Try.func38 rfl (by decide +kernel) rfl rfl ?_
  refine awp_seq ?_
  refine awp_region ?_
  refine aops_e (w0 rfl) rfl (eff_assign rfl rfl) ?_
  refine aops_nil ?_
  refine awp_seq ?_
  refine idx_elim (delP p cl) l (fun h1 h2 => ?_) (fun j hjl h1 h2 => ?_)
  · skip
    refine awp_region ?_
    refine aops_e (w0 rfl) rfl (eff_move rfl rfl) ?_
    refine aops_e (w0 rfl) rfl (eff_move rfl rfl) ?_
    refine aops_callG [_, _, _] [] (w0 rfl) rfl rfl rfl rfl (.refl _) (c_delIdxX p hb hif cl q i1 i2 n l hn hN h1) ?_
    refine aops_e (w0 rfl) rfl (eff_assign rfl rfl) ?_
    refine aops_nil ?_
    refine awp_seq ?_
    refine awp_seq ?_
    refine awp_region ?_
    refine aops_e (w0 rfl) rfl (eff_move rfl rfl) ?_
    refine aops_e (w0 rfl) rfl (eff_icmp rfl rfl rfl rfl) ?_
    refine aops_nil ?_
    refine awp_cond rfl ?_ ?_
    · intro hc
      refine awp_seq ?_
      refine awp_region ?_
      refine aops_e (w0 rfl) rfl (eff_move rfl rfl) ?_
      refine aops_e (w0 rfl) rfl (eff_assign rfl rfl) ?_
      refine aops_nil ?_
      refine awp_ret ?_
      exact retq_keep rfl (res_tmp rfl res_nil) (.cons_cons _ (.cons_cons _ (.cons_cons _ .slnil))) (gp () trivial (by show AV.own _ _ _ _ = AV.own _ _ _ _; rw [idxG_no h2, hn]) (by rw [idxG_no h2]))
    · intro hc
      exfalso; simp at hc
  · skip
    refine awp_region ?_
    refine aops_e (w0 rfl) rfl (eff_move rfl rfl) ?_
    refine aops_e (w0 rfl) rfl (eff_move rfl rfl) ?_
    refine aops_callG [_, _, _] [] (w0 rfl) rfl rfl rfl rfl (.refl _) (c_delIdxX p hb hif cl q i1 i2 n l hn hN h1) ?_
    refine aops_e (w0 rfl) rfl (eff_assign rfl rfl) ?_
    refine aops_nil ?_
    refine awp_seq ?_
    refine awp_seq ?_
    refine awp_region ?_
    refine aops_e (w0 rfl) rfl (eff_move rfl rfl) ?_
    refine aops_e (w0 rfl) rfl (eff_icmp rfl rfl rfl rfl) ?_
    refine aops_nil ?_
    refine awp_cond rfl ?_ ?_
    · intro hc
      exfalso; simp at hc <;> omega
    · intro hc
      refine awp_skip ?_
      refine awp_seq ?_
      refine awp_seq ?_
      refine awp_region ?_
      refine aops_e (w0 rfl) rfl (eff_move rfl rfl) ?_
      refine aops_e (w0 rfl) rfl (eff_arith rfl rfl rfl (arith_add (by first | omega | (simp only [List.length_map]; omega)))) ?_
      refine aops_e (w0 rfl) rfl (eff_assign rfl rfl) ?_
      refine aops_nil ?_
      refine awp_block ?_
      refine awp_loopJ (α := List Site × Nat × Nat) (fun x => ⟨[(5, iA x.2.1), (6, iA x.2.2), (0, .own q 5 0 n), (1, .fn (.func 39) [.ptr i2 1 0 0, .ptr i1 5 0 0])], [(q, .rows 26 5 (x.1.map Site.cells)), (i2, .rows 9 1 [[sA cl]]), (i1, .rows 39 5 [p.cells])], [], 42⟩) (fun x => DelJ (delP p cl) l x.1 x.2.1 x.2.2) (fun x => n - x.2.2) (l, j, j + 1) (DelJ.start hjl (idxG_lt l 0 j (by rw [h1]; simp)) (by rw [siteD hjl]; exact List.find?_some h2)) ?_ ?_
      · exact weak_pick [0, 1, 2] ⟨rfl, rfl, rfl, rfl, trivial⟩ rfl (by decide) rfl rfl
      rintro x hJ
      have hm1 := hJ.h1
      have hm2 := hJ.h2
      have hml := hJ.hl
      refine awp_seq ?_
      refine awp_seq ?_
      refine awp_region ?_
      refine aops_e (w0 rfl) rfl (eff_move rfl rfl) ?_
      refine aops_e (w0 rfl) rfl (eff_move rfl rfl) ?_
      refine aops_e (w0 rfl) rfl (eff_len rfl rfl rfl rfl) ?_
      refine aops_e (w0 rfl) rfl (eff_icmp rfl rfl rfl rfl) ?_
      refine aops_nil ?_
      refine awp_cond rfl ?_ ?_
      · intro hc
        have hj : x.2.2 < l.length := by simp at hc; omega
        refine awp_skip ?_
        refine awp_seq ?_
        refine awp_block ?_
        refine awp_seq ?_
        refine awp_region ?_
        refine aops_e (w0 rfl) rfl (eff_move rfl rfl) ?_
        refine aops_e (w0 rfl) rfl (eff_move rfl rfl) ?_
        refine aops_e (w0 rfl) rfl (eff_indexAddr_ownN x.2.2 rfl rfl rfl (by first | omega | (simp only [List.length_map]; omega) | (simp only [List.length_map, List.length_drop]; omega)) (by first | omega | (simp only [List.length_map]; omega) | (simp only [List.length_map, List.length_drop]; omega)) (by omega)) ?_
        refine aops_load_ptr 0 (w0 rfl) rfl rfl rfl rfl (own_getC (by first | assumption | omega | (simp only [List.length_drop]; omega))) (ld_aggC rfl) ?_
        refine aops_n (w0 rfl) rfl (fun id => eff_alloc id rfl rfl rfl) (fun id1 => ?_)
        refine aops_store 0 (w0 rfl) rfl rfl rfl rfl rfl rfl rfl rfl rfl ?_
        refine aops_nil ?_
        refine awp_seq ?_
        refine awp_region ?_
        refine aops_e (w0 rfl) rfl (eff_move rfl rfl) ?_
        refine aops_load_ptr 0 (w0 rfl) rfl rfl rfl rfl rfl (ld_agg (Nat.le_of_ble_eq_true rfl)) ?_
        refine aops_callG [_, _] _ (w0 rfl) rfl rfl rfl rfl (perm_get2 (k := 2) (j := 2) rfl rfl) (c_onlyFn p hb hif cl i1 i2 _) ?_
        refine aops_e (w0 rfl) rfl (eff_not rfl rfl) ?_
        refine aops_nil ?_
        refine awp_cond rfl ?_ ?_
        · intro hc
          have hq : delP p cl (x.1.getD x.2.2 default) = false := notT hc
          refine awp_seq ?_
          refine awp_region ?_
          refine aops_e (w0 rfl) rfl (eff_move rfl rfl) ?_
          refine aops_e (w0 rfl) rfl (eff_move rfl rfl) ?_
          refine aops_load_ptr 0 (w0 rfl) rfl rfl rfl rfl rfl (ld_to (y := Site.av (x.1.getD x.2.2 default)) (ld_agg (Nat.le_of_ble_eq_true rfl)) (rfl)) ?_
          refine aops_e (w0 rfl) rfl (eff_indexAddr_ownN x.2.1 rfl rfl rfl (by first | omega | (simp only [List.length_map]; omega) | (simp only [List.length_map, List.length_drop]; omega)) (by first | omega | (simp only [List.length_map]; omega) | (simp only [List.length_map, List.length_drop]; omega)) (by omega)) ?_
          refine aops_storeC (f := Site.cells) 1 (fun _ => rfl) (fun _ => rfl) (w0 rfl) rfl rfl rfl rfl (by first | omega | (simp; omega)) rfl ?_
          refine aops_nil ?_
          refine awp_region ?_
          refine aops_e (w0 rfl) rfl (eff_move rfl rfl) ?_
          refine aops_e (w0 rfl) rfl (eff_arith rfl rfl rfl (arith_add (by first | omega | (simp only [List.length_map]; omega)))) ?_
          refine aops_e (w0 rfl) rfl (eff_assign rfl rfl) ?_
          refine aops_nil ?_
          refine awp_region ?_
          refine aops_e (w0 rfl) rfl (eff_move rfl rfl) ?_
          refine aops_e (w0 rfl) rfl (eff_arith rfl rfl rfl (arith_add (by first | omega | (simp only [List.length_map]; omega)))) ?_
          refine aops_e (w0 rfl) rfl (eff_assign rfl rfl) ?_
          refine aops_nil ?_
          refine ⟨(x.1.set x.2.1 (x.1.getD x.2.2 default), x.2.1 + 1, x.2.2 + 1), (hJ.put hj hq), (by (try simp only) <;> omega), ?_⟩
          exact weak_pick [1, 2, 3] ⟨rfl, rfl, rfl, rfl, trivial⟩ rfl (by decide) rfl rfl
        · intro hc
          have hq : delP p cl (x.1.getD x.2.2 default) = true := notF hc
          refine awp_skip ?_
          refine awp_region ?_
          refine aops_e (w0 rfl) rfl (eff_move rfl rfl) ?_
          refine aops_e (w0 rfl) rfl (eff_arith rfl rfl rfl (arith_add (by first | omega | (simp only [List.length_map]; omega)))) ?_
          refine aops_e (w0 rfl) rfl (eff_assign rfl rfl) ?_
          refine aops_nil ?_
          refine ⟨(x.1, x.2.1, x.2.2 + 1), (hJ.drop hj hq), (by (try simp only) <;> omega), ?_⟩
          exact weak_pick [1, 2, 3] ⟨rfl, rfl, rfl, rfl, trivial⟩ rfl (by decide) rfl rfl
      · intro hc
        have hj : ¬ x.2.2 < l.length := by simp at hc; omega
        have hfin := hJ.fin hj
        refine awp_exit ?_
        refine awp_seq ?_
        refine awp_region ?_
        refine aops_e (w0 rfl) rfl (eff_move rfl rfl) ?_
        refine aops_e (w0 rfl) rfl (eff_move rfl rfl) ?_
        refine aops_e (w0 rfl) rfl (eff_to (y := .own q 5 x.2.1 (n - x.2.1)) (eff_sliceFrom_own rfl rfl rfl (by first | omega | (simp only [List.length_map]; omega) | (simp only [List.length_map, List.length_drop]; omega)) (by first | omega | (simp only [List.length_map]; omega) | (simp only [List.length_map, List.length_drop]; omega))) ((by simp))) ?_
        refine aops_clearC (n := 5) 0 rfl (by decide) (w0 rfl) rfl rfl rfl rfl ?_
        refine aops_nil ?_
        refine awp_seq ?_
        refine awp_region ?_
        refine aops_e (w0 rfl) rfl (eff_move rfl rfl) ?_
        refine aops_e (w0 rfl) rfl (eff_move rfl rfl) ?_
        refine aops_e (w0 rfl) rfl (eff_to (y := .own q 5 0 x.2.1) (eff_sliceTo_own rfl rfl rfl (by first | omega | (simp only [List.length_map]; omega) | (simp only [List.length_map, List.length_drop]; omega)) (by first | omega | (simp only [List.length_map]; omega) | (simp only [List.length_map, List.length_drop]; omega))) ((by simp))) ?_
        refine aops_e (w0 rfl) rfl (eff_assign rfl rfl) ?_
        refine aops_nil ?_
        refine awp_ret ?_
        exact retq_keep rfl (res_tmp rfl res_nil) (.cons_cons _ (.cons_cons _ (.cons_cons _ .slnil))) (gp () trivial (by show AV.own _ _ _ _ = AV.own _ _ _ _; rw [← hfin, List.length_take]; congr 1; omega) (by show [(_, AObj.rows _ _ _), _, _] = [(_, AObj.rows _ _ _), _, _]; rw [← hfin, List.map_take]))

theorem delP_not (p : Prog) (cl : Str) (s : Site) : (!delP p cl s) = (beqS cl zS || subP p s.cls cl) := by unfold delP; simp

theorem c_only (p : Prog) (hb : p.classes.length ≤ 1000) (hif : ∀ c, c ∈ p.classes → c.ifaces.length ≤ 1000) (l : List Site) (hl : l.length ≤ 1000) (cl : Str) : ACalls Try.prog 24 [p.av, .lst (l.map Site.cells), sA cl] [] (Gives (.lst ((risG sLt (l.filter fun s => !delP p cl s)).map Site.cells))) := by
  have hrl := risG_len (lt := sLt) l
  refine acalls_of (n := 11) Try.func24 rfl (by decide +kernel) rfl rfl ?_
  refine awp_seq ?_
  refine awp_region ?_
  refine aops_n (w0 rfl) rfl (fun id => eff_box id rfl rfl rfl rfl rfl) (fun id1 => ?_)
  refine aops_n (w0 rfl) rfl (fun id => eff_box id rfl rfl rfl rfl rfl) (fun id2 => ?_)
  refine aops_e (w0 rfl) rfl (eff_assign rfl rfl) ?_
  refine aops_nil ?_
  refine awp_seq ?_
  refine awp_region ?_
  refine aops_e (w0 rfl) rfl (eff_move rfl rfl) ?_
  refine aops_callP [] _ (w0 rfl) rfl rfl rfl rfl (.refl _) (c_of l (by omega)) (fun v3 hv3 => ?_)
  refine aops_e (w0 rfl) rfl (eff_makeFunc rfl rfl) ?_
  refine aops_callP [_, _, _] _ (w0 rfl) rfl rfl rfl rfl (perm_get3 (k := 0) (j := 0) (i := 0) rfl rfl rfl) (c_deleteF p hb hif cl v3 id1 id2 _ (risG sLt l) rfl (by omega)) (fun v4 hv4 => ?_)
  refine aops_e (w0 rfl) rfl (eff_assign rfl rfl) ?_
  refine aops_nil ?_
  refine awp_ret ?_
  exact retq_frz 0 rfl rfl rfl rfl (by simp) (congrArg AV.lst (by rw [ris_filter sLtT]))

theorem c_refOnly (p : Prog) (hb : p.classes.length ≤ 1000) (hif : ∀ c, c ∈ p.classes → c.ifaces.length ≤ 1000) (l : List Site) (hl : l.length ≤ 1000) (cl : Str) : ACalls Try.prog 25 [p.av, .lst (l.map Site.cells), sA cl] [] (Gives (.lst ((risG sLt (l.filter fun s => !delP p cl s)).map Site.cells))) := by
  have hlf := List.length_filter_le (fun s => !delP p cl s) l
  refine acalls_of (n := 36) Try.func25 rfl (by decide +kernel) rfl rfl ?_
  refine awp_seq ?_
  refine awp_region ?_
  refine aops_n (w0 rfl) rfl (fun id => eff_box id rfl rfl rfl rfl rfl) (fun id1 => ?_)
  refine aops_e (w0 rfl) rfl (eff_assign rfl rfl) ?_
  refine aops_nil ?_
  refine awp_seq ?_
  refine awp_region ?_
  refine aops_n (w0 rfl) rfl (fun id => eff_nil id 26 5 (.inl rfl) rfl) (fun id2 => ?_)
  refine aops_nil ?_
  refine awp_seq ?_
  refine awp_seq ?_
  refine awp_region ?_
  refine aops_e (w0 rfl) rfl (eff_assign rfl rfl) ?_
  refine aops_nil ?_
  refine awp_block ?_
  refine awp_loopJ (α := Nat × Nat) (fun x => ⟨[(8, iA x.2), (7, .own x.1 5 0 ((l.take x.2).filter fun s => !delP p cl s).length), (1, .lst (l.map Site.cells)), (2, sA cl), (3, .ptr id1 5 0 0)], [(x.1, .rows 26 5 (((l.take x.2).filter fun s => !delP p cl s).map Site.cells)), (id1, .rows 39 5 [p.cells])], [], 36⟩) (fun x => x.2 ≤ l.length) (fun x => l.length - x.2) (id2, 0) (Nat.zero_le _) ?_ ?_
  · exact weak_pick [0, 1] ⟨rfl, rfl, rfl, rfl, rfl, trivial⟩ rfl (by decide) rfl rfl
  rintro x hJ
  have hlt := List.length_filter_le (fun s => !delP p cl s) (l.take x.2)
  rw [List.length_take] at hlt
  refine awp_seq ?_
  refine awp_seq ?_
  refine awp_region ?_
  refine aops_e (w0 rfl) rfl (eff_move rfl rfl) ?_
  refine aops_e (w0 rfl) rfl (eff_move rfl rfl) ?_
  refine aops_e (w0 rfl) rfl (eff_len rfl rfl rfl rfl) ?_
  refine aops_e (w0 rfl) rfl (eff_icmp rfl rfl rfl rfl) ?_
  refine aops_nil ?_
  refine awp_cond rfl ?_ ?_
  · intro hc
    have hx : x.2 < l.length := by simpa using hc
    refine awp_skip ?_
    refine awp_seq ?_
    refine awp_block ?_
    refine awp_seq ?_
    refine awp_drawN 12 rfl (by kernel_rfl) ?_
    refine calm_e (w0 rfl) rfl (eff_move rfl rfl) ?_
    refine calm_e (w0 rfl) rfl (eff_scmp rfl rfl rfl rfl) ?_
    refine calm_e (w0 rfl) rfl (eff_move rfl rfl) ?_
    refine calm_gload 1 (wF rfl rfl rfl rfl) rfl rfl (fun hg => rfl) rfl rfl (ld_agg (Nat.le_of_ble_eq_true rfl)) ?_
    refine calm_g (wF rfl rfl rfl rfl) rfl (fun hg => (eff_move rfl rfl)) ?_
    refine calm_g (wF rfl rfl rfl rfl) rfl (fun hg => (eff_move rfl rfl)) ?_
    refine calm_g (wF rfl rfl rfl rfl) rfl (fun hg => (eff_indexAddr_lst rfl (ev_g hg rfl) (ev_g hg rfl) (len_map (fun _ => rfl)) (by (try simp at hg) <;> first | omega | (simp only [List.length_map]; omega) | (simp only [List.length_map, List.length_drop]; omega)) (by (try simp at hg) <;> first | omega | (simp only [List.length_map]; omega) | (simp only [List.length_map, List.length_drop]; omega)))) ?_
    refine calm_g (wF rfl rfl rfl rfl) rfl (fun hg => (eff_fieldAddr rfl (ev_g hg rfl) rfl)) ?_
    refine calm_g (wF rfl rfl rfl rfl) rfl (fun hg => (eff_loadE rfl (ev_g hg rfl) (map_getD (by (try simp at hg) <;> first | assumption | omega | (simp only [List.length_drop]; omega))) ld_one)) ?_
    refine calm_g (wF rfl rfl rfl rfl) rfl (fun hg => (eff_move rfl rfl)) ?_
    refine calm_g (wF rfl rfl rfl rfl) rfl (fun hg => (eff_call [] rfl rfl (evs_cons (ev_g hg rfl) (evs_cons (ev_g hg rfl) (evs_cons (ev_g hg rfl) evs_nil))) (c_refSub p hb hif _ cl) List.nodup_nil)) ?_
    refine calm_e (w0 rfl) rfl (eff_or rfl rfl rfl (fun h => by rw [h]; rfl)) ?_
    refine .done ?_
    refine aops_nil ?_
    refine awp_cond rfl ?_ ?_
    · intro hc
      have hq : (!delP p cl l[x.2]) = true := by rw [delP_not]; have h : (beqS cl zS || subP p (l.getD x.2 default).cls cl) = true := hc; rw [siteD hx] at h; exact h
      have e : ((l.take (x.2 + 1)).filter fun s => !delP p cl s) = ((l.take x.2).filter fun s => !delP p cl s) ++ [l[x.2]] := by rw [take_snoc hx, List.filter_append, List.filter_cons, if_pos hq]; rfl
      refine awp_region ?_
      refine aops_e (w0 rfl) rfl (eff_move rfl rfl) ?_
      refine aops_e (w0 rfl) rfl (eff_move rfl rfl) ?_
      refine aops_e (w0 rfl) rfl (eff_move rfl rfl) ?_
      refine aops_e (w0 rfl) rfl (eff_indexAddr_lst rfl rfl rfl (len_map (fun _ => rfl)) (by first | omega | (simp only [List.length_map]; omega) | (simp only [List.length_map, List.length_drop]; omega)) (by first | omega | (simp only [List.length_map]; omega) | (simp only [List.length_map, List.length_drop]; omega))) ?_
      refine aops_e (w0 rfl) rfl (eff_loadE rfl rfl (map_get (by first | assumption | omega | (simp only [List.length_drop]; omega))) (ld_agg (Nat.le_of_ble_eq_true rfl))) ?_
      refine aops_n (w0 rfl) rfl (fun id => eff_buildSlice id (ps := [(0, .tmp 31)]) rfl rfl rfl rfl rfl rfl rfl rfl) (fun id3 => ?_)
      refine aops_append 1 (w0 rfl) rfl rfl rfl rfl (by simp) rfl ⟨rfl, _, _, List.mem_of_getElem? (i := 0) rfl, by simp, rfl⟩ (by first | omega | (simp; omega) | (simp [maxLen]; omega) | (simp; done) | (simp [maxLen]; done)) (by first | omega | (simp; omega) | (simp [maxLen]; omega) | (simp; done) | (simp [maxLen]; done)) (fun id4 => ?_)
      refine aops_e (w0 rfl) rfl (eff_assign rfl rfl) ?_
      refine aops_nil ?_
      refine awp_region ?_
      refine aops_e (w0 rfl) rfl (eff_move rfl rfl) ?_
      refine aops_e (w0 rfl) rfl (eff_arith rfl rfl rfl (arith_add (by first | omega | (simp only [List.length_map]; omega)))) ?_
      refine aops_e (w0 rfl) rfl (eff_assign rfl rfl) ?_
      refine aops_nil ?_
      refine ⟨(id4, x.2 + 1), (by show x.2 + 1 ≤ l.length; omega), (by show l.length - (x.2 + 1) < l.length - x.2; omega), ?_⟩
      exact weak_pick [1, 2] ⟨rfl, (by show some (AV.own _ _ _ _) = some (AV.own _ _ _ _); first | (rw [e]; done) | (rw [e]; simp; done) | (rw [e]; simp; rfl)), rfl, rfl, rfl, trivial⟩ (by show some [(_, AObj.rows _ _ _), (_, AObj.rows _ _ _)] = some [(_, AObj.rows _ _ _), (_, AObj.rows _ _ _)]; first | (rw [e]; done) | (rw [e]; simp; done) | (rw [e]; simp; rfl)) (by decide) rfl rfl
    · intro hc
      have hq : (!delP p cl l[x.2]) = false := by rw [delP_not]; have h : (beqS cl zS || subP p (l.getD x.2 default).cls cl) = false := hc; rw [siteD hx] at h; exact h
      have e : ((l.take (x.2 + 1)).filter fun s => !delP p cl s) = ((l.take x.2).filter fun s => !delP p cl s) := by rw [take_snoc hx, List.filter_append, List.filter_cons, if_neg (by rw [hq]; simp)]; simp
      refine awp_skip ?_
      refine awp_region ?_
      refine aops_e (w0 rfl) rfl (eff_move rfl rfl) ?_
      refine aops_e (w0 rfl) rfl (eff_arith rfl rfl rfl (arith_add (by first | omega | (simp only [List.length_map]; omega)))) ?_
      refine aops_e (w0 rfl) rfl (eff_assign rfl rfl) ?_
      refine aops_nil ?_
      refine ⟨(x.1, x.2 + 1), (by show x.2 + 1 ≤ l.length; omega), (by show l.length - (x.2 + 1) < l.length - x.2; omega), ?_⟩
      exact weak_pick [0, 1] ⟨rfl, (by show some (AV.own _ _ _ _) = some (AV.own _ _ _ _); first | (rw [e]; done) | (rw [e]; simp; done) | (rw [e]; simp; rfl)), rfl, rfl, rfl, trivial⟩ (by show some [(_, AObj.rows _ _ _), (_, AObj.rows _ _ _)] = some [(_, AObj.rows _ _ _), (_, AObj.rows _ _ _)]; first | (rw [e]; done) | (rw [e]; simp; done) | (rw [e]; simp; rfl)) (by decide) rfl rfl
  · intro hc
    have hx : ¬ x.2 < l.length := by simpa using hc
    have e0 : ((l.take x.2).filter fun s => !delP p cl s) = l.filter fun s => !delP p cl s := by rw [List.take_of_length_le (by omega)]
    refine awp_exit ?_
    refine awp_seq ?_
    refine awp_weak (weak_frz 0 7 (T' := []) rfl rfl (by simp) trivial) ?_
    refine awp_region ?_
    refine aops_e (w0 rfl) rfl (eff_to (y := .lst ((l.filter fun s => !delP p cl s).map Site.cells)) (eff_move rfl rfl) (congrArg AV.lst (by rw [e0]))) ?_
    refine aops_e (w0 rfl) rfl (eff_call [] rfl rfl rfl (c_refOf (l.filter fun s => !delP p cl s) (by omega)) List.nodup_nil) ?_
    refine aops_e (w0 rfl) rfl (eff_assign rfl rfl) ?_
    refine aops_nil ?_
    refine awp_ret ?_
    exact retq rfl (res_tmp rfl res_nil) (gvr rfl)

end Go.Sx
