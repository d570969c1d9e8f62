/- The library's sort by a way to compare (Site), walked. -/
import Derived.Test.YtaphgfiboidpbaaBaSzBag
set_option linter.unusedVariables false
set_option linter.unusedSimpArgs false
namespace Go.Sx
open Go Go.Proofs

theorem c_insSortF (q n : Nat) (l : List Site) (hn : l.length = n) (hN : n ≤ 140737488355328) (a b : Nat) (ha : a ≤ b) (hb : b ≤ n) : ACalls Try.prog 69 [.own q 5 0 n, iA a, iA b, .fn (.func 26) []] [(q, .rows 26 5 (l.map Site.cells))] (GP (fun _ : List Site => mkRes []) (fun m => [(q, .rows 26 5 (m.map Site.cells))]) (fun m => Sw a b l m ∧ SAdj sLt a b m)) := by
  refine acalls_of (n := 53) Try.func69 rfl (by decide +kernel) rfl rfl ?_
  refine awp_seq ?_
  refine awp_region ?_
  refine aops_e (w0 rfl) rfl (eff_move rfl rfl) ?_
  refine aops_e (w0 rfl) rfl (eff_arith rfl rfl rfl (arith_add (by first | omega | (simp only [List.length_map]; omega)))) ?_
  refine aops_e (w0 rfl) rfl (eff_assign rfl rfl) ?_
  refine aops_nil ?_
  refine awp_block ?_
  refine awp_loopJ (α := List Site × Nat) (fun x => ⟨[(8, iA x.2), (0, .own q 5 0 n), (1, iA a), (2, iA b), (3, .fn (.func 26) [])], [(q, .rows 26 5 (x.1.map Site.cells))], [], 53⟩) (fun x => Sw a b l x.1 ∧ a + 1 ≤ x.2 ∧ SAdj sLt a x.2 x.1) (fun x => b - x.2) (l, a + 1) ⟨.refl, Nat.le_refl _, SAdj.refl1 (Nat.le_refl _)⟩ ?_ ?_
  · exact weak_pick [0] ⟨rfl, rfl, rfl, rfl, rfl, trivial⟩ rfl (by decide) rfl rfl
  rintro x hJ
  have hm := hJ.1.len
  refine awp_seq ?_
  refine awp_seq ?_
  refine awp_region ?_
  refine aops_e (w0 rfl) rfl (eff_move rfl rfl) ?_
  refine aops_e (w0 rfl) rfl (eff_move rfl rfl) ?_
  refine aops_e (w0 rfl) rfl (eff_icmp rfl rfl rfl rfl) ?_
  refine aops_nil ?_
  refine awp_cond rfl ?_ ?_
  · intro hc
    have hx : x.2 < b := by simpa using hc
    refine awp_skip ?_
    refine awp_seq ?_
    refine awp_block ?_
    refine awp_seq ?_
    refine awp_region ?_
    refine aops_e (w0 rfl) rfl (eff_move rfl rfl) ?_
    refine aops_e (w0 rfl) rfl (eff_assign rfl rfl) ?_
    refine aops_nil ?_
    refine awp_block ?_
    refine awp_loopJ (α := List Site × Nat) (fun z => ⟨[(9, iA z.2), (8, iA x.2), (0, .own q 5 0 n), (1, iA a), (2, iA b), (3, .fn (.func 26) [])], [(q, .rows 26 5 (z.1.map Site.cells))], [], 53⟩) (fun z => Sw a b l z.1 ∧ a ≤ z.2 ∧ z.2 ≤ x.2 ∧ Ins sLt a z.2 x.2 z.1) (fun z => z.2) (x.1, x.2) ⟨hJ.1, (by (try simp only) <;> omega), Nat.le_refl _, Ins.start hJ.2.2⟩ ?_ ?_
    · exact weak_pick [0] ⟨rfl, rfl, rfl, rfl, rfl, rfl, trivial⟩ rfl (by decide) rfl rfl
    rintro z hJ2
    have hm2 := hJ2.1.len
    refine awp_seq ?_
    refine awp_seq ?_
    refine awp_drawM [0, 0, 3, 7, 15, 15, 15, 111, 239, 15, 15, 1039, 3599, 7695, 16383, 32767, 65535] 17 rfl (by kernel_rfl) ?_
    refine calm_e (w0 rfl) rfl (eff_move rfl rfl) ?_
    refine calm_e (w0 rfl) rfl (eff_move rfl rfl) ?_
    refine calm_e (w0 rfl) rfl (eff_icmp rfl rfl rfl rfl) ?_
    refine calm_e (w0 rfl) rfl (eff_move rfl rfl) ?_
    refine calm_g (wT rfl rfl rfl rfl) rfl (fun hg => (eff_move rfl rfl)) ?_
    refine calm_g (wT rfl rfl rfl rfl) rfl (fun hg => (eff_move rfl rfl)) ?_
    refine calm_g (wT rfl rfl rfl rfl) rfl (fun hg => (eff_move rfl rfl)) ?_
    refine calm_g (wT rfl rfl rfl rfl) rfl (fun hg => (eff_indexAddr_ownN z.2 rfl (ev_g hg rfl) (ev_g hg rfl) (by (try simp at hg) <;> first | omega | (simp only [List.length_map]; omega) | (simp only [List.length_map, List.length_drop]; omega)) (by (try simp at hg) <;> first | omega | (simp only [List.length_map]; omega) | (simp only [List.length_map, List.length_drop]; omega)) (by omega))) ?_
    refine calm_gloadC (f := Site.cells) 0 (wT rfl rfl rfl rfl) rfl rfl (fun hg => (ev_g hg rfl)) rfl (fun hg => by (try simp at hg) <;> (first | assumption | omega | (simp only [List.length_drop]; omega))) (fun _ => ld_aggC rfl) ?_
    refine calm_g (wT rfl rfl rfl rfl) rfl (fun hg => (eff_move rfl rfl)) ?_
    refine calm_g (wT rfl rfl rfl rfl) rfl (fun hg => (eff_move rfl rfl)) ?_
    refine calm_g (wT rfl rfl rfl rfl) rfl (fun hg => (eff_arith rfl (ev_g hg rfl) rfl (arith_sub (by first | omega | (simp only [List.length_map]; omega))))) ?_
    refine calm_g (wT rfl rfl rfl rfl) rfl (fun hg => (eff_indexAddr_ownN (z.2 - 1) rfl (ev_g hg rfl) (ev_g hg rfl) (by (try simp at hg) <;> first | omega | (simp only [List.length_map]; omega) | (simp only [List.length_map, List.length_drop]; omega)) (by (try simp at hg) <;> first | omega | (simp only [List.length_map]; omega) | (simp only [List.length_map, List.length_drop]; omega)) (by omega))) ?_
    refine calm_gloadC (f := Site.cells) 0 (wT rfl rfl rfl rfl) rfl rfl (fun hg => (ev_g hg rfl)) rfl (fun hg => by (try simp at hg) <;> (first | assumption | omega | (simp only [List.length_drop]; omega))) (fun _ => ld_aggC rfl) ?_
    refine calm_g (wT rfl rfl rfl rfl) rfl (fun hg => (eff_call [] rfl (ev_g hg rfl) (evs_cons (ev_g hg rfl) (evs_cons (ev_g hg rfl) evs_nil)) (c_cmpSite _ _) List.nodup_nil)) ?_
    refine calm_g (wT rfl rfl rfl rfl) rfl (fun hg => (eff_icmp rfl (ev_g hg rfl) rfl rfl)) ?_
    refine calm_e (w0 rfl) rfl (eff_and rfl rfl rfl (fun h => h)) ?_
    refine .done ?_
    refine aops_nil ?_
    refine awp_cond rfl ?_ ?_
    · intro hc
      have hk : a < z.2 := by have := andL hc; simpa using this
      have hlt : sLt (z.1.getD z.2 default) (z.1.getD (z.2 - 1) default) = true := andR hc
      refine awp_skip ?_
      refine awp_seq ?_
      refine awp_block ?_
      refine awp_drawW [0, 0, 0, 0, 8, 0, 0, 64, 224, 480, 0, 0, 3072, 7168, 16355, 32739, 65535, 131071] [15, 17] [9, 13] rfl (by kernel_rfl) ?_
      refine wcalm_e (w0 rfl) rfl (eff_move rfl rfl) rfl ?_
      refine wcalm_e (w0 rfl) rfl (eff_move rfl rfl) rfl ?_
      refine wcalm_e (w0 rfl) rfl (eff_move rfl rfl) rfl ?_
      refine wcalm_e (w0 rfl) rfl (eff_move rfl rfl) rfl ?_
      refine wcalm_e (w0 rfl) rfl (eff_arith rfl rfl rfl (arith_sub (by first | omega | (simp only [List.length_map]; omega)))) rfl ?_
      refine wcalm_e (w0 rfl) rfl (eff_move rfl rfl) rfl ?_
      refine wcalm_e (w0 rfl) rfl (eff_move rfl rfl) rfl ?_
      refine wcalm_e (w0 rfl) rfl (eff_arith rfl rfl rfl (arith_sub (by first | omega | (simp only [List.length_map]; omega)))) rfl ?_
      refine wcalm_e (w0 rfl) rfl (eff_indexAddr_ownN (z.2 - 1) rfl rfl rfl (by first | omega | (simp only [List.length_map]; omega) | (simp only [List.length_map, List.length_drop]; omega)) (by first | omega | (simp only [List.length_map]; omega) | (simp only [List.length_map, List.length_drop]; omega)) (by omega)) rfl ?_
      refine wcalm_load_ptr 0 (w0 rfl) rfl rfl rfl rfl (own_getC (by first | assumption | omega | (simp only [List.length_drop]; omega))) (ld_aggC rfl) rfl rfl ?_
      refine wcalm_e (w0 rfl) rfl (eff_move rfl rfl) rfl ?_
      refine wcalm_e (w0 rfl) rfl (eff_move rfl rfl) rfl ?_
      refine wcalm_e (w0 rfl) rfl (eff_indexAddr_ownN z.2 rfl rfl rfl (by first | omega | (simp only [List.length_map]; omega) | (simp only [List.length_map, List.length_drop]; omega)) (by first | omega | (simp only [List.length_map]; omega) | (simp only [List.length_map, List.length_drop]; omega)) (by omega)) rfl ?_
      refine wcalm_load_ptr 0 (w0 rfl) rfl rfl rfl rfl (own_getC (by first | assumption | omega | (simp only [List.length_drop]; omega))) (ld_aggC rfl) rfl rfl ?_
      refine wcalm_e (w0 rfl) rfl (eff_indexAddr_ownN z.2 rfl rfl rfl (by first | omega | (simp only [List.length_map]; omega) | (simp only [List.length_map, List.length_drop]; omega)) (by first | omega | (simp only [List.length_map]; omega) | (simp only [List.length_map, List.length_drop]; omega)) (by omega)) rfl ?_
      refine wcalm_storeC (f := Site.cells) 0 (fun _ => rfl) (fun _ => rfl) (w0 rfl) rfl rfl rfl rfl (by first | omega | (simp; omega)) rfl rfl ?_
      refine wcalm_e (w0 rfl) rfl (eff_indexAddr_ownN (z.2 - 1) rfl rfl rfl (by first | omega | (simp only [List.length_map]; omega) | (simp only [List.length_map, List.length_drop]; omega)) (by first | omega | (simp only [List.length_map]; omega) | (simp only [List.length_map, List.length_drop]; omega)) (by omega)) rfl ?_
      refine wcalm_storeC (f := Site.cells) 0 (fun _ => rfl) (fun _ => rfl) (w0 rfl) rfl rfl rfl rfl (by first | omega | (simp; omega)) rfl rfl ?_
      refine .done ?_
      refine awp_region ?_
      refine aops_e (w0 rfl) rfl (eff_move rfl rfl) ?_
      refine aops_e (w0 rfl) rfl (eff_arith rfl rfl rfl (arith_sub (by first | omega | (simp only [List.length_map]; omega)))) ?_
      refine aops_e (w0 rfl) rfl (eff_assign rfl rfl) ?_
      refine aops_nil ?_
      refine ⟨(swp z.1 z.2 (z.2 - 1), z.2 - 1), ⟨.step _ _ hJ2.1 (by (try simp only) <;> omega) (by (try simp only) <;> omega) (by (try simp only) <;> omega), (by (try simp only) <;> omega), (by (try simp only) <;> omega), hJ2.2.2.2.step sLtT.ok hk (by (try simp only) <;> omega) (by (try simp only) <;> omega) hlt⟩, (by (try simp only) <;> omega), ?_⟩
      exact weak_pick [0] ⟨(congrArg (fun n => some (iA n)) (by (try simp only) <;> omega)), rfl, rfl, rfl, rfl, rfl, trivial⟩ rfl (by decide) rfl rfl
    · intro hc
      have hst : z.2 ≤ a ∨ sLt (z.1.getD z.2 default) (z.1.getD (z.2 - 1) default) = false := by rcases Bool.and_eq_false_iff.1 hc with h | h; exact .inl (by simpa using h); exact .inr h
      have hdn := hJ2.2.2.2.done hst
      refine awp_exit ?_
      refine awp_region ?_
      refine aops_e (w0 rfl) rfl (eff_move rfl rfl) ?_
      refine aops_e (w0 rfl) rfl (eff_arith rfl rfl rfl (arith_add (by first | omega | (simp only [List.length_map]; omega)))) ?_
      refine aops_e (w0 rfl) rfl (eff_assign rfl rfl) ?_
      refine aops_nil ?_
      refine ⟨(z.1, x.2 + 1), ⟨hJ2.1, (by (try simp only) <;> omega), hdn⟩, (by (try simp only) <;> omega), ?_⟩
      exact weak_pick [0] ⟨rfl, rfl, rfl, rfl, rfl, trivial⟩ rfl (by decide) rfl rfl
  · intro hc
    have hx : ¬ x.2 < b := by simpa using hc
    refine awp_exit ?_
    exact retq_keep rfl res_nil (.cons_cons _ .slnil) (gp x.1 ⟨hJ.1, fun k h1 h2 => hJ.2.2 k h1 (by omega)⟩ rfl rfl)

theorem c_siftF (q n : Nat) (l : List Site) (hn : l.length = n) (hN : n ≤ 140737488355328) (lo hi f : Nat) (hf : f + hi ≤ n) (hlo : lo ≤ n) (hh : Heap sLt (lo + 1) hi f l) : ACalls Try.prog 80 [.own q 5 0 n, iA lo, iA hi, iA f, .fn (.func 26) []] [(q, .rows 26 5 (l.map Site.cells))] (GP (fun _ : List Site => mkRes []) (fun m => [(q, .rows 26 5 (m.map Site.cells))]) (fun m => Sw f (f + hi) l m ∧ Heap sLt lo hi f m)) := by
  refine acalls_of (n := 82) Try.func80 rfl (by decide +kernel) rfl rfl ?_
  refine awp_seq ?_
  refine awp_region ?_
  refine aops_e (w0 rfl) rfl (eff_move rfl rfl) ?_
  refine aops_e (w0 rfl) rfl (eff_assign rfl rfl) ?_
  refine aops_nil ?_
  refine awp_block ?_
  refine awp_loopJ (α := List Site × Nat) (fun z => ⟨[(10, iA z.2), (0, .own q 5 0 n), (2, iA hi), (3, iA f), (4, .fn (.func 26) [])], [(q, .rows 26 5 (z.1.map Site.cells))], [], 82⟩) (fun z => Sw f (f + hi) l z.1 ∧ lo ≤ z.2 ∧ (z.2 < hi ∨ z.2 = lo) ∧ Sift sLt lo hi f z.2 z.1) (fun z => hi - z.2) (l, lo) ⟨.refl, Nat.le_refl _, .inr rfl, Sift.start hh⟩ ?_ ?_
  · exact weak_pick [0] ⟨rfl, rfl, rfl, rfl, rfl, trivial⟩ rfl (by decide) rfl rfl
  rintro z hJ
  have hm := hJ.1.len
  have hz := hJ.2.2.1
  refine awp_block ?_
  refine awp_seq ?_
  refine awp_region ?_
  refine aops_e (w0 rfl) rfl (eff_move rfl rfl) ?_
  refine aops_e (w0 rfl) rfl (eff_arith rfl rfl rfl (arith_mul (by first | omega | (simp only [List.length_map]; omega)))) ?_
  refine aops_e (w0 rfl) rfl (eff_arith rfl rfl rfl (arith_add (by first | omega | (simp only [List.length_map]; omega)))) ?_
  refine aops_e (w0 rfl) rfl (eff_assign rfl rfl) ?_
  refine aops_nil ?_
  refine awp_seq ?_
  refine awp_seq ?_
  refine awp_region ?_
  refine aops_e (w0 rfl) rfl (eff_move rfl rfl) ?_
  refine aops_e (w0 rfl) rfl (eff_move rfl rfl) ?_
  refine aops_e (w0 rfl) rfl (eff_icmp rfl rfl rfl rfl) ?_
  refine aops_nil ?_
  refine awp_cond rfl ?_ ?_
  · intro hc
    have hleaf : hi ≤ 2 * z.2 + 1 := by simp at hc; omega
    refine awp_exit ?_
    exact retq_keep rfl res_nil (.cons_cons _ .slnil) (gp z.1 ⟨hJ.1, hJ.2.2.2.leaf hleaf⟩ rfl rfl)
  · intro hc
    have hch : 2 * z.2 + 1 < hi := by simp at hc; omega
    refine awp_skip ?_
    refine awp_seq ?_
    refine awp_seq ?_
    refine awp_drawM [0, 1, 0, 7, 15, 31, 31, 31, 31, 415, 991, 2015, 31, 31, 31, 24607, 57375, 127007, 258079, 524287, 1048575, 2097151] 22 rfl (by kernel_rfl) ?_
    refine calm_e (w0 rfl) rfl (eff_move rfl rfl) ?_
    refine calm_e (w0 rfl) rfl (eff_arith rfl rfl rfl (arith_add (by first | omega | (simp only [List.length_map]; omega)))) ?_
    refine calm_e (w0 rfl) rfl (eff_move rfl rfl) ?_
    refine calm_e (w0 rfl) rfl (eff_icmp rfl rfl rfl rfl) ?_
    refine calm_e (w0 rfl) rfl (eff_move rfl rfl) ?_
    refine calm_g (wT rfl rfl rfl rfl) rfl (fun hg => (eff_move rfl rfl)) ?_
    refine calm_g (wT rfl rfl rfl rfl) rfl (fun hg => (eff_move rfl rfl)) ?_
    refine calm_g (wT rfl rfl rfl rfl) rfl (fun hg => (eff_move rfl rfl)) ?_
    refine calm_g (wT rfl rfl rfl rfl) rfl (fun hg => (eff_move rfl rfl)) ?_
    refine calm_g (wT rfl rfl rfl rfl) rfl (fun hg => (eff_arith rfl (ev_g hg rfl) (ev_g hg rfl) (arith_add (by first | omega | (simp only [List.length_map]; omega))))) ?_
    refine calm_g (wT rfl rfl rfl rfl) rfl (fun hg => (eff_indexAddr_ownN (f + ((2 * z.2) + 1)) rfl (ev_g hg rfl) (ev_g hg rfl) (by (try simp at hg) <;> first | omega | (simp only [List.length_map]; omega) | (simp only [List.length_map, List.length_drop]; omega)) (by (try simp at hg) <;> first | omega | (simp only [List.length_map]; omega) | (simp only [List.length_map, List.length_drop]; omega)) (by omega))) ?_
    refine calm_gloadC (f := Site.cells) 0 (wT rfl rfl rfl rfl) rfl rfl (fun hg => (ev_g hg rfl)) rfl (fun hg => by (try simp at hg) <;> (first | assumption | omega | (simp only [List.length_drop]; omega))) (fun _ => ld_aggC rfl) ?_
    refine calm_g (wT rfl rfl rfl rfl) rfl (fun hg => (eff_move rfl rfl)) ?_
    refine calm_g (wT rfl rfl rfl rfl) rfl (fun hg => (eff_move rfl rfl)) ?_
    refine calm_g (wT rfl rfl rfl rfl) rfl (fun hg => (eff_move rfl rfl)) ?_
    refine calm_g (wT rfl rfl rfl rfl) rfl (fun hg => (eff_arith rfl (ev_g hg rfl) (ev_g hg rfl) (arith_add (by first | omega | (simp only [List.length_map]; omega))))) ?_
    refine calm_g (wT rfl rfl rfl rfl) rfl (fun hg => (eff_arith rfl (ev_g hg rfl) rfl (arith_add (by first | omega | (simp only [List.length_map]; omega))))) ?_
    refine calm_g (wT rfl rfl rfl rfl) rfl (fun hg => (eff_indexAddr_ownN ((f + ((2 * z.2) + 1)) + 1) rfl (ev_g hg rfl) (ev_g hg rfl) (by (try simp at hg) <;> first | omega | (simp only [List.length_map]; omega) | (simp only [List.length_map, List.length_drop]; omega)) (by (try simp at hg) <;> first | omega | (simp only [List.length_map]; omega) | (simp only [List.length_map, List.length_drop]; omega)) (by omega))) ?_
    refine calm_gloadC (f := Site.cells) 0 (wT rfl rfl rfl rfl) rfl rfl (fun hg => (ev_g hg rfl)) rfl (fun hg => by (try simp at hg) <;> (first | assumption | omega | (simp only [List.length_drop]; omega))) (fun _ => ld_aggC rfl) ?_
    refine calm_g (wT rfl rfl rfl rfl) rfl (fun hg => (eff_call [] rfl (ev_g hg rfl) (evs_cons (ev_g hg rfl) (evs_cons (ev_g hg rfl) evs_nil)) (c_cmpSite _ _) List.nodup_nil)) ?_
    refine calm_g (wT rfl rfl rfl rfl) rfl (fun hg => (eff_icmp rfl (ev_g hg rfl) rfl rfl)) ?_
    refine calm_e (w0 rfl) rfl (eff_and rfl rfl rfl (fun h => h)) ?_
    refine .done ?_
    refine aops_nil ?_
    refine awp_cond rfl ?_ ?_
    · intro hc
      have hc1 : 2 * z.2 + 1 + 1 < hi := by have := andL hc; simp at this; omega
      have hl1 : sLt (hp z.1 f (2 * z.2 + 1)) (hp z.1 f (2 * z.2 + 1 + 1)) = true := andR hc
      have hmax : ∀ c, (c = 2 * z.2 + 1 ∨ c = 2 * z.2 + 2) → c < hi → sLt (hp z.1 f (2 * z.2 + 1 + 1)) (hp z.1 f c) = false := fun c h1 h2 => by rcases h1 with rfl | rfl; exact sLtT.ok.asy _ _ hl1; exact sLtT.ok.irr _
      refine awp_region ?_
      refine aops_e (w0 rfl) rfl (eff_move rfl rfl) ?_
      refine aops_e (w0 rfl) rfl (eff_arith rfl rfl rfl (arith_add (by first | omega | (simp only [List.length_map]; omega)))) ?_
      refine aops_e (w0 rfl) rfl (eff_assign rfl rfl) ?_
      refine aops_nil ?_
      refine awp_seq ?_
      refine awp_seq ?_
      refine awp_drawM [0, 0, 0, 0, 12, 30, 62, 0, 0, 0, 768, 1920, 3968, 8191, 16383, 32767] 16 rfl (by kernel_rfl) ?_
      refine calm_e (w0 rfl) rfl (eff_move rfl rfl) ?_
      refine calm_e (w0 rfl) rfl (eff_move rfl rfl) ?_
      refine calm_e (w0 rfl) rfl (eff_move rfl rfl) ?_
      refine calm_e (w0 rfl) rfl (eff_move rfl rfl) ?_
      refine calm_e (w0 rfl) rfl (eff_arith rfl rfl rfl (arith_add (by first | omega | (simp only [List.length_map]; omega)))) ?_
      refine calm_e (w0 rfl) rfl (eff_indexAddr_ownN (f + z.2) rfl rfl rfl (by first | omega | (simp only [List.length_map]; omega) | (simp only [List.length_map, List.length_drop]; omega)) (by first | omega | (simp only [List.length_map]; omega) | (simp only [List.length_map, List.length_drop]; omega)) (by omega)) ?_
      refine calm_load_ptr 0 (w0 rfl) rfl rfl rfl rfl (own_getC (by first | assumption | omega | (simp only [List.length_drop]; omega))) (ld_aggC rfl) ?_
      refine calm_e (w0 rfl) rfl (eff_move rfl rfl) ?_
      refine calm_e (w0 rfl) rfl (eff_move rfl rfl) ?_
      refine calm_e (w0 rfl) rfl (eff_move rfl rfl) ?_
      refine calm_e (w0 rfl) rfl (eff_arith rfl rfl rfl (arith_add (by first | omega | (simp only [List.length_map]; omega)))) ?_
      refine calm_e (w0 rfl) rfl (eff_indexAddr_ownN (f + (((2 * z.2) + 1) + 1)) rfl rfl rfl (by first | omega | (simp only [List.length_map]; omega) | (simp only [List.length_map, List.length_drop]; omega)) (by first | omega | (simp only [List.length_map]; omega) | (simp only [List.length_map, List.length_drop]; omega)) (by omega)) ?_
      refine calm_load_ptr 0 (w0 rfl) rfl rfl rfl rfl (own_getC (by first | assumption | omega | (simp only [List.length_drop]; omega))) (ld_aggC rfl) ?_
      refine calm_e (w0 rfl) rfl (eff_call [] rfl rfl rfl (c_cmpSite _ _) List.nodup_nil) ?_
      refine calm_e (w0 rfl) rfl (eff_icmp rfl rfl rfl rfl) ?_
      refine calm_e (w0 rfl) rfl (eff_not rfl rfl) ?_
      refine .done ?_
      refine aops_nil ?_
      refine awp_cond rfl ?_ ?_
      · intro hc
        have hstop := notT hc
        refine awp_ret ?_
        exact retq_keep rfl res_nil (.cons_cons _ .slnil) (gp z.1 ⟨hJ.1, hJ.2.2.2.stop sLtT.ok hmax hstop⟩ rfl rfl)
      · intro hc
        have hlt := notF hc
        refine awp_skip ?_
        refine awp_seq ?_
        refine awp_drawW [0, 0, 0, 6, 0, 0, 0, 96, 0, 0, 0, 1536, 3840, 7936, 0, 0, 0, 98304, 245760, 507904, 1048335, 2096911, 4194303, 8388607] [21, 23] [13, 19] rfl (by kernel_rfl) ?_
        refine wcalm_e (w0 rfl) rfl (eff_move rfl rfl) rfl ?_
        refine wcalm_e (w0 rfl) rfl (eff_move rfl rfl) rfl ?_
        refine wcalm_e (w0 rfl) rfl (eff_move rfl rfl) rfl ?_
        refine wcalm_e (w0 rfl) rfl (eff_arith rfl rfl rfl (arith_add (by first | omega | (simp only [List.length_map]; omega)))) rfl ?_
        refine wcalm_e (w0 rfl) rfl (eff_move rfl rfl) rfl ?_
        refine wcalm_e (w0 rfl) rfl (eff_move rfl rfl) rfl ?_
        refine wcalm_e (w0 rfl) rfl (eff_move rfl rfl) rfl ?_
        refine wcalm_e (w0 rfl) rfl (eff_arith rfl rfl rfl (arith_add (by first | omega | (simp only [List.length_map]; omega)))) rfl ?_
        refine wcalm_e (w0 rfl) rfl (eff_move rfl rfl) rfl ?_
        refine wcalm_e (w0 rfl) rfl (eff_move rfl rfl) rfl ?_
        refine wcalm_e (w0 rfl) rfl (eff_move rfl rfl) rfl ?_
        refine wcalm_e (w0 rfl) rfl (eff_arith rfl rfl rfl (arith_add (by first | omega | (simp only [List.length_map]; omega)))) rfl ?_
        refine wcalm_e (w0 rfl) rfl (eff_indexAddr_ownN (f + (((2 * z.2) + 1) + 1)) rfl rfl rfl (by first | omega | (simp only [List.length_map]; omega) | (simp only [List.length_map, List.length_drop]; omega)) (by first | omega | (simp only [List.length_map]; omega) | (simp only [List.length_map, List.length_drop]; omega)) (by omega)) rfl ?_
        refine wcalm_load_ptr 0 (w0 rfl) rfl rfl rfl rfl (own_getC (by first | assumption | omega | (simp only [List.length_drop]; omega))) (ld_aggC rfl) rfl rfl ?_
        refine wcalm_e (w0 rfl) rfl (eff_move rfl rfl) rfl ?_
        refine wcalm_e (w0 rfl) rfl (eff_move rfl rfl) rfl ?_
        refine wcalm_e (w0 rfl) rfl (eff_move rfl rfl) rfl ?_
        refine wcalm_e (w0 rfl) rfl (eff_arith rfl rfl rfl (arith_add (by first | omega | (simp only [List.length_map]; omega)))) rfl ?_
        refine wcalm_e (w0 rfl) rfl (eff_indexAddr_ownN (f + z.2) rfl rfl rfl (by first | omega | (simp only [List.length_map]; omega) | (simp only [List.length_map, List.length_drop]; omega)) (by first | omega | (simp only [List.length_map]; omega) | (simp only [List.length_map, List.length_drop]; omega)) (by omega)) rfl ?_
        refine wcalm_load_ptr 0 (w0 rfl) rfl rfl rfl rfl (own_getC (by first | assumption | omega | (simp only [List.length_drop]; omega))) (ld_aggC rfl) rfl rfl ?_
        refine wcalm_e (w0 rfl) rfl (eff_indexAddr_ownN (f + z.2) rfl rfl rfl (by first | omega | (simp only [List.length_map]; omega) | (simp only [List.length_map, List.length_drop]; omega)) (by first | omega | (simp only [List.length_map]; omega) | (simp only [List.length_map, List.length_drop]; omega)) (by omega)) rfl ?_
        refine wcalm_storeC (f := Site.cells) 0 (fun _ => rfl) (fun _ => rfl) (w0 rfl) rfl rfl rfl rfl (by first | omega | (simp; omega)) rfl rfl ?_
        refine wcalm_e (w0 rfl) rfl (eff_indexAddr_ownN (f + (((2 * z.2) + 1) + 1)) rfl rfl rfl (by first | omega | (simp only [List.length_map]; omega) | (simp only [List.length_map, List.length_drop]; omega)) (by first | omega | (simp only [List.length_map]; omega) | (simp only [List.length_map, List.length_drop]; omega)) (by omega)) rfl ?_
        refine wcalm_storeC (f := Site.cells) 0 (fun _ => rfl) (fun _ => rfl) (w0 rfl) rfl rfl rfl rfl (by first | omega | (simp; omega)) rfl rfl ?_
        refine .done ?_
        refine awp_region ?_
        refine aops_e (w0 rfl) rfl (eff_move rfl rfl) ?_
        refine aops_e (w0 rfl) rfl (eff_assign rfl rfl) ?_
        refine aops_nil ?_
        refine ⟨(swp z.1 (f + z.2) (f + (2 * z.2 + 1 + 1)), (2 * z.2 + 1 + 1)), ⟨.step _ _ hJ.1 (by (try simp only) <;> omega) (by (try simp only) <;> omega) (by (try simp only) <;> omega), (by (try simp only) <;> omega), .inl (by (try simp only) <;> omega), hJ.2.2.2.step (c0 := (2 * z.2 + 1 + 1)) sLtT.ok hJ.2.1 (.inr rfl) (by (try simp only) <;> omega) (by (try simp only) <;> omega) hmax hlt⟩, (by (try simp only) <;> omega), ?_⟩
        exact weak_pick [0] ⟨rfl, rfl, rfl, rfl, rfl, trivial⟩ rfl (by decide) rfl rfl
    · intro hc
      have hmax : ∀ c, (c = 2 * z.2 + 1 ∨ c = 2 * z.2 + 2) → c < hi → sLt (hp z.1 f (2 * z.2 + 1)) (hp z.1 f c) = false := fun c h1 h2 => by rcases h1 with rfl | rfl; exact sLtT.ok.irr _; rcases Bool.and_eq_false_iff.1 hc with h | h; simp at h; omega; exact h
      refine awp_skip ?_
      refine awp_seq ?_
      refine awp_seq ?_
      refine awp_drawM [0, 0, 0, 0, 12, 30, 62, 0, 0, 0, 768, 1920, 3968, 8191, 16383, 32767] 16 rfl (by kernel_rfl) ?_
      refine calm_e (w0 rfl) rfl (eff_move rfl rfl) ?_
      refine calm_e (w0 rfl) rfl (eff_move rfl rfl) ?_
      refine calm_e (w0 rfl) rfl (eff_move rfl rfl) ?_
      refine calm_e (w0 rfl) rfl (eff_move rfl rfl) ?_
      refine calm_e (w0 rfl) rfl (eff_arith rfl rfl rfl (arith_add (by first | omega | (simp only [List.length_map]; omega)))) ?_
      refine calm_e (w0 rfl) rfl (eff_indexAddr_ownN (f + z.2) rfl rfl rfl (by first | omega | (simp only [List.length_map]; omega) | (simp only [List.length_map, List.length_drop]; omega)) (by first | omega | (simp only [List.length_map]; omega) | (simp only [List.length_map, List.length_drop]; omega)) (by omega)) ?_
      refine calm_load_ptr 0 (w0 rfl) rfl rfl rfl rfl (own_getC (by first | assumption | omega | (simp only [List.length_drop]; omega))) (ld_aggC rfl) ?_
      refine calm_e (w0 rfl) rfl (eff_move rfl rfl) ?_
      refine calm_e (w0 rfl) rfl (eff_move rfl rfl) ?_
      refine calm_e (w0 rfl) rfl (eff_move rfl rfl) ?_
      refine calm_e (w0 rfl) rfl (eff_arith rfl rfl rfl (arith_add (by first | omega | (simp only [List.length_map]; omega)))) ?_
      refine calm_e (w0 rfl) rfl (eff_indexAddr_ownN (f + ((2 * z.2) + 1)) rfl rfl rfl (by first | omega | (simp only [List.length_map]; omega) | (simp only [List.length_map, List.length_drop]; omega)) (by first | omega | (simp only [List.length_map]; omega) | (simp only [List.length_map, List.length_drop]; omega)) (by omega)) ?_
      refine calm_load_ptr 0 (w0 rfl) rfl rfl rfl rfl (own_getC (by first | assumption | omega | (simp only [List.length_drop]; omega))) (ld_aggC rfl) ?_
      refine calm_e (w0 rfl) rfl (eff_call [] rfl rfl rfl (c_cmpSite _ _) List.nodup_nil) ?_
      refine calm_e (w0 rfl) rfl (eff_icmp rfl rfl rfl rfl) ?_
      refine calm_e (w0 rfl) rfl (eff_not rfl rfl) ?_
      refine .done ?_
      refine aops_nil ?_
      refine awp_cond rfl ?_ ?_
      · intro hc
        have hstop := notT hc
        refine awp_ret ?_
        exact retq_keep rfl res_nil (.cons_cons _ .slnil) (gp z.1 ⟨hJ.1, hJ.2.2.2.stop sLtT.ok hmax hstop⟩ rfl rfl)
      · intro hc
        have hlt := notF hc
        refine awp_skip ?_
        refine awp_seq ?_
        refine awp_drawW [0, 0, 0, 6, 0, 0, 0, 96, 0, 0, 0, 1536, 3840, 7936, 0, 0, 0, 98304, 245760, 507904, 1048335, 2096911, 4194303, 8388607] [21, 23] [13, 19] rfl (by kernel_rfl) ?_
        refine wcalm_e (w0 rfl) rfl (eff_move rfl rfl) rfl ?_
        refine wcalm_e (w0 rfl) rfl (eff_move rfl rfl) rfl ?_
        refine wcalm_e (w0 rfl) rfl (eff_move rfl rfl) rfl ?_
        refine wcalm_e (w0 rfl) rfl (eff_arith rfl rfl rfl (arith_add (by first | omega | (simp only [List.length_map]; omega)))) rfl ?_
        refine wcalm_e (w0 rfl) rfl (eff_move rfl rfl) rfl ?_
        refine wcalm_e (w0 rfl) rfl (eff_move rfl rfl) rfl ?_
        refine wcalm_e (w0 rfl) rfl (eff_move rfl rfl) rfl ?_
        refine wcalm_e (w0 rfl) rfl (eff_arith rfl rfl rfl (arith_add (by first | omega | (simp only [List.length_map]; omega)))) rfl ?_
        refine wcalm_e (w0 rfl) rfl (eff_move rfl rfl) rfl ?_
        refine wcalm_e (w0 rfl) rfl (eff_move rfl rfl) rfl ?_
        refine wcalm_e (w0 rfl) rfl (eff_move rfl rfl) rfl ?_
        refine wcalm_e (w0 rfl) rfl (eff_arith rfl rfl rfl (arith_add (by first | omega | (simp only [List.length_map]; omega)))) rfl ?_
        refine wcalm_e (w0 rfl) rfl (eff_indexAddr_ownN (f + ((2 * z.2) + 1)) rfl rfl rfl (by first | omega | (simp only [List.length_map]; omega) | (simp only [List.length_map, List.length_drop]; omega)) (by first | omega | (simp only [List.length_map]; omega) | (simp only [List.length_map, List.length_drop]; omega)) (by omega)) rfl ?_
        refine wcalm_load_ptr 0 (w0 rfl) rfl rfl rfl rfl (own_getC (by first | assumption | omega | (simp only [List.length_drop]; omega))) (ld_aggC rfl) rfl rfl ?_
        refine wcalm_e (w0 rfl) rfl (eff_move rfl rfl) rfl ?_
        refine wcalm_e (w0 rfl) rfl (eff_move rfl rfl) rfl ?_
        refine wcalm_e (w0 rfl) rfl (eff_move rfl rfl) rfl ?_
        refine wcalm_e (w0 rfl) rfl (eff_arith rfl rfl rfl (arith_add (by first | omega | (simp only [List.length_map]; omega)))) rfl ?_
        refine wcalm_e (w0 rfl) rfl (eff_indexAddr_ownN (f + z.2) rfl rfl rfl (by first | omega | (simp only [List.length_map]; omega) | (simp only [List.length_map, List.length_drop]; omega)) (by first | omega | (simp only [List.length_map]; omega) | (simp only [List.length_map, List.length_drop]; omega)) (by omega)) rfl ?_
        refine wcalm_load_ptr 0 (w0 rfl) rfl rfl rfl rfl (own_getC (by first | assumption | omega | (simp only [List.length_drop]; omega))) (ld_aggC rfl) rfl rfl ?_
        refine wcalm_e (w0 rfl) rfl (eff_indexAddr_ownN (f + z.2) rfl rfl rfl (by first | omega | (simp only [List.length_map]; omega) | (simp only [List.length_map, List.length_drop]; omega)) (by first | omega | (simp only [List.length_map]; omega) | (simp only [List.length_map, List.length_drop]; omega)) (by omega)) rfl ?_
        refine wcalm_storeC (f := Site.cells) 0 (fun _ => rfl) (fun _ => rfl) (w0 rfl) rfl rfl rfl rfl (by first | omega | (simp; omega)) rfl rfl ?_
        refine wcalm_e (w0 rfl) rfl (eff_indexAddr_ownN (f + ((2 * z.2) + 1)) rfl rfl rfl (by first | omega | (simp only [List.length_map]; omega) | (simp only [List.length_map, List.length_drop]; omega)) (by first | omega | (simp only [List.length_map]; omega) | (simp only [List.length_map, List.length_drop]; omega)) (by omega)) rfl ?_
        refine wcalm_storeC (f := Site.cells) 0 (fun _ => rfl) (fun _ => rfl) (w0 rfl) rfl rfl rfl rfl (by first | omega | (simp; omega)) rfl rfl ?_
        refine .done ?_
        refine awp_region ?_
        refine aops_e (w0 rfl) rfl (eff_move rfl rfl) ?_
        refine aops_e (w0 rfl) rfl (eff_assign rfl rfl) ?_
        refine aops_nil ?_
        refine ⟨(swp z.1 (f + z.2) (f + (2 * z.2 + 1)), (2 * z.2 + 1)), ⟨.step _ _ hJ.1 (by (try simp only) <;> omega) (by (try simp only) <;> omega) (by (try simp only) <;> omega), (by (try simp only) <;> omega), .inl (by (try simp only) <;> omega), hJ.2.2.2.step (c0 := (2 * z.2 + 1)) sLtT.ok hJ.2.1 (.inl rfl) (by (try simp only) <;> omega) (by (try simp only) <;> omega) hmax hlt⟩, (by (try simp only) <;> omega), ?_⟩
        exact weak_pick [0] ⟨rfl, rfl, rfl, rfl, rfl, trivial⟩ rfl (by decide) rfl rfl

theorem c_heapSortF (q n : Nat) (l : List Site) (hn : l.length = n) (hN : n ≤ 140737488355328) (a b : Nat) (ha : a ≤ b) (hb : b ≤ n) : ACalls Try.prog 70 [.own q 5 0 n, iA a, iA b, .fn (.func 26) []] [(q, .rows 26 5 (l.map Site.cells))] (GP (fun _ : List Site => mkRes []) (fun m => [(q, .rows 26 5 (m.map Site.cells))]) (fun m => Sw a b l m ∧ SOn sLt a b m)) := by
  refine acalls_of (n := 60) Try.func70 rfl (by decide +kernel) rfl rfl ?_
  refine awp_seq ?_
  refine awp_region ?_
  refine aops_e (w0 rfl) rfl (eff_move rfl rfl) ?_
  refine aops_e (w0 rfl) rfl (eff_assign rfl rfl) ?_
  refine aops_nil ?_
  refine awp_seq ?_
  refine awp_region ?_
  refine aops_e (w0 rfl) rfl (eff_assign rfl rfl) ?_
  refine aops_nil ?_
  refine awp_seq ?_
  refine awp_region ?_
  refine aops_e (w0 rfl) rfl (eff_move rfl rfl) ?_
  refine aops_e (w0 rfl) rfl (eff_move rfl rfl) ?_
  refine aops_e (w0 rfl) rfl (eff_to (y := iA (b - a : Nat)) (eff_arith rfl rfl rfl (arith_sub (by first | omega | (simp only [List.length_map]; omega)))) (congrArg iA (by omega))) ?_
  refine aops_e (w0 rfl) rfl (eff_assign rfl rfl) ?_
  refine aops_nil ?_
  refine awp_seq ?_
  refine awp_seq ?_
  refine awp_region ?_
  refine aops_e (w0 rfl) rfl (eff_move rfl rfl) ?_
  refine aops_e (w0 rfl) rfl (eff_arith rfl rfl rfl (arith_sub (by first | omega | (simp only [List.length_map]; omega)))) ?_
  refine aops_e (w0 rfl) rfl (eff_to (y := iA ((b - a - 1) / 2 : Nat)) (eff_quo rfl rfl rfl (by decide) (by (rw [tdiv2 ha]; omega))) (congrArg iA (tdiv2 ha))) ?_
  refine aops_e (w0 rfl) rfl (eff_assign rfl rfl) ?_
  refine aops_nil ?_
  refine awp_block ?_
  refine awp_loopJ (α := List Site × Nat) (fun x => ⟨[(11, iA ((x.2 : Int) - 1)), (0, .own q 5 0 n), (8, iA a), (9, iA (0 : Nat)), (10, iA (b - a : Nat)), (3, .fn (.func 26) [])], [(q, .rows 26 5 (x.1.map Site.cells))], [], 60⟩) (fun x => Sw a b l x.1 ∧ Heap sLt x.2 (b - a) a x.1 ∧ x.2 ≤ (b - a) + 1) (fun x => x.2) (l, (b - a - 1) / 2 + 1) ⟨.refl, Heap.none (by (try simp only) <;> omega), (by (try simp only) <;> omega)⟩ ?_ ?_
  · exact weak_pick [0] ⟨(congrArg (fun n => some (iA n)) (by (try simp only) <;> omega)), rfl, rfl, rfl, rfl, rfl, trivial⟩ rfl (by decide) rfl rfl
  rintro x hJ
  have hm := hJ.1.len
  refine awp_seq ?_
  refine awp_seq ?_
  refine awp_region ?_
  refine aops_e (w0 rfl) rfl (eff_move rfl rfl) ?_
  refine aops_e (w0 rfl) rfl (eff_icmp rfl rfl rfl rfl) ?_
  refine aops_nil ?_
  refine awp_cond rfl ?_ ?_
  · intro hc
    have hx : 0 < x.2 := by simp at hc; omega
    refine awp_skip ?_
    refine awp_seq ?_
    refine awp_block ?_
    refine awp_eqI 11 rfl (show _ = ((x.2 - 1 : Nat) : Int) by omega) ?_
    refine awp_region ?_
    refine aops_e (w0 rfl) rfl (eff_move rfl rfl) ?_
    refine aops_e (w0 rfl) rfl (eff_move rfl rfl) ?_
    refine aops_e (w0 rfl) rfl (eff_move rfl rfl) ?_
    refine aops_e (w0 rfl) rfl (eff_move rfl rfl) ?_
    refine aops_e (w0 rfl) rfl (eff_move rfl rfl) ?_
    refine aops_callP [_] _ (w0 rfl) rfl rfl rfl rfl (perm_get (k := 0) rfl) (c_siftF q n x.1 (by omega) hN (x.2 - 1) (b - a) a (by omega) (by omega) (by rw [show x.2 - 1 + 1 = x.2 from by omega]; exact hJ.2.1)) (fun v1 hv1 => ?_)
    refine aops_nil ?_
    refine awp_region ?_
    refine aops_e (w0 rfl) rfl (eff_move rfl rfl) ?_
    refine aops_e (w0 rfl) rfl (eff_arith rfl rfl rfl (arith_sub (by first | omega | (simp only [List.length_map]; omega)))) ?_
    refine aops_e (w0 rfl) rfl (eff_assign rfl rfl) ?_
    refine aops_nil ?_
    refine ⟨(v1, x.2 - 1), ⟨hJ.1.trans (hv1.1.mono (Nat.le_refl _) (by omega) (by omega)), hv1.2, (by (try simp only) <;> omega)⟩, (by (try simp only) <;> omega), ?_⟩
    exact weak_pick [0] ⟨(congrArg (fun n => some (iA n)) (by (try simp only) <;> omega)), rfl, rfl, rfl, rfl, rfl, trivial⟩ rfl (by decide) rfl rfl
  · intro hc
    have hx0 : x.2 = 0 := by simp at hc; omega
    refine awp_exit ?_
    refine awp_seq ?_
    refine awp_region ?_
    refine aops_e (w0 rfl) rfl (eff_move rfl rfl) ?_
    refine aops_e (w0 rfl) rfl (eff_arith rfl rfl rfl (arith_sub (by first | omega | (simp only [List.length_map]; omega)))) ?_
    refine aops_e (w0 rfl) rfl (eff_assign rfl rfl) ?_
    refine aops_nil ?_
    refine awp_block ?_
    refine awp_loopJ (α := List Site × Nat) (fun y => ⟨[(12, iA ((y.2 : Int) - 1)), (0, .own q 5 0 n), (8, iA a), (9, iA (0 : Nat)), (10, iA (b - a : Nat)), (3, .fn (.func 26) [])], [(q, .rows 26 5 (y.1.map Site.cells))], [], 60⟩) (fun y => Sw a b l y.1 ∧ Pops sLt a b y.2 y.1 ∧ y.2 ≤ b - a) (fun y => y.2) (x.1, b - a) ⟨hJ.1, Pops.start ha (hx0 ▸ hJ.2.1), Nat.le_refl _⟩ ?_ ?_
    · exact weak_pick [0] ⟨(congrArg (fun n => some (iA n)) (by (try simp only) <;> omega)), rfl, rfl, rfl, rfl, rfl, trivial⟩ rfl (by decide) rfl rfl
    rintro y hJ1
    have hm1 := hJ1.1.len
    refine awp_seq ?_
    refine awp_seq ?_
    refine awp_region ?_
    refine aops_e (w0 rfl) rfl (eff_move rfl rfl) ?_
    refine aops_e (w0 rfl) rfl (eff_icmp rfl rfl rfl rfl) ?_
    refine aops_nil ?_
    refine awp_cond rfl ?_ ?_
    · intro hc
      have hy : 0 < y.2 := by simp at hc; omega
      have hsw := Pops.swap sLtT.ok (i := y.2 - 1) (by rw [show y.2 - 1 + 1 = y.2 from by omega]; exact hJ1.2.1) (by omega) (by omega : b ≤ y.1.length)
      refine awp_skip ?_
      refine awp_seq ?_
      refine awp_block ?_
      refine awp_seq ?_
      refine awp_eqI 12 rfl (show _ = ((y.2 - 1 : Nat) : Int) by omega) ?_
      refine awp_drawW [0, 0, 0, 0, 0, 24, 0, 0, 0, 384, 960, 1984, 0, 0, 12288, 28672, 65475, 131011, 262143, 524287] [17, 19] [11, 15] rfl (by kernel_rfl) ?_
      refine wcalm_e (w0 rfl) rfl (eff_move rfl rfl) rfl ?_
      refine wcalm_e (w0 rfl) rfl (eff_move rfl rfl) rfl ?_
      refine wcalm_e (w0 rfl) rfl (eff_move rfl rfl) rfl ?_
      refine wcalm_e (w0 rfl) rfl (eff_move rfl rfl) rfl ?_
      refine wcalm_e (w0 rfl) rfl (eff_move rfl rfl) rfl ?_
      refine wcalm_e (w0 rfl) rfl (eff_arith rfl rfl rfl (arith_add (by first | omega | (simp only [List.length_map]; omega)))) rfl ?_
      refine wcalm_e (w0 rfl) rfl (eff_move rfl rfl) rfl ?_
      refine wcalm_e (w0 rfl) rfl (eff_move rfl rfl) rfl ?_
      refine wcalm_e (w0 rfl) rfl (eff_move rfl rfl) rfl ?_
      refine wcalm_e (w0 rfl) rfl (eff_arith rfl rfl rfl (arith_add (by first | omega | (simp only [List.length_map]; omega)))) rfl ?_
      refine wcalm_e (w0 rfl) rfl (eff_indexAddr_ownN (a + (y.2 - 1)) rfl rfl rfl (by first | omega | (simp only [List.length_map]; omega) | (simp only [List.length_map, List.length_drop]; omega)) (by first | omega | (simp only [List.length_map]; omega) | (simp only [List.length_map, List.length_drop]; omega)) (by omega)) rfl ?_
      refine wcalm_load_ptr 0 (w0 rfl) rfl rfl rfl rfl (own_getC (by first | assumption | omega | (simp only [List.length_drop]; omega))) (ld_aggC rfl) rfl rfl ?_
      refine wcalm_e (w0 rfl) rfl (eff_move rfl rfl) rfl ?_
      refine wcalm_e (w0 rfl) rfl (eff_move rfl rfl) rfl ?_
      refine wcalm_e (w0 rfl) rfl (eff_indexAddr_ownN a rfl rfl rfl (by first | omega | (simp only [List.length_map]; omega) | (simp only [List.length_map, List.length_drop]; omega)) (by first | omega | (simp only [List.length_map]; omega) | (simp only [List.length_map, List.length_drop]; omega)) (by omega)) rfl ?_
      refine wcalm_load_ptr 0 (w0 rfl) rfl rfl rfl rfl (own_getC (by first | assumption | omega | (simp only [List.length_drop]; omega))) (ld_aggC rfl) rfl rfl ?_
      refine wcalm_e (w0 rfl) rfl (eff_indexAddr_ownN a rfl rfl rfl (by first | omega | (simp only [List.length_map]; omega) | (simp only [List.length_map, List.length_drop]; omega)) (by first | omega | (simp only [List.length_map]; omega) | (simp only [List.length_map, List.length_drop]; omega)) (by omega)) rfl ?_
      refine wcalm_storeC (f := Site.cells) 0 (fun _ => rfl) (fun _ => rfl) (w0 rfl) rfl rfl rfl rfl (by first | omega | (simp; omega)) rfl rfl ?_
      refine wcalm_e (w0 rfl) rfl (eff_indexAddr_ownN (a + (y.2 - 1)) rfl rfl rfl (by first | omega | (simp only [List.length_map]; omega) | (simp only [List.length_map, List.length_drop]; omega)) (by first | omega | (simp only [List.length_map]; omega) | (simp only [List.length_map, List.length_drop]; omega)) (by omega)) rfl ?_
      refine wcalm_storeC (f := Site.cells) 0 (fun _ => rfl) (fun _ => rfl) (w0 rfl) rfl rfl rfl rfl (by first | omega | (simp; omega)) rfl rfl ?_
      refine .done ?_
      refine awp_region ?_
      refine aops_e (w0 rfl) rfl (eff_move rfl rfl) ?_
      refine aops_e (w0 rfl) rfl (eff_move rfl rfl) ?_
      refine aops_e (w0 rfl) rfl (eff_move rfl rfl) ?_
      refine aops_e (w0 rfl) rfl (eff_move rfl rfl) ?_
      refine aops_e (w0 rfl) rfl (eff_move rfl rfl) ?_
      refine aops_callP [_] _ (w0 rfl) rfl rfl rfl rfl (perm_get (k := 0) rfl) (c_siftF q n (swp y.1 a (a + (y.2 - 1))) (by rw [swp_len]; omega) hN 0 (y.2 - 1) a (by omega) (by omega) hsw.1) (fun v2 hv2 => ?_)
      refine aops_nil ?_
      refine awp_region ?_
      refine aops_e (w0 rfl) rfl (eff_move rfl rfl) ?_
      refine aops_e (w0 rfl) rfl (eff_arith rfl rfl rfl (arith_sub (by first | omega | (simp only [List.length_map]; omega)))) ?_
      refine aops_e (w0 rfl) rfl (eff_assign rfl rfl) ?_
      refine aops_nil ?_
      refine ⟨(v2, y.2 - 1), ⟨(Sw.step _ _ hJ1.1 (by (try simp only) <;> omega) (by (try simp only) <;> omega) (by (try simp only) <;> omega)).trans (hv2.1.mono (Nat.le_refl _) (by omega) (by rw [swp_len]; omega)), Pops.sift hsw.2.1 hsw.2.2 hv2.1 hv2.2, (by (try simp only) <;> omega)⟩, (by (try simp only) <;> omega), ?_⟩
      exact weak_pick [0] ⟨(congrArg (fun n => some (iA n)) (by (try simp only) <;> omega)), rfl, rfl, rfl, rfl, rfl, trivial⟩ rfl (by decide) rfl rfl
    · intro hc
      have hy0 : y.2 = 0 := by simp at hc; omega
      refine awp_exit ?_
      exact retq_keep rfl res_nil (.cons_cons _ .slnil) (gp y.1 ⟨hJ1.1, by have := hJ1.2.1.srt; rwa [hy0, Nat.add_zero] at this⟩ rfl rfl)

theorem lt_of_parts {f : Nat → Bool} {x y : Nat} (h : x ≤ y) (h1 : f x = false) (h2 : f y = true) : x < y := Nat.lt_of_le_of_ne h (fun e => by rw [e, h2] at h1; cases h1)
theorem lt_of_parts' {f : Nat → Bool} {x y : Nat} (h : x ≤ y) (h1 : f x = true) (h2 : f y = false) : x < y := Nat.lt_of_le_of_ne h (fun e => by rw [e, h2] at h1; cases h1)

theorem c_partF (q n : Nat) (l : List Site) (hn : l.length = n) (hN : n ≤ 140737488355328) (a b p : Nat) (hap : a ≤ p) (hpb : p < b) (hb : b ≤ n) : ACalls Try.prog 76 [.own q 5 0 n, iA a, iA b, iA p, .fn (.func 26) []] [(q, .rows 26 5 (l.map Site.cells))] (GP (fun r : List Site × Nat × Bool => .tup [iA r.2.1, bA r.2.2]) (fun r => [(q, .rows 26 5 (r.1.map Site.cells))]) (fun r => Sw a b l r.1 ∧ a ≤ r.2.1 ∧ r.2.1 < b ∧ PartR sLt a b r.2.1 r.1)) := by
  have hm0 : Sw a b l (swp l a p) := .step _ _ .refl ⟨Nat.le_refl _, by omega⟩ ⟨hap, hpb⟩ (by (try simp only) <;> omega)
  have hl0 : (swp l a p).length = n := by rw [swp_len]; exact hn
  refine acalls_of (n := 178) Try.func76 rfl (by decide +kernel) rfl rfl ?_
  refine awp_seq ?_
  refine awp_region ?_
  refine aops_e (w0 rfl) rfl (eff_assign rfl rfl) ?_
  refine aops_e (w0 rfl) rfl (eff_assign rfl rfl) ?_
  refine aops_nil ?_
  refine awp_seq ?_
  refine awp_drawW [0, 0, 0, 0, 0, 0, 48, 112, 0, 0, 768, 1792, 4083, 8179, 16383, 32767] [13, 15] [7, 11] rfl (by kernel_rfl) ?_
  refine wcalm_e (w0 rfl) rfl (eff_move rfl rfl) rfl ?_
  refine wcalm_e (w0 rfl) rfl (eff_move rfl rfl) rfl ?_
  refine wcalm_e (w0 rfl) rfl (eff_move rfl rfl) rfl ?_
  refine wcalm_e (w0 rfl) rfl (eff_move rfl rfl) rfl ?_
  refine wcalm_e (w0 rfl) rfl (eff_move rfl rfl) rfl ?_
  refine wcalm_e (w0 rfl) rfl (eff_move rfl rfl) rfl ?_
  refine wcalm_e (w0 rfl) rfl (eff_indexAddr_ownN p rfl rfl rfl (by first | omega | (simp only [List.length_map]; omega) | (simp only [List.length_map, List.length_drop]; omega)) (by first | omega | (simp only [List.length_map]; omega) | (simp only [List.length_map, List.length_drop]; omega)) (by omega)) rfl ?_
  refine wcalm_load_ptr 0 (w0 rfl) rfl rfl rfl rfl (own_getC (by first | assumption | omega | (simp only [List.length_drop]; omega))) (ld_aggC rfl) rfl rfl ?_
  refine wcalm_e (w0 rfl) rfl (eff_move rfl rfl) rfl ?_
  refine wcalm_e (w0 rfl) rfl (eff_move rfl rfl) rfl ?_
  refine wcalm_e (w0 rfl) rfl (eff_indexAddr_ownN a rfl rfl rfl (by first | omega | (simp only [List.length_map]; omega) | (simp only [List.length_map, List.length_drop]; omega)) (by first | omega | (simp only [List.length_map]; omega) | (simp only [List.length_map, List.length_drop]; omega)) (by omega)) rfl ?_
  refine wcalm_load_ptr 0 (w0 rfl) rfl rfl rfl rfl (own_getC (by first | assumption | omega | (simp only [List.length_drop]; omega))) (ld_aggC rfl) rfl rfl ?_
  refine wcalm_e (w0 rfl) rfl (eff_indexAddr_ownN a rfl rfl rfl (by first | omega | (simp only [List.length_map]; omega) | (simp only [List.length_map, List.length_drop]; omega)) (by first | omega | (simp only [List.length_map]; omega) | (simp only [List.length_map, List.length_drop]; omega)) (by omega)) rfl ?_
  refine wcalm_storeC (f := Site.cells) 0 (fun _ => rfl) (fun _ => rfl) (w0 rfl) rfl rfl rfl rfl (by first | omega | (simp; omega)) rfl rfl ?_
  refine wcalm_e (w0 rfl) rfl (eff_indexAddr_ownN p rfl rfl rfl (by first | omega | (simp only [List.length_map]; omega) | (simp only [List.length_map, List.length_drop]; omega)) (by first | omega | (simp only [List.length_map]; omega) | (simp only [List.length_map, List.length_drop]; omega)) (by omega)) rfl ?_
  refine wcalm_storeC (f := Site.cells) 0 (fun _ => rfl) (fun _ => rfl) (w0 rfl) rfl rfl rfl rfl (by first | omega | (simp; omega)) rfl rfl ?_
  refine .done ?_
  refine awp_seq ?_
  refine awp_region ?_
  refine aops_e (w0 rfl) rfl (eff_move rfl rfl) ?_
  refine aops_e (w0 rfl) rfl (eff_arith rfl rfl rfl (arith_add (by first | omega | (simp only [List.length_map]; omega)))) ?_
  refine aops_e (w0 rfl) rfl (eff_move rfl rfl) ?_
  refine aops_e (w0 rfl) rfl (eff_to (y := iA (b - 1 : Nat)) (eff_arith rfl rfl rfl (arith_sub (by first | omega | (simp only [List.length_map]; omega)))) (congrArg iA (by (try simp only) <;> omega))) ?_
  refine aops_e (w0 rfl) rfl (eff_assign rfl rfl) ?_
  refine aops_e (w0 rfl) rfl (eff_assign rfl rfl) ?_
  refine aops_nil ?_
  refine awp_seq ?_
  refine awp_block ?_
  refine awp_loopJ (α := Nat) (fun x => ⟨[(12, iA x), (13, iA (b - 1 : Nat)), (0, .own q 5 0 n), (1, iA a), (4, .fn (.func 26) [])], [(q, .rows 26 5 ((swp l a p).map Site.cells))], [], 178⟩) (fun x => a + 1 ≤ x ∧ x ≤ b ∧ ∀ k, a < k → k < x → sLt ((swp l a p).getD k default) ((swp l a p).getD a default) = true) (fun x => b - x) (a + 1) ⟨Nat.le_refl _, by omega, fun k h1 h2 => by omega⟩ ?_ ?_
  · exact weak_pick [0] ⟨rfl, rfl, rfl, rfl, rfl, trivial⟩ rfl (by decide) rfl rfl
  rintro x hJ
  refine awp_seq ?_
  refine awp_seq ?_
  refine awp_drawM [0, 0, 3, 7, 15, 15, 15, 111, 239, 15, 15, 1551, 3599, 8191, 16383, 32767] 16 rfl (by kernel_rfl) ?_
  refine calm_e (w0 rfl) rfl (eff_move rfl rfl) ?_
  refine calm_e (w0 rfl) rfl (eff_move rfl rfl) ?_
  refine calm_e (w0 rfl) rfl (eff_icmp rfl rfl rfl rfl) ?_
  refine calm_e (w0 rfl) rfl (eff_move rfl rfl) ?_
  refine calm_g (wT rfl rfl rfl rfl) rfl (fun hg => (eff_move rfl rfl)) ?_
  refine calm_g (wT rfl rfl rfl rfl) rfl (fun hg => (eff_move rfl rfl)) ?_
  refine calm_g (wT rfl rfl rfl rfl) rfl (fun hg => (eff_move rfl rfl)) ?_
  refine calm_g (wT rfl rfl rfl rfl) rfl (fun hg => (eff_indexAddr_ownN x rfl (ev_g hg rfl) (ev_g hg rfl) (by (try simp at hg) <;> first | omega | (simp only [List.length_map]; omega) | (simp only [List.length_map, List.length_drop]; omega)) (by (try simp at hg) <;> first | omega | (simp only [List.length_map]; omega) | (simp only [List.length_map, List.length_drop]; omega)) (by omega))) ?_
  refine calm_gloadC (f := Site.cells) 0 (wT rfl rfl rfl rfl) rfl rfl (fun hg => (ev_g hg rfl)) rfl (fun hg => by (try simp at hg) <;> (first | assumption | omega | (simp only [List.length_drop]; omega))) (fun _ => ld_aggC rfl) ?_
  refine calm_g (wT rfl rfl rfl rfl) rfl (fun hg => (eff_move rfl rfl)) ?_
  refine calm_g (wT rfl rfl rfl rfl) rfl (fun hg => (eff_move rfl rfl)) ?_
  refine calm_g (wT rfl rfl rfl rfl) rfl (fun hg => (eff_indexAddr_ownN a rfl (ev_g hg rfl) (ev_g hg rfl) (by (try simp at hg) <;> first | omega | (simp only [List.length_map]; omega) | (simp only [List.length_map, List.length_drop]; omega)) (by (try simp at hg) <;> first | omega | (simp only [List.length_map]; omega) | (simp only [List.length_map, List.length_drop]; omega)) (by omega))) ?_
  refine calm_gloadC (f := Site.cells) 0 (wT rfl rfl rfl rfl) rfl rfl (fun hg => (ev_g hg rfl)) rfl (fun hg => by (try simp at hg) <;> (first | assumption | omega | (simp only [List.length_drop]; omega))) (fun _ => ld_aggC rfl) ?_
  refine calm_g (wT rfl rfl rfl rfl) rfl (fun hg => (eff_call [] rfl (ev_g hg rfl) (evs_cons (ev_g hg rfl) (evs_cons (ev_g hg rfl) evs_nil)) (c_cmpSite _ _) List.nodup_nil)) ?_
  refine calm_g (wT rfl rfl rfl rfl) rfl (fun hg => (eff_icmp rfl (ev_g hg rfl) rfl rfl)) ?_
  refine calm_e (w0 rfl) rfl (eff_and rfl rfl rfl (fun h => h)) ?_
  refine .done ?_
  refine aops_nil ?_
  refine awp_cond rfl ?_ ?_
  · intro hc
    have hle : x ≤ (b - 1) := by have := andL hc; simpa using this
    have hv := andR hc
    refine awp_skip ?_
    refine awp_block ?_
    refine awp_region ?_
    refine aops_e (w0 rfl) rfl (eff_move rfl rfl) ?_
    refine aops_e (w0 rfl) rfl (eff_arith rfl rfl rfl (arith_add (by first | omega | (simp only [List.length_map]; omega)))) ?_
    refine aops_e (w0 rfl) rfl (eff_assign rfl rfl) ?_
    refine aops_nil ?_
    refine ⟨(x + 1), ⟨by omega, by omega, fun k h1 h2 => by rcases Nat.lt_succ_iff_lt_or_eq.1 h2 with h | h; exact hJ.2.2 k h1 h; rw [h]; exact hv⟩, (by (try simp only) <;> omega), ?_⟩
    exact weak_pick [0] ⟨rfl, rfl, rfl, rfl, rfl, trivial⟩ rfl (by decide) rfl rfl
  · intro hc
    have hA : (b - 1) < x ∨ sLt ((swp l a p).getD x default) ((swp l a p).getD a default) = false := by rcases Bool.and_eq_false_iff.1 hc with h | h; exact .inl (by simpa using h); exact .inr h
    refine awp_exit ?_
    refine awp_seq ?_
    refine awp_block ?_
    refine awp_loopJ (α := Nat) (fun y => ⟨[(12, iA x), (13, iA y), (0, .own q 5 0 n), (1, iA a), (4, .fn (.func 26) [])], [(q, .rows 26 5 ((swp l a p).map Site.cells))], [], 178⟩) (fun y => y < b ∧ x ≤ y + 1 ∧ ∀ k, y < k → k < b → sLt ((swp l a p).getD k default) ((swp l a p).getD a default) = false) (fun y => y) (b - 1) ⟨by omega, by omega, fun k h1 h2 => by omega⟩ ?_ ?_
    · exact weak_pick [0] ⟨rfl, rfl, rfl, rfl, rfl, trivial⟩ rfl (by decide) rfl rfl
    rintro y hJ1
    refine awp_seq ?_
    refine awp_seq ?_
    refine awp_drawM [0, 0, 3, 7, 15, 15, 15, 111, 239, 15, 15, 1551, 3599, 8191, 16383, 32767, 65535] 17 rfl (by kernel_rfl) ?_
    refine calm_e (w0 rfl) rfl (eff_move rfl rfl) ?_
    refine calm_e (w0 rfl) rfl (eff_move rfl rfl) ?_
    refine calm_e (w0 rfl) rfl (eff_icmp rfl rfl rfl rfl) ?_
    refine calm_e (w0 rfl) rfl (eff_move rfl rfl) ?_
    refine calm_g (wT rfl rfl rfl rfl) rfl (fun hg => (eff_move rfl rfl)) ?_
    refine calm_g (wT rfl rfl rfl rfl) rfl (fun hg => (eff_move rfl rfl)) ?_
    refine calm_g (wT rfl rfl rfl rfl) rfl (fun hg => (eff_move rfl rfl)) ?_
    refine calm_g (wT rfl rfl rfl rfl) rfl (fun hg => (eff_indexAddr_ownN y rfl (ev_g hg rfl) (ev_g hg rfl) (by (try simp at hg) <;> first | omega | (simp only [List.length_map]; omega) | (simp only [List.length_map, List.length_drop]; omega)) (by (try simp at hg) <;> first | omega | (simp only [List.length_map]; omega) | (simp only [List.length_map, List.length_drop]; omega)) (by omega))) ?_
    refine calm_gloadC (f := Site.cells) 0 (wT rfl rfl rfl rfl) rfl rfl (fun hg => (ev_g hg rfl)) rfl (fun hg => by (try simp at hg) <;> (first | assumption | omega | (simp only [List.length_drop]; omega))) (fun _ => ld_aggC rfl) ?_
    refine calm_g (wT rfl rfl rfl rfl) rfl (fun hg => (eff_move rfl rfl)) ?_
    refine calm_g (wT rfl rfl rfl rfl) rfl (fun hg => (eff_move rfl rfl)) ?_
    refine calm_g (wT rfl rfl rfl rfl) rfl (fun hg => (eff_indexAddr_ownN a rfl (ev_g hg rfl) (ev_g hg rfl) (by (try simp at hg) <;> first | omega | (simp only [List.length_map]; omega) | (simp only [List.length_map, List.length_drop]; omega)) (by (try simp at hg) <;> first | omega | (simp only [List.length_map]; omega) | (simp only [List.length_map, List.length_drop]; omega)) (by omega))) ?_
    refine calm_gloadC (f := Site.cells) 0 (wT rfl rfl rfl rfl) rfl rfl (fun hg => (ev_g hg rfl)) rfl (fun hg => by (try simp at hg) <;> (first | assumption | omega | (simp only [List.length_drop]; omega))) (fun _ => ld_aggC rfl) ?_
    refine calm_g (wT rfl rfl rfl rfl) rfl (fun hg => (eff_call [] rfl (ev_g hg rfl) (evs_cons (ev_g hg rfl) (evs_cons (ev_g hg rfl) evs_nil)) (c_cmpSite _ _) List.nodup_nil)) ?_
    refine calm_g (wT rfl rfl rfl rfl) rfl (fun hg => (eff_icmp rfl (ev_g hg rfl) rfl rfl)) ?_
    refine calm_g (wT rfl rfl rfl rfl) rfl (fun hg => (eff_not rfl (ev_g hg rfl))) ?_
    refine calm_e (w0 rfl) rfl (eff_and rfl rfl rfl (fun h => h)) ?_
    refine .done ?_
    refine aops_nil ?_
    refine awp_cond rfl ?_ ?_
    · intro hc
      have hle : x ≤ y := by have := andL hc; simpa using this
      have hv := andR hc
      refine awp_skip ?_
      refine awp_block ?_
      refine awp_region ?_
      refine aops_e (w0 rfl) rfl (eff_move rfl rfl) ?_
      refine aops_e (w0 rfl) rfl (eff_arith rfl rfl rfl (arith_sub (by first | omega | (simp only [List.length_map]; omega)))) ?_
      refine aops_e (w0 rfl) rfl (eff_assign rfl rfl) ?_
      refine aops_nil ?_
      refine ⟨(y - 1), ⟨by omega, by omega, fun k h1 h2 => by by_cases e : k = y; rw [e]; exact notT hv; exact hJ1.2.2 k (by (try simp only) <;> omega) h2⟩, (by (try simp only) <;> omega), ?_⟩
      exact weak_pick [0] ⟨rfl, (congrArg (fun n => some (iA n)) (by (try simp only) <;> omega)), rfl, rfl, rfl, trivial⟩ rfl (by decide) rfl rfl
    · intro hc
      have hB : y < x ∨ (!sLt ((swp l a p).getD y default) ((swp l a p).getD a default)) = false := by rcases Bool.and_eq_false_iff.1 hc with h | h; exact .inl (by simpa using h); exact .inr h
      refine awp_exit ?_
      refine awp_seq ?_
      refine awp_seq ?_
      refine awp_region ?_
      refine aops_e (w0 rfl) rfl (eff_move rfl rfl) ?_
      refine aops_e (w0 rfl) rfl (eff_move rfl rfl) ?_
      refine aops_e (w0 rfl) rfl (eff_icmp rfl rfl rfl rfl) ?_
      refine aops_nil ?_
      refine awp_cond rfl ?_ ?_
      · intro hc
        have hgt : y < x := by simpa using hc
        refine awp_seq ?_
        refine awp_drawW [0, 0, 0, 0, 0, 0, 48, 112, 0, 0, 768, 1792, 4083, 8179, 16383, 32767] [13, 15] [7, 11] rfl (by kernel_rfl) ?_
        refine wcalm_e (w0 rfl) rfl (eff_move rfl rfl) rfl ?_
        refine wcalm_e (w0 rfl) rfl (eff_move rfl rfl) rfl ?_
        refine wcalm_e (w0 rfl) rfl (eff_move rfl rfl) rfl ?_
        refine wcalm_e (w0 rfl) rfl (eff_move rfl rfl) rfl ?_
        refine wcalm_e (w0 rfl) rfl (eff_move rfl rfl) rfl ?_
        refine wcalm_e (w0 rfl) rfl (eff_move rfl rfl) rfl ?_
        refine wcalm_e (w0 rfl) rfl (eff_indexAddr_ownN a rfl rfl rfl (by first | omega | (simp only [List.length_map]; omega) | (simp only [List.length_map, List.length_drop]; omega)) (by first | omega | (simp only [List.length_map]; omega) | (simp only [List.length_map, List.length_drop]; omega)) (by omega)) rfl ?_
        refine wcalm_load_ptr 0 (w0 rfl) rfl rfl rfl rfl (own_getC (by first | assumption | omega | (simp only [List.length_drop]; omega))) (ld_aggC rfl) rfl rfl ?_
        refine wcalm_e (w0 rfl) rfl (eff_move rfl rfl) rfl ?_
        refine wcalm_e (w0 rfl) rfl (eff_move rfl rfl) rfl ?_
        refine wcalm_e (w0 rfl) rfl (eff_indexAddr_ownN y rfl rfl rfl (by first | omega | (simp only [List.length_map]; omega) | (simp only [List.length_map, List.length_drop]; omega)) (by first | omega | (simp only [List.length_map]; omega) | (simp only [List.length_map, List.length_drop]; omega)) (by omega)) rfl ?_
        refine wcalm_load_ptr 0 (w0 rfl) rfl rfl rfl rfl (own_getC (by first | assumption | omega | (simp only [List.length_drop]; omega))) (ld_aggC rfl) rfl rfl ?_
        refine wcalm_e (w0 rfl) rfl (eff_indexAddr_ownN y rfl rfl rfl (by first | omega | (simp only [List.length_map]; omega) | (simp only [List.length_map, List.length_drop]; omega)) (by first | omega | (simp only [List.length_map]; omega) | (simp only [List.length_map, List.length_drop]; omega)) (by omega)) rfl ?_
        refine wcalm_storeC (f := Site.cells) 0 (fun _ => rfl) (fun _ => rfl) (w0 rfl) rfl rfl rfl rfl (by first | omega | (simp; omega)) rfl rfl ?_
        refine wcalm_e (w0 rfl) rfl (eff_indexAddr_ownN a rfl rfl rfl (by first | omega | (simp only [List.length_map]; omega) | (simp only [List.length_map, List.length_drop]; omega)) (by first | omega | (simp only [List.length_map]; omega) | (simp only [List.length_map, List.length_drop]; omega)) (by omega)) rfl ?_
        refine wcalm_storeC (f := Site.cells) 0 (fun _ => rfl) (fun _ => rfl) (w0 rfl) rfl rfl rfl rfl (by first | omega | (simp; omega)) rfl rfl ?_
        refine .done ?_
        refine awp_seq ?_
        refine awp_region ?_
        refine aops_e (w0 rfl) rfl (eff_move rfl rfl) ?_
        refine aops_e (w0 rfl) rfl (eff_assign rfl rfl) ?_
        refine aops_e (w0 rfl) rfl (eff_assign rfl rfl) ?_
        refine aops_nil ?_
        refine awp_ret ?_
        exact retq_keep rfl (res_tmp rfl (res_tmp rfl res_nil)) (.cons_cons _ .slnil) (gp (swp (swp l a p) y a, y, true) ⟨.step _ _ hm0 (by (try simp only) <;> omega) (by (try simp only) <;> omega) (by (try simp only) <;> omega), by simp only; omega, by simp only; omega, Part.fin ⟨hJ.2.2, hJ1.2.2⟩ (by (try simp only) <;> omega) (by (try simp only) <;> omega) (by (try simp only) <;> omega) (by (try simp only) <;> omega) (by (try simp only) <;> omega)⟩ rfl rfl)
      · intro hc
        have hxy : x ≤ y := by simpa using hc
        have hne : x < y := lt_of_parts (f := fun k => sLt ((swp l a p).getD k default) ((swp l a p).getD a default)) (by omega) (hA.resolve_left (by omega)) (notF (hB.resolve_left (by omega)))
        refine awp_skip ?_
        refine awp_seq ?_
        refine awp_drawW [0, 0, 0, 0, 0, 0, 48, 112, 0, 0, 768, 1792, 4083, 8179, 16383, 32767] [13, 15] [7, 11] rfl (by kernel_rfl) ?_
        refine wcalm_e (w0 rfl) rfl (eff_move rfl rfl) rfl ?_
        refine wcalm_e (w0 rfl) rfl (eff_move rfl rfl) rfl ?_
        refine wcalm_e (w0 rfl) rfl (eff_move rfl rfl) rfl ?_
        refine wcalm_e (w0 rfl) rfl (eff_move rfl rfl) rfl ?_
        refine wcalm_e (w0 rfl) rfl (eff_move rfl rfl) rfl ?_
        refine wcalm_e (w0 rfl) rfl (eff_move rfl rfl) rfl ?_
        refine wcalm_e (w0 rfl) rfl (eff_indexAddr_ownN y rfl rfl rfl (by first | omega | (simp only [List.length_map]; omega) | (simp only [List.length_map, List.length_drop]; omega)) (by first | omega | (simp only [List.length_map]; omega) | (simp only [List.length_map, List.length_drop]; omega)) (by omega)) rfl ?_
        refine wcalm_load_ptr 0 (w0 rfl) rfl rfl rfl rfl (own_getC (by first | assumption | omega | (simp only [List.length_drop]; omega))) (ld_aggC rfl) rfl rfl ?_
        refine wcalm_e (w0 rfl) rfl (eff_move rfl rfl) rfl ?_
        refine wcalm_e (w0 rfl) rfl (eff_move rfl rfl) rfl ?_
        refine wcalm_e (w0 rfl) rfl (eff_indexAddr_ownN x rfl rfl rfl (by first | omega | (simp only [List.length_map]; omega) | (simp only [List.length_map, List.length_drop]; omega)) (by first | omega | (simp only [List.length_map]; omega) | (simp only [List.length_map, List.length_drop]; omega)) (by omega)) rfl ?_
        refine wcalm_load_ptr 0 (w0 rfl) rfl rfl rfl rfl (own_getC (by first | assumption | omega | (simp only [List.length_drop]; omega))) (ld_aggC rfl) rfl rfl ?_
        refine wcalm_e (w0 rfl) rfl (eff_indexAddr_ownN x rfl rfl rfl (by first | omega | (simp only [List.length_map]; omega) | (simp only [List.length_map, List.length_drop]; omega)) (by first | omega | (simp only [List.length_map]; omega) | (simp only [List.length_map, List.length_drop]; omega)) (by omega)) rfl ?_
        refine wcalm_storeC (f := Site.cells) 0 (fun _ => rfl) (fun _ => rfl) (w0 rfl) rfl rfl rfl rfl (by first | omega | (simp; omega)) rfl rfl ?_
        refine wcalm_e (w0 rfl) rfl (eff_indexAddr_ownN y rfl rfl rfl (by first | omega | (simp only [List.length_map]; omega) | (simp only [List.length_map, List.length_drop]; omega)) (by first | omega | (simp only [List.length_map]; omega) | (simp only [List.length_map, List.length_drop]; omega)) (by omega)) rfl ?_
        refine wcalm_storeC (f := Site.cells) 0 (fun _ => rfl) (fun _ => rfl) (w0 rfl) rfl rfl rfl rfl (by first | omega | (simp; omega)) rfl rfl ?_
        refine .done ?_
        refine awp_seq ?_
        refine awp_region ?_
        refine aops_e (w0 rfl) rfl (eff_move rfl rfl) ?_
        refine aops_e (w0 rfl) rfl (eff_arith rfl rfl rfl (arith_add (by first | omega | (simp only [List.length_map]; omega)))) ?_
        refine aops_e (w0 rfl) rfl (eff_assign rfl rfl) ?_
        refine aops_nil ?_
        refine awp_seq ?_
        refine awp_region ?_
        refine aops_e (w0 rfl) rfl (eff_move rfl rfl) ?_
        refine aops_e (w0 rfl) rfl (eff_arith rfl rfl rfl (arith_sub (by first | omega | (simp only [List.length_map]; omega)))) ?_
        refine aops_e (w0 rfl) rfl (eff_assign rfl rfl) ?_
        refine aops_nil ?_
        refine awp_seq ?_
        refine awp_block ?_
        refine awp_loopJ (α := List Site × Nat × Nat) (fun z => ⟨[(12, iA z.2.1), (13, iA z.2.2), (0, .own q 5 0 n), (1, iA a), (4, .fn (.func 26) [])], [(q, .rows 26 5 (z.1.map Site.cells))], [], 178⟩) (fun z => Sw a b l z.1 ∧ a + 1 ≤ z.2.1 ∧ z.2.1 ≤ z.2.2 + 1 ∧ z.2.2 < b ∧ Part sLt a b z.2.1 z.2.2 z.1) (fun z => z.2.2 + 1 - z.2.1) (swp (swp l a p) x y, x + 1, y - 1) ⟨.step _ _ hm0 (by (try simp only) <;> omega) (by (try simp only) <;> omega) (by (try simp only) <;> omega), (by (try simp only) <;> omega), (by (try simp only) <;> omega), (by (try simp only) <;> omega), Part.swap (i := x) (j := y) ⟨hJ.2.2, hJ1.2.2⟩ (by (try simp only) <;> omega) (by (try simp only) <;> omega) (by (try simp only) <;> omega) (by (try simp only) <;> omega) (hA.resolve_left (by (try simp only) <;> omega)) (notF (hB.resolve_left (by (try simp only) <;> omega)))⟩ ?_ ?_
        · exact weak_pick [0] ⟨rfl, (congrArg (fun n => some (iA n)) (by (try simp only) <;> omega)), rfl, rfl, rfl, trivial⟩ rfl (by decide) rfl rfl
        rintro z hJ2
        have hm2 := hJ2.1.len
        refine awp_block ?_
        refine awp_seq ?_
        refine awp_block ?_
        refine awp_loopJ (α := Nat) (fun u => ⟨[(12, iA u), (13, iA z.2.2), (0, .own q 5 0 n), (1, iA a), (4, .fn (.func 26) [])], [(q, .rows 26 5 (z.1.map Site.cells))], [], 178⟩) (fun u => z.2.1 ≤ u ∧ u ≤ z.2.2 + 1 ∧ Part sLt a b u z.2.2 z.1) (fun u => b - u) z.2.1 ⟨Nat.le_refl _, hJ2.2.2.1, hJ2.2.2.2.2⟩ ?_ ?_
        · exact weak_pick [0] ⟨rfl, rfl, rfl, rfl, rfl, trivial⟩ rfl (by decide) rfl rfl
        rintro u hJ3
        refine awp_seq ?_
        refine awp_seq ?_
        refine awp_drawM [0, 0, 3, 7, 15, 15, 15, 111, 239, 15, 15, 1551, 3599, 8191, 16383, 32767] 16 rfl (by kernel_rfl) ?_
        refine calm_e (w0 rfl) rfl (eff_move rfl rfl) ?_
        refine calm_e (w0 rfl) rfl (eff_move rfl rfl) ?_
        refine calm_e (w0 rfl) rfl (eff_icmp rfl rfl rfl rfl) ?_
        refine calm_e (w0 rfl) rfl (eff_move rfl rfl) ?_
        refine calm_g (wT rfl rfl rfl rfl) rfl (fun hg => (eff_move rfl rfl)) ?_
        refine calm_g (wT rfl rfl rfl rfl) rfl (fun hg => (eff_move rfl rfl)) ?_
        refine calm_g (wT rfl rfl rfl rfl) rfl (fun hg => (eff_move rfl rfl)) ?_
        refine calm_g (wT rfl rfl rfl rfl) rfl (fun hg => (eff_indexAddr_ownN u rfl (ev_g hg rfl) (ev_g hg rfl) (by (try simp at hg) <;> first | omega | (simp only [List.length_map]; omega) | (simp only [List.length_map, List.length_drop]; omega)) (by (try simp at hg) <;> first | omega | (simp only [List.length_map]; omega) | (simp only [List.length_map, List.length_drop]; omega)) (by omega))) ?_
        refine calm_gloadC (f := Site.cells) 0 (wT rfl rfl rfl rfl) rfl rfl (fun hg => (ev_g hg rfl)) rfl (fun hg => by (try simp at hg) <;> (first | assumption | omega | (simp only [List.length_drop]; omega))) (fun _ => ld_aggC rfl) ?_
        refine calm_g (wT rfl rfl rfl rfl) rfl (fun hg => (eff_move rfl rfl)) ?_
        refine calm_g (wT rfl rfl rfl rfl) rfl (fun hg => (eff_move rfl rfl)) ?_
        refine calm_g (wT rfl rfl rfl rfl) rfl (fun hg => (eff_indexAddr_ownN a rfl (ev_g hg rfl) (ev_g hg rfl) (by (try simp at hg) <;> first | omega | (simp only [List.length_map]; omega) | (simp only [List.length_map, List.length_drop]; omega)) (by (try simp at hg) <;> first | omega | (simp only [List.length_map]; omega) | (simp only [List.length_map, List.length_drop]; omega)) (by omega))) ?_
        refine calm_gloadC (f := Site.cells) 0 (wT rfl rfl rfl rfl) rfl rfl (fun hg => (ev_g hg rfl)) rfl (fun hg => by (try simp at hg) <;> (first | assumption | omega | (simp only [List.length_drop]; omega))) (fun _ => ld_aggC rfl) ?_
        refine calm_g (wT rfl rfl rfl rfl) rfl (fun hg => (eff_call [] rfl (ev_g hg rfl) (evs_cons (ev_g hg rfl) (evs_cons (ev_g hg rfl) evs_nil)) (c_cmpSite _ _) List.nodup_nil)) ?_
        refine calm_g (wT rfl rfl rfl rfl) rfl (fun hg => (eff_icmp rfl (ev_g hg rfl) rfl rfl)) ?_
        refine calm_e (w0 rfl) rfl (eff_and rfl rfl rfl (fun h => h)) ?_
        refine .done ?_
        refine aops_nil ?_
        refine awp_cond rfl ?_ ?_
        · intro hc
          have hle : u ≤ z.2.2 := by have := andL hc; simpa using this
          have hv := andR hc
          refine awp_skip ?_
          refine awp_block ?_
          refine awp_region ?_
          refine aops_e (w0 rfl) rfl (eff_move rfl rfl) ?_
          refine aops_e (w0 rfl) rfl (eff_arith rfl rfl rfl (arith_add (by first | omega | (simp only [List.length_map]; omega)))) ?_
          refine aops_e (w0 rfl) rfl (eff_assign rfl rfl) ?_
          refine aops_nil ?_
          refine ⟨(u + 1), ⟨by omega, by omega, ⟨fun k h1 h2 => by rcases Nat.lt_succ_iff_lt_or_eq.1 h2 with h | h; exact hJ3.2.2.lo k h1 h; rw [h]; exact hv, hJ3.2.2.hi⟩⟩, (by (try simp only) <;> omega), ?_⟩
          exact weak_pick [0] ⟨rfl, rfl, rfl, rfl, rfl, trivial⟩ rfl (by decide) rfl rfl
        · intro hc
          have hC : z.2.2 < u ∨ sLt (z.1.getD u default) (z.1.getD a default) = false := by rcases Bool.and_eq_false_iff.1 hc with h | h; exact .inl (by simpa using h); exact .inr h
          refine awp_exit ?_
          refine awp_seq ?_
          refine awp_block ?_
          refine awp_loopJ (α := Nat) (fun v => ⟨[(12, iA u), (13, iA v), (0, .own q 5 0 n), (1, iA a), (4, .fn (.func 26) [])], [(q, .rows 26 5 (z.1.map Site.cells))], [], 178⟩) (fun v => v ≤ z.2.2 ∧ u ≤ v + 1 ∧ Part sLt a b u v z.1) (fun v => v) z.2.2 ⟨Nat.le_refl _, hJ3.2.1, hJ3.2.2⟩ ?_ ?_
          · exact weak_pick [0] ⟨rfl, rfl, rfl, rfl, rfl, trivial⟩ rfl (by decide) rfl rfl
          rintro v hJ4
          refine awp_seq ?_
          refine awp_seq ?_
          refine awp_drawM [0, 0, 3, 7, 15, 15, 15, 111, 239, 15, 15, 1551, 3599, 8191, 16383, 32767, 65535] 17 rfl (by kernel_rfl) ?_
          refine calm_e (w0 rfl) rfl (eff_move rfl rfl) ?_
          refine calm_e (w0 rfl) rfl (eff_move rfl rfl) ?_
          refine calm_e (w0 rfl) rfl (eff_icmp rfl rfl rfl rfl) ?_
          refine calm_e (w0 rfl) rfl (eff_move rfl rfl) ?_
          refine calm_g (wT rfl rfl rfl rfl) rfl (fun hg => (eff_move rfl rfl)) ?_
          refine calm_g (wT rfl rfl rfl rfl) rfl (fun hg => (eff_move rfl rfl)) ?_
          refine calm_g (wT rfl rfl rfl rfl) rfl (fun hg => (eff_move rfl rfl)) ?_
          refine calm_g (wT rfl rfl rfl rfl) rfl (fun hg => (eff_indexAddr_ownN v rfl (ev_g hg rfl) (ev_g hg rfl) (by (try simp at hg) <;> first | omega | (simp only [List.length_map]; omega) | (simp only [List.length_map, List.length_drop]; omega)) (by (try simp at hg) <;> first | omega | (simp only [List.length_map]; omega) | (simp only [List.length_map, List.length_drop]; omega)) (by omega))) ?_
          refine calm_gloadC (f := Site.cells) 0 (wT rfl rfl rfl rfl) rfl rfl (fun hg => (ev_g hg rfl)) rfl (fun hg => by (try simp at hg) <;> (first | assumption | omega | (simp only [List.length_drop]; omega))) (fun _ => ld_aggC rfl) ?_
          refine calm_g (wT rfl rfl rfl rfl) rfl (fun hg => (eff_move rfl rfl)) ?_
          refine calm_g (wT rfl rfl rfl rfl) rfl (fun hg => (eff_move rfl rfl)) ?_
          refine calm_g (wT rfl rfl rfl rfl) rfl (fun hg => (eff_indexAddr_ownN a rfl (ev_g hg rfl) (ev_g hg rfl) (by (try simp at hg) <;> first | omega | (simp only [List.length_map]; omega) | (simp only [List.length_map, List.length_drop]; omega)) (by (try simp at hg) <;> first | omega | (simp only [List.length_map]; omega) | (simp only [List.length_map, List.length_drop]; omega)) (by omega))) ?_
          refine calm_gloadC (f := Site.cells) 0 (wT rfl rfl rfl rfl) rfl rfl (fun hg => (ev_g hg rfl)) rfl (fun hg => by (try simp at hg) <;> (first | assumption | omega | (simp only [List.length_drop]; omega))) (fun _ => ld_aggC rfl) ?_
          refine calm_g (wT rfl rfl rfl rfl) rfl (fun hg => (eff_call [] rfl (ev_g hg rfl) (evs_cons (ev_g hg rfl) (evs_cons (ev_g hg rfl) evs_nil)) (c_cmpSite _ _) List.nodup_nil)) ?_
          refine calm_g (wT rfl rfl rfl rfl) rfl (fun hg => (eff_icmp rfl (ev_g hg rfl) rfl rfl)) ?_
          refine calm_g (wT rfl rfl rfl rfl) rfl (fun hg => (eff_not rfl (ev_g hg rfl))) ?_
          refine calm_e (w0 rfl) rfl (eff_and rfl rfl rfl (fun h => h)) ?_
          refine .done ?_
          refine aops_nil ?_
          refine awp_cond rfl ?_ ?_
          · intro hc
            have hle : u ≤ v := by have := andL hc; simpa using this
            have hv := andR hc
            refine awp_skip ?_
            refine awp_block ?_
            refine awp_region ?_
            refine aops_e (w0 rfl) rfl (eff_move rfl rfl) ?_
            refine aops_e (w0 rfl) rfl (eff_arith rfl rfl rfl (arith_sub (by first | omega | (simp only [List.length_map]; omega)))) ?_
            refine aops_e (w0 rfl) rfl (eff_assign rfl rfl) ?_
            refine aops_nil ?_
            refine ⟨(v - 1), ⟨by omega, by omega, ⟨hJ4.2.2.lo, fun k h1 h2 => by by_cases e : k = v; rw [e]; exact notT hv; exact hJ4.2.2.hi k (by (try simp only) <;> omega) h2⟩⟩, (by (try simp only) <;> omega), ?_⟩
            exact weak_pick [0] ⟨rfl, (congrArg (fun n => some (iA n)) (by (try simp only) <;> omega)), rfl, rfl, rfl, trivial⟩ rfl (by decide) rfl rfl
          · intro hc
            have hD : v < u ∨ (!sLt (z.1.getD v default) (z.1.getD a default)) = false := by rcases Bool.and_eq_false_iff.1 hc with h | h; exact .inl (by simpa using h); exact .inr h
            refine awp_exit ?_
            refine awp_seq ?_
            refine awp_seq ?_
            refine awp_region ?_
            refine aops_e (w0 rfl) rfl (eff_move rfl rfl) ?_
            refine aops_e (w0 rfl) rfl (eff_move rfl rfl) ?_
            refine aops_e (w0 rfl) rfl (eff_icmp rfl rfl rfl rfl) ?_
            refine aops_nil ?_
            refine awp_cond rfl ?_ ?_
            · intro hc
              have hgt : v < u := by simpa using hc
              refine awp_exit ?_
              refine awp_seq ?_
              refine awp_drawW [0, 0, 0, 0, 0, 0, 48, 112, 0, 0, 768, 1792, 4083, 8179, 16383, 32767] [13, 15] [7, 11] rfl (by kernel_rfl) ?_
              refine wcalm_e (w0 rfl) rfl (eff_move rfl rfl) rfl ?_
              refine wcalm_e (w0 rfl) rfl (eff_move rfl rfl) rfl ?_
              refine wcalm_e (w0 rfl) rfl (eff_move rfl rfl) rfl ?_
              refine wcalm_e (w0 rfl) rfl (eff_move rfl rfl) rfl ?_
              refine wcalm_e (w0 rfl) rfl (eff_move rfl rfl) rfl ?_
              refine wcalm_e (w0 rfl) rfl (eff_move rfl rfl) rfl ?_
              refine wcalm_e (w0 rfl) rfl (eff_indexAddr_ownN a rfl rfl rfl (by first | omega | (simp only [List.length_map]; omega) | (simp only [List.length_map, List.length_drop]; omega)) (by first | omega | (simp only [List.length_map]; omega) | (simp only [List.length_map, List.length_drop]; omega)) (by omega)) rfl ?_
              refine wcalm_load_ptr 0 (w0 rfl) rfl rfl rfl rfl (own_getC (by first | assumption | omega | (simp only [List.length_drop]; omega))) (ld_aggC rfl) rfl rfl ?_
              refine wcalm_e (w0 rfl) rfl (eff_move rfl rfl) rfl ?_
              refine wcalm_e (w0 rfl) rfl (eff_move rfl rfl) rfl ?_
              refine wcalm_e (w0 rfl) rfl (eff_indexAddr_ownN v rfl rfl rfl (by first | omega | (simp only [List.length_map]; omega) | (simp only [List.length_map, List.length_drop]; omega)) (by first | omega | (simp only [List.length_map]; omega) | (simp only [List.length_map, List.length_drop]; omega)) (by omega)) rfl ?_
              refine wcalm_load_ptr 0 (w0 rfl) rfl rfl rfl rfl (own_getC (by first | assumption | omega | (simp only [List.length_drop]; omega))) (ld_aggC rfl) rfl rfl ?_
              refine wcalm_e (w0 rfl) rfl (eff_indexAddr_ownN v rfl rfl rfl (by first | omega | (simp only [List.length_map]; omega) | (simp only [List.length_map, List.length_drop]; omega)) (by first | omega | (simp only [List.length_map]; omega) | (simp only [List.length_map, List.length_drop]; omega)) (by omega)) rfl ?_
              refine wcalm_storeC (f := Site.cells) 0 (fun _ => rfl) (fun _ => rfl) (w0 rfl) rfl rfl rfl rfl (by first | omega | (simp; omega)) rfl rfl ?_
              refine wcalm_e (w0 rfl) rfl (eff_indexAddr_ownN a rfl rfl rfl (by first | omega | (simp only [List.length_map]; omega) | (simp only [List.length_map, List.length_drop]; omega)) (by first | omega | (simp only [List.length_map]; omega) | (simp only [List.length_map, List.length_drop]; omega)) (by omega)) rfl ?_
              refine wcalm_storeC (f := Site.cells) 0 (fun _ => rfl) (fun _ => rfl) (w0 rfl) rfl rfl rfl rfl (by first | omega | (simp; omega)) rfl rfl ?_
              refine .done ?_
              refine awp_seq ?_
              refine awp_region ?_
              refine aops_e (w0 rfl) rfl (eff_move rfl rfl) ?_
              refine aops_e (w0 rfl) rfl (eff_assign rfl rfl) ?_
              refine aops_e (w0 rfl) rfl (eff_assign rfl rfl) ?_
              refine aops_nil ?_
              refine awp_ret ?_
              exact retq_keep rfl (res_tmp rfl (res_tmp rfl res_nil)) (.cons_cons _ .slnil) (gp (swp z.1 v a, v, false) ⟨.step _ _ hJ2.1 (by (try simp only) <;> omega) (by (try simp only) <;> omega) (by (try simp only) <;> omega), by simp only; omega, by simp only; omega, hJ4.2.2.fin (by (try simp only) <;> omega) (by (try simp only) <;> omega) (by (try simp only) <;> omega) (by (try simp only) <;> omega) (by (try simp only) <;> omega)⟩ rfl rfl)
            · intro hc
              have huv : u ≤ v := by simpa using hc
              have hne : u < v := lt_of_parts (f := fun k => sLt (z.1.getD k default) (z.1.getD a default)) (by omega) (hC.resolve_left (by omega)) (notF (hD.resolve_left (by omega)))
              refine awp_skip ?_
              refine awp_seq ?_
              refine awp_drawW [0, 0, 0, 0, 0, 0, 48, 112, 0, 0, 768, 1792, 4083, 8179, 16383, 32767] [13, 15] [7, 11] rfl (by kernel_rfl) ?_
              refine wcalm_e (w0 rfl) rfl (eff_move rfl rfl) rfl ?_
              refine wcalm_e (w0 rfl) rfl (eff_move rfl rfl) rfl ?_
              refine wcalm_e (w0 rfl) rfl (eff_move rfl rfl) rfl ?_
              refine wcalm_e (w0 rfl) rfl (eff_move rfl rfl) rfl ?_
              refine wcalm_e (w0 rfl) rfl (eff_move rfl rfl) rfl ?_
              refine wcalm_e (w0 rfl) rfl (eff_move rfl rfl) rfl ?_
              refine wcalm_e (w0 rfl) rfl (eff_indexAddr_ownN v rfl rfl rfl (by first | omega | (simp only [List.length_map]; omega) | (simp only [List.length_map, List.length_drop]; omega)) (by first | omega | (simp only [List.length_map]; omega) | (simp only [List.length_map, List.length_drop]; omega)) (by omega)) rfl ?_
              refine wcalm_load_ptr 0 (w0 rfl) rfl rfl rfl rfl (own_getC (by first | assumption | omega | (simp only [List.length_drop]; omega))) (ld_aggC rfl) rfl rfl ?_
              refine wcalm_e (w0 rfl) rfl (eff_move rfl rfl) rfl ?_
              refine wcalm_e (w0 rfl) rfl (eff_move rfl rfl) rfl ?_
              refine wcalm_e (w0 rfl) rfl (eff_indexAddr_ownN u rfl rfl rfl (by first | omega | (simp only [List.length_map]; omega) | (simp only [List.length_map, List.length_drop]; omega)) (by first | omega | (simp only [List.length_map]; omega) | (simp only [List.length_map, List.length_drop]; omega)) (by omega)) rfl ?_
              refine wcalm_load_ptr 0 (w0 rfl) rfl rfl rfl rfl (own_getC (by first | assumption | omega | (simp only [List.length_drop]; omega))) (ld_aggC rfl) rfl rfl ?_
              refine wcalm_e (w0 rfl) rfl (eff_indexAddr_ownN u rfl rfl rfl (by first | omega | (simp only [List.length_map]; omega) | (simp only [List.length_map, List.length_drop]; omega)) (by first | omega | (simp only [List.length_map]; omega) | (simp only [List.length_map, List.length_drop]; omega)) (by omega)) rfl ?_
              refine wcalm_storeC (f := Site.cells) 0 (fun _ => rfl) (fun _ => rfl) (w0 rfl) rfl rfl rfl rfl (by first | omega | (simp; omega)) rfl rfl ?_
              refine wcalm_e (w0 rfl) rfl (eff_indexAddr_ownN v rfl rfl rfl (by first | omega | (simp only [List.length_map]; omega) | (simp only [List.length_map, List.length_drop]; omega)) (by first | omega | (simp only [List.length_map]; omega) | (simp only [List.length_map, List.length_drop]; omega)) (by omega)) rfl ?_
              refine wcalm_storeC (f := Site.cells) 0 (fun _ => rfl) (fun _ => rfl) (w0 rfl) rfl rfl rfl rfl (by first | omega | (simp; omega)) rfl rfl ?_
              refine .done ?_
              refine awp_seq ?_
              refine awp_region ?_
              refine aops_e (w0 rfl) rfl (eff_move rfl rfl) ?_
              refine aops_e (w0 rfl) rfl (eff_arith rfl rfl rfl (arith_add (by first | omega | (simp only [List.length_map]; omega)))) ?_
              refine aops_e (w0 rfl) rfl (eff_assign rfl rfl) ?_
              refine aops_nil ?_
              refine awp_region ?_
              refine aops_e (w0 rfl) rfl (eff_move rfl rfl) ?_
              refine aops_e (w0 rfl) rfl (eff_arith rfl rfl rfl (arith_sub (by first | omega | (simp only [List.length_map]; omega)))) ?_
              refine aops_e (w0 rfl) rfl (eff_assign rfl rfl) ?_
              refine aops_nil ?_
              refine ⟨(swp z.1 u v, u + 1, v - 1), ⟨.step _ _ hJ2.1 (by (try simp only) <;> omega) (by (try simp only) <;> omega) (by (try simp only) <;> omega), (by (try simp only) <;> omega), (by (try simp only) <;> omega), (by (try simp only) <;> omega), hJ4.2.2.swap (i := u) (j := v) (by (try simp only) <;> omega) (by (try simp only) <;> omega) (by (try simp only) <;> omega) (by (try simp only) <;> omega) (hC.resolve_left (by (try simp only) <;> omega)) (notF (hD.resolve_left (by (try simp only) <;> omega)))⟩, (by (try simp only) <;> omega), ?_⟩
              exact weak_pick [0] ⟨rfl, (congrArg (fun n => some (iA n)) (by (try simp only) <;> omega)), rfl, rfl, rfl, trivial⟩ rfl (by decide) rfl rfl

theorem c_partEF (q n : Nat) (l : List Site) (hn : l.length = n) (hN : n ≤ 140737488355328) (a b p : Nat) (hap : a ≤ p) (hpb : p < b) (hb : b ≤ n) : ACalls Try.prog 75 [.own q 5 0 n, iA a, iA b, iA p, .fn (.func 26) []] [(q, .rows 26 5 (l.map Site.cells))] (GP (fun r : List Site × Nat => iA r.2) (fun r => [(q, .rows 26 5 (r.1.map Site.cells))]) (fun r => Sw a b l r.1 ∧ a < r.2 ∧ r.2 ≤ b ∧ r.1.getD a default = l.getD p default ∧ ∃ j, r.2 = j + 1 ∧ PartE sLt a b r.2 j r.1)) := by
  have hm0 : Sw a b l (swp l a p) := .step _ _ .refl ⟨Nat.le_refl _, by omega⟩ ⟨hap, hpb⟩ (by omega)
  have hl0 : (swp l a p).length = n := by rw [swp_len]; exact hn
  refine acalls_of (n := 90) Try.func75 rfl (by decide +kernel) rfl rfl ?_
  refine awp_seq ?_
  refine awp_region ?_
  refine aops_e (w0 rfl) rfl (eff_assign rfl rfl) ?_
  refine aops_nil ?_
  refine awp_seq ?_
  refine awp_drawW [0, 0, 0, 0, 0, 0, 48, 112, 0, 0, 768, 1792, 4083, 8179, 16383, 32767] [13, 15] [7, 11] rfl (by kernel_rfl) ?_
  refine wcalm_e (w0 rfl) rfl (eff_move rfl rfl) rfl ?_
  refine wcalm_e (w0 rfl) rfl (eff_move rfl rfl) rfl ?_
  refine wcalm_e (w0 rfl) rfl (eff_move rfl rfl) rfl ?_
  refine wcalm_e (w0 rfl) rfl (eff_move rfl rfl) rfl ?_
  refine wcalm_e (w0 rfl) rfl (eff_move rfl rfl) rfl ?_
  refine wcalm_e (w0 rfl) rfl (eff_move rfl rfl) rfl ?_
  refine wcalm_e (w0 rfl) rfl (eff_indexAddr_ownN p rfl rfl rfl (by first | omega | (simp only [List.length_map]; omega) | (simp only [List.length_map, List.length_drop]; omega)) (by first | omega | (simp only [List.length_map]; omega) | (simp only [List.length_map, List.length_drop]; omega)) (by omega)) rfl ?_
  refine wcalm_load_ptr 0 (w0 rfl) rfl rfl rfl rfl (own_getC (by first | assumption | omega | (simp only [List.length_drop]; omega))) (ld_aggC rfl) rfl rfl ?_
  refine wcalm_e (w0 rfl) rfl (eff_move rfl rfl) rfl ?_
  refine wcalm_e (w0 rfl) rfl (eff_move rfl rfl) rfl ?_
  refine wcalm_e (w0 rfl) rfl (eff_indexAddr_ownN a rfl rfl rfl (by first | omega | (simp only [List.length_map]; omega) | (simp only [List.length_map, List.length_drop]; omega)) (by first | omega | (simp only [List.length_map]; omega) | (simp only [List.length_map, List.length_drop]; omega)) (by omega)) rfl ?_
  refine wcalm_load_ptr 0 (w0 rfl) rfl rfl rfl rfl (own_getC (by first | assumption | omega | (simp only [List.length_drop]; omega))) (ld_aggC rfl) rfl rfl ?_
  refine wcalm_e (w0 rfl) rfl (eff_indexAddr_ownN a rfl rfl rfl (by first | omega | (simp only [List.length_map]; omega) | (simp only [List.length_map, List.length_drop]; omega)) (by first | omega | (simp only [List.length_map]; omega) | (simp only [List.length_map, List.length_drop]; omega)) (by omega)) rfl ?_
  refine wcalm_storeC (f := Site.cells) 0 (fun _ => rfl) (fun _ => rfl) (w0 rfl) rfl rfl rfl rfl (by first | omega | (simp; omega)) rfl rfl ?_
  refine wcalm_e (w0 rfl) rfl (eff_indexAddr_ownN p rfl rfl rfl (by first | omega | (simp only [List.length_map]; omega) | (simp only [List.length_map, List.length_drop]; omega)) (by first | omega | (simp only [List.length_map]; omega) | (simp only [List.length_map, List.length_drop]; omega)) (by omega)) rfl ?_
  refine wcalm_storeC (f := Site.cells) 0 (fun _ => rfl) (fun _ => rfl) (w0 rfl) rfl rfl rfl rfl (by first | omega | (simp; omega)) rfl rfl ?_
  refine .done ?_
  refine awp_seq ?_
  refine awp_region ?_
  refine aops_e (w0 rfl) rfl (eff_move rfl rfl) ?_
  refine aops_e (w0 rfl) rfl (eff_arith rfl rfl rfl (arith_add (by first | omega | (simp only [List.length_map]; omega)))) ?_
  refine aops_e (w0 rfl) rfl (eff_move rfl rfl) ?_
  refine aops_e (w0 rfl) rfl (eff_to (y := iA (b - 1 : Nat)) (eff_arith rfl rfl rfl (arith_sub (by first | omega | (simp only [List.length_map]; omega)))) (congrArg iA (by omega))) ?_
  refine aops_e (w0 rfl) rfl (eff_assign rfl rfl) ?_
  refine aops_e (w0 rfl) rfl (eff_assign rfl rfl) ?_
  refine aops_nil ?_
  refine awp_seq ?_
  refine awp_block ?_
  refine awp_loopJ (α := List Site × Nat × Nat) (fun z => ⟨[(11, iA z.2.1), (12, iA z.2.2), (0, .own q 5 0 n), (1, iA a), (4, .fn (.func 26) [])], [(q, .rows 26 5 (z.1.map Site.cells))], [], 90⟩) (fun z => Sw a b l z.1 ∧ a + 1 ≤ z.2.1 ∧ z.2.1 ≤ z.2.2 + 1 ∧ z.2.2 < b ∧ z.1.getD a default = l.getD p default ∧ PartE sLt a b z.2.1 z.2.2 z.1) (fun z => z.2.2 + 1 - z.2.1) ((swp l a p), a + 1, b - 1) ⟨hm0, (by (try simp only) <;> omega), (by (try simp only) <;> omega), (by (try simp only) <;> omega), swp_i (by omega) (by omega), ⟨fun k h1 h2 => by (try simp only at h1 h2); omega, fun k h1 h2 => by (try simp only at h1 h2); omega⟩⟩ ?_ ?_
  · exact weak_pick [0] ⟨rfl, rfl, rfl, rfl, rfl, trivial⟩ rfl (by decide) rfl rfl
  rintro z hJ2
  have hm2 := hJ2.1.len
  refine awp_block ?_
  refine awp_seq ?_
  refine awp_block ?_
  refine awp_loopJ (α := Nat) (fun u => ⟨[(11, iA u), (12, iA z.2.2), (0, .own q 5 0 n), (1, iA a), (4, .fn (.func 26) [])], [(q, .rows 26 5 (z.1.map Site.cells))], [], 90⟩) (fun u => z.2.1 ≤ u ∧ u ≤ z.2.2 + 1 ∧ PartE sLt a b u z.2.2 z.1) (fun u => b - u) z.2.1 ⟨Nat.le_refl _, hJ2.2.2.1, hJ2.2.2.2.2.2⟩ ?_ ?_
  · exact weak_pick [0] ⟨rfl, rfl, rfl, rfl, rfl, trivial⟩ rfl (by decide) rfl rfl
  rintro u hJ3
  refine awp_seq ?_
  refine awp_seq ?_
  refine awp_drawM [0, 0, 3, 7, 15, 15, 15, 111, 239, 15, 15, 1551, 3599, 8191, 16383, 32767, 65535] 17 rfl (by kernel_rfl) ?_
  refine calm_e (w0 rfl) rfl (eff_move rfl rfl) ?_
  refine calm_e (w0 rfl) rfl (eff_move rfl rfl) ?_
  refine calm_e (w0 rfl) rfl (eff_icmp rfl rfl rfl rfl) ?_
  refine calm_e (w0 rfl) rfl (eff_move rfl rfl) ?_
  refine calm_g (wT rfl rfl rfl rfl) rfl (fun hg => (eff_move rfl rfl)) ?_
  refine calm_g (wT rfl rfl rfl rfl) rfl (fun hg => (eff_move rfl rfl)) ?_
  refine calm_g (wT rfl rfl rfl rfl) rfl (fun hg => (eff_move rfl rfl)) ?_
  refine calm_g (wT rfl rfl rfl rfl) rfl (fun hg => (eff_indexAddr_ownN a rfl (ev_g hg rfl) (ev_g hg rfl) (by (try simp at hg) <;> first | omega | (simp only [List.length_map]; omega) | (simp only [List.length_map, List.length_drop]; omega)) (by (try simp at hg) <;> first | omega | (simp only [List.length_map]; omega) | (simp only [List.length_map, List.length_drop]; omega)) (by omega))) ?_
  refine calm_gloadC (f := Site.cells) 0 (wT rfl rfl rfl rfl) rfl rfl (fun hg => (ev_g hg rfl)) rfl (fun hg => by (try simp at hg) <;> (first | assumption | omega | (simp only [List.length_drop]; omega))) (fun _ => ld_aggC rfl) ?_
  refine calm_g (wT rfl rfl rfl rfl) rfl (fun hg => (eff_move rfl rfl)) ?_
  refine calm_g (wT rfl rfl rfl rfl) rfl (fun hg => (eff_move rfl rfl)) ?_
  refine calm_g (wT rfl rfl rfl rfl) rfl (fun hg => (eff_indexAddr_ownN u rfl (ev_g hg rfl) (ev_g hg rfl) (by (try simp at hg) <;> first | omega | (simp only [List.length_map]; omega) | (simp only [List.length_map, List.length_drop]; omega)) (by (try simp at hg) <;> first | omega | (simp only [List.length_map]; omega) | (simp only [List.length_map, List.length_drop]; omega)) (by omega))) ?_
  refine calm_gloadC (f := Site.cells) 0 (wT rfl rfl rfl rfl) rfl rfl (fun hg => (ev_g hg rfl)) rfl (fun hg => by (try simp at hg) <;> (first | assumption | omega | (simp only [List.length_drop]; omega))) (fun _ => ld_aggC rfl) ?_
  refine calm_g (wT rfl rfl rfl rfl) rfl (fun hg => (eff_call [] rfl (ev_g hg rfl) (evs_cons (ev_g hg rfl) (evs_cons (ev_g hg rfl) evs_nil)) (c_cmpSite _ _) List.nodup_nil)) ?_
  refine calm_g (wT rfl rfl rfl rfl) rfl (fun hg => (eff_icmp rfl (ev_g hg rfl) rfl rfl)) ?_
  refine calm_g (wT rfl rfl rfl rfl) rfl (fun hg => (eff_not rfl (ev_g hg rfl))) ?_
  refine calm_e (w0 rfl) rfl (eff_and rfl rfl rfl (fun h => h)) ?_
  refine .done ?_
  refine aops_nil ?_
  refine awp_cond rfl ?_ ?_
  · intro hc
    have hle : u ≤ z.2.2 := by have := andL hc; simpa using this
    have hv := andR hc
    refine awp_skip ?_
    refine awp_block ?_
    refine awp_region ?_
    refine aops_e (w0 rfl) rfl (eff_move rfl rfl) ?_
    refine aops_e (w0 rfl) rfl (eff_arith rfl rfl rfl (arith_add (by first | omega | (simp only [List.length_map]; omega)))) ?_
    refine aops_e (w0 rfl) rfl (eff_assign rfl rfl) ?_
    refine aops_nil ?_
    refine ⟨(u + 1), ⟨by omega, by omega, ⟨fun k h1 h2 => by rcases Nat.lt_succ_iff_lt_or_eq.1 h2 with h | h; exact hJ3.2.2.lo k h1 h; rw [h]; exact notT hv, hJ3.2.2.hi⟩⟩, (by omega), ?_⟩
    exact weak_pick [0] ⟨rfl, rfl, rfl, rfl, rfl, trivial⟩ rfl (by decide) rfl rfl
  · intro hc
    have hC : z.2.2 < u ∨ (!sLt (z.1.getD a default) (z.1.getD u default)) = false := by rcases Bool.and_eq_false_iff.1 hc with h | h; exact .inl (by simpa using h); exact .inr h
    refine awp_exit ?_
    refine awp_seq ?_
    refine awp_block ?_
    refine awp_loopJ (α := Nat) (fun v => ⟨[(11, iA u), (12, iA v), (0, .own q 5 0 n), (1, iA a), (4, .fn (.func 26) [])], [(q, .rows 26 5 (z.1.map Site.cells))], [], 90⟩) (fun v => v ≤ z.2.2 ∧ u ≤ v + 1 ∧ PartE sLt a b u v z.1) (fun v => v) z.2.2 ⟨Nat.le_refl _, hJ3.2.1, hJ3.2.2⟩ ?_ ?_
    · exact weak_pick [0] ⟨rfl, rfl, rfl, rfl, rfl, trivial⟩ rfl (by decide) rfl rfl
    rintro v hJ4
    refine awp_seq ?_
    refine awp_seq ?_
    refine awp_drawM [0, 0, 3, 7, 15, 15, 15, 111, 239, 15, 15, 1551, 3599, 8191, 16383, 32767] 16 rfl (by kernel_rfl) ?_
    refine calm_e (w0 rfl) rfl (eff_move rfl rfl) ?_
    refine calm_e (w0 rfl) rfl (eff_move rfl rfl) ?_
    refine calm_e (w0 rfl) rfl (eff_icmp rfl rfl rfl rfl) ?_
    refine calm_e (w0 rfl) rfl (eff_move rfl rfl) ?_
    refine calm_g (wT rfl rfl rfl rfl) rfl (fun hg => (eff_move rfl rfl)) ?_
    refine calm_g (wT rfl rfl rfl rfl) rfl (fun hg => (eff_move rfl rfl)) ?_
    refine calm_g (wT rfl rfl rfl rfl) rfl (fun hg => (eff_move rfl rfl)) ?_
    refine calm_g (wT rfl rfl rfl rfl) rfl (fun hg => (eff_indexAddr_ownN a rfl (ev_g hg rfl) (ev_g hg rfl) (by (try simp at hg) <;> first | omega | (simp only [List.length_map]; omega) | (simp only [List.length_map, List.length_drop]; omega)) (by (try simp at hg) <;> first | omega | (simp only [List.length_map]; omega) | (simp only [List.length_map, List.length_drop]; omega)) (by omega))) ?_
    refine calm_gloadC (f := Site.cells) 0 (wT rfl rfl rfl rfl) rfl rfl (fun hg => (ev_g hg rfl)) rfl (fun hg => by (try simp at hg) <;> (first | assumption | omega | (simp only [List.length_drop]; omega))) (fun _ => ld_aggC rfl) ?_
    refine calm_g (wT rfl rfl rfl rfl) rfl (fun hg => (eff_move rfl rfl)) ?_
    refine calm_g (wT rfl rfl rfl rfl) rfl (fun hg => (eff_move rfl rfl)) ?_
    refine calm_g (wT rfl rfl rfl rfl) rfl (fun hg => (eff_indexAddr_ownN v rfl (ev_g hg rfl) (ev_g hg rfl) (by (try simp at hg) <;> first | omega | (simp only [List.length_map]; omega) | (simp only [List.length_map, List.length_drop]; omega)) (by (try simp at hg) <;> first | omega | (simp only [List.length_map]; omega) | (simp only [List.length_map, List.length_drop]; omega)) (by omega))) ?_
    refine calm_gloadC (f := Site.cells) 0 (wT rfl rfl rfl rfl) rfl rfl (fun hg => (ev_g hg rfl)) rfl (fun hg => by (try simp at hg) <;> (first | assumption | omega | (simp only [List.length_drop]; omega))) (fun _ => ld_aggC rfl) ?_
    refine calm_g (wT rfl rfl rfl rfl) rfl (fun hg => (eff_call [] rfl (ev_g hg rfl) (evs_cons (ev_g hg rfl) (evs_cons (ev_g hg rfl) evs_nil)) (c_cmpSite _ _) List.nodup_nil)) ?_
    refine calm_g (wT rfl rfl rfl rfl) rfl (fun hg => (eff_icmp rfl (ev_g hg rfl) rfl rfl)) ?_
    refine calm_e (w0 rfl) rfl (eff_and rfl rfl rfl (fun h => h)) ?_
    refine .done ?_
    refine aops_nil ?_
    refine awp_cond rfl ?_ ?_
    · intro hc
      have hle : u ≤ v := by have := andL hc; simpa using this
      have hv := andR hc
      refine awp_skip ?_
      refine awp_block ?_
      refine awp_region ?_
      refine aops_e (w0 rfl) rfl (eff_move rfl rfl) ?_
      refine aops_e (w0 rfl) rfl (eff_arith rfl rfl rfl (arith_sub (by first | omega | (simp only [List.length_map]; omega)))) ?_
      refine aops_e (w0 rfl) rfl (eff_assign rfl rfl) ?_
      refine aops_nil ?_
      refine ⟨(v - 1), ⟨by omega, by omega, ⟨hJ4.2.2.lo, fun k h1 h2 => by by_cases e : k = v; rw [e]; exact hv; exact hJ4.2.2.hi k (by omega) h2⟩⟩, (by omega), ?_⟩
      exact weak_pick [0] ⟨rfl, (congrArg (fun n => some (iA n)) (by omega)), rfl, rfl, rfl, trivial⟩ rfl (by decide) rfl rfl
    · intro hc
      have hD : v < u ∨ sLt (z.1.getD a default) (z.1.getD v default) = false := by rcases Bool.and_eq_false_iff.1 hc with h | h; exact .inl (by simpa using h); exact .inr h
      refine awp_exit ?_
      refine awp_seq ?_
      refine awp_seq ?_
      refine awp_region ?_
      refine aops_e (w0 rfl) rfl (eff_move rfl rfl) ?_
      refine aops_e (w0 rfl) rfl (eff_move rfl rfl) ?_
      refine aops_e (w0 rfl) rfl (eff_icmp rfl rfl rfl rfl) ?_
      refine aops_nil ?_
      refine awp_cond rfl ?_ ?_
      · intro hc
        have hgt : v < u := by simpa using hc
        refine awp_exit ?_
        refine awp_seq ?_
        refine awp_region ?_
        refine aops_e (w0 rfl) rfl (eff_move rfl rfl) ?_
        refine aops_e (w0 rfl) rfl (eff_assign rfl rfl) ?_
        refine aops_nil ?_
        refine awp_ret ?_
        exact retq_keep rfl (res_tmp rfl res_nil) (.cons_cons _ .slnil) (gp (z.1, u) ⟨hJ2.1, (by (try simp only) <;> omega), (by (try simp only) <;> omega), hJ2.2.2.2.2.1, v, (by (try simp only) <;> omega), hJ4.2.2⟩ rfl rfl)
      · intro hc
        have huv : u ≤ v := by simpa using hc
        have hne : u < v := lt_of_parts' (f := fun k => sLt (z.1.getD a default) (z.1.getD k default)) (by omega) (notF (hC.resolve_left (by omega))) (hD.resolve_left (by omega))
        refine awp_skip ?_
        refine awp_seq ?_
        refine awp_drawW [0, 0, 0, 0, 0, 0, 48, 112, 0, 0, 768, 1792, 4083, 8179, 16383, 32767] [13, 15] [7, 11] rfl (by kernel_rfl) ?_
        refine wcalm_e (w0 rfl) rfl (eff_move rfl rfl) rfl ?_
        refine wcalm_e (w0 rfl) rfl (eff_move rfl rfl) rfl ?_
        refine wcalm_e (w0 rfl) rfl (eff_move rfl rfl) rfl ?_
        refine wcalm_e (w0 rfl) rfl (eff_move rfl rfl) rfl ?_
        refine wcalm_e (w0 rfl) rfl (eff_move rfl rfl) rfl ?_
        refine wcalm_e (w0 rfl) rfl (eff_move rfl rfl) rfl ?_
        refine wcalm_e (w0 rfl) rfl (eff_indexAddr_ownN v rfl rfl rfl (by first | omega | (simp only [List.length_map]; omega) | (simp only [List.length_map, List.length_drop]; omega)) (by first | omega | (simp only [List.length_map]; omega) | (simp only [List.length_map, List.length_drop]; omega)) (by omega)) rfl ?_
        refine wcalm_load_ptr 0 (w0 rfl) rfl rfl rfl rfl (own_getC (by first | assumption | omega | (simp only [List.length_drop]; omega))) (ld_aggC rfl) rfl rfl ?_
        refine wcalm_e (w0 rfl) rfl (eff_move rfl rfl) rfl ?_
        refine wcalm_e (w0 rfl) rfl (eff_move rfl rfl) rfl ?_
        refine wcalm_e (w0 rfl) rfl (eff_indexAddr_ownN u rfl rfl rfl (by first | omega | (simp only [List.length_map]; omega) | (simp only [List.length_map, List.length_drop]; omega)) (by first | omega | (simp only [List.length_map]; omega) | (simp only [List.length_map, List.length_drop]; omega)) (by omega)) rfl ?_
        refine wcalm_load_ptr 0 (w0 rfl) rfl rfl rfl rfl (own_getC (by first | assumption | omega | (simp only [List.length_drop]; omega))) (ld_aggC rfl) rfl rfl ?_
        refine wcalm_e (w0 rfl) rfl (eff_indexAddr_ownN u rfl rfl rfl (by first | omega | (simp only [List.length_map]; omega) | (simp only [List.length_map, List.length_drop]; omega)) (by first | omega | (simp only [List.length_map]; omega) | (simp only [List.length_map, List.length_drop]; omega)) (by omega)) rfl ?_
        refine wcalm_storeC (f := Site.cells) 0 (fun _ => rfl) (fun _ => rfl) (w0 rfl) rfl rfl rfl rfl (by first | omega | (simp; omega)) rfl rfl ?_
        refine wcalm_e (w0 rfl) rfl (eff_indexAddr_ownN v rfl rfl rfl (by first | omega | (simp only [List.length_map]; omega) | (simp only [List.length_map, List.length_drop]; omega)) (by first | omega | (simp only [List.length_map]; omega) | (simp only [List.length_map, List.length_drop]; omega)) (by omega)) rfl ?_
        refine wcalm_storeC (f := Site.cells) 0 (fun _ => rfl) (fun _ => rfl) (w0 rfl) rfl rfl rfl rfl (by first | omega | (simp; omega)) rfl rfl ?_
        refine .done ?_
        refine awp_seq ?_
        refine awp_region ?_
        refine aops_e (w0 rfl) rfl (eff_move rfl rfl) ?_
        refine aops_e (w0 rfl) rfl (eff_arith rfl rfl rfl (arith_add (by first | omega | (simp only [List.length_map]; omega)))) ?_
        refine aops_e (w0 rfl) rfl (eff_assign rfl rfl) ?_
        refine aops_nil ?_
        refine awp_region ?_
        refine aops_e (w0 rfl) rfl (eff_move rfl rfl) ?_
        refine aops_e (w0 rfl) rfl (eff_arith rfl rfl rfl (arith_sub (by first | omega | (simp only [List.length_map]; omega)))) ?_
        refine aops_e (w0 rfl) rfl (eff_assign rfl rfl) ?_
        refine aops_nil ?_
        refine ⟨(swp z.1 u v, u + 1, v - 1), ⟨.step _ _ hJ2.1 (by (try simp only) <;> omega) (by (try simp only) <;> omega) (by (try simp only) <;> omega), (by (try simp only) <;> omega), (by (try simp only) <;> omega), (by (try simp only) <;> omega), (swp_o (by (try simp only) <;> omega) (by (try simp only) <;> omega) (by (try simp only) <;> omega) (by (try simp only) <;> omega)).trans hJ2.2.2.2.2.1, hJ4.2.2.swap (i := u) (j := v) (by (try simp only) <;> omega) (by (try simp only) <;> omega) (by (try simp only) <;> omega) (by (try simp only) <;> omega) (notF (hC.resolve_left (by (try simp only) <;> omega))) (hD.resolve_left (by (try simp only) <;> omega))⟩, (by (try simp only) <;> omega), ?_⟩
        exact weak_pick [0] ⟨rfl, (congrArg (fun n => some (iA n)) (by (try simp only) <;> omega)), rfl, rfl, rfl, trivial⟩ rfl (by decide) rfl rfl

theorem c_revF (q n : Nat) (l : List Site) (hn : l.length = n) (hN : n ≤ 140737488355328) (a b : Nat) (ha : a < b) (hb : b ≤ n) : ACalls Try.prog 73 [.own q 5 0 n, iA a, iA b, .fn (.func 26) []] [(q, .rows 26 5 (l.map Site.cells))] (GP (fun _ : List Site => mkRes []) (fun m => [(q, .rows 26 5 (m.map Site.cells))]) (fun m => Sw a b l m)) := by
  refine acalls_of (n := 34) Try.func73 rfl (by decide +kernel) rfl rfl ?_
  refine awp_seq ?_
  refine awp_region ?_
  refine aops_e (w0 rfl) rfl (eff_move rfl rfl) ?_
  refine aops_e (w0 rfl) rfl (eff_assign rfl rfl) ?_
  refine aops_nil ?_
  refine awp_seq ?_
  refine awp_region ?_
  refine aops_e (w0 rfl) rfl (eff_move rfl rfl) ?_
  refine aops_e (w0 rfl) rfl (eff_to (y := iA (b - 1 : Nat)) (eff_arith rfl rfl rfl (arith_sub (by first | omega | (simp only [List.length_map]; omega)))) (congrArg iA (by omega))) ?_
  refine aops_e (w0 rfl) rfl (eff_assign rfl rfl) ?_
  refine aops_nil ?_
  refine awp_block ?_
  refine awp_loopJ (α := List Site × Nat × Nat) (fun z => ⟨[(8, iA z.2.1), (9, iA z.2.2), (0, .own q 5 0 n), (3, .fn (.func 26) [])], [(q, .rows 26 5 (z.1.map Site.cells))], [], 34⟩) (fun z => Sw a b l z.1 ∧ a ≤ z.2.1 ∧ z.2.2 < b) (fun z => z.2.2 - z.2.1) (l, a, b - 1) ⟨.refl, (by (try simp only) <;> omega), (by (try simp only) <;> omega)⟩ ?_ ?_
  · exact weak_pick [0] ⟨rfl, rfl, rfl, rfl, trivial⟩ rfl (by decide) rfl rfl
  rintro z hJ
  have hm := hJ.1.len
  refine awp_seq ?_
  refine awp_seq ?_
  refine awp_region ?_
  refine aops_e (w0 rfl) rfl (eff_move rfl rfl) ?_
  refine aops_e (w0 rfl) rfl (eff_move rfl rfl) ?_
  refine aops_e (w0 rfl) rfl (eff_icmp rfl rfl rfl rfl) ?_
  refine aops_nil ?_
  refine awp_cond rfl ?_ ?_
  · intro hc
    have hlt : z.2.1 < z.2.2 := by simpa using hc
    refine awp_skip ?_
    refine awp_block ?_
    refine awp_seq ?_
    refine awp_drawW [0, 0, 0, 0, 0, 0, 48, 112, 0, 0, 768, 1792, 4083, 8179, 16383, 32767] [13, 15] [7, 11] rfl (by kernel_rfl) ?_
    refine wcalm_e (w0 rfl) rfl (eff_move rfl rfl) rfl ?_
    refine wcalm_e (w0 rfl) rfl (eff_move rfl rfl) rfl ?_
    refine wcalm_e (w0 rfl) rfl (eff_move rfl rfl) rfl ?_
    refine wcalm_e (w0 rfl) rfl (eff_move rfl rfl) rfl ?_
    refine wcalm_e (w0 rfl) rfl (eff_move rfl rfl) rfl ?_
    refine wcalm_e (w0 rfl) rfl (eff_move rfl rfl) rfl ?_
    refine wcalm_e (w0 rfl) rfl (eff_indexAddr_ownN z.2.2 rfl rfl rfl (by first | omega | (simp only [List.length_map]; omega) | (simp only [List.length_map, List.length_drop]; omega)) (by first | omega | (simp only [List.length_map]; omega) | (simp only [List.length_map, List.length_drop]; omega)) (by omega)) rfl ?_
    refine wcalm_load_ptr 0 (w0 rfl) rfl rfl rfl rfl (own_getC (by first | assumption | omega | (simp only [List.length_drop]; omega))) (ld_aggC rfl) rfl rfl ?_
    refine wcalm_e (w0 rfl) rfl (eff_move rfl rfl) rfl ?_
    refine wcalm_e (w0 rfl) rfl (eff_move rfl rfl) rfl ?_
    refine wcalm_e (w0 rfl) rfl (eff_indexAddr_ownN z.2.1 rfl rfl rfl (by first | omega | (simp only [List.length_map]; omega) | (simp only [List.length_map, List.length_drop]; omega)) (by first | omega | (simp only [List.length_map]; omega) | (simp only [List.length_map, List.length_drop]; omega)) (by omega)) rfl ?_
    refine wcalm_load_ptr 0 (w0 rfl) rfl rfl rfl rfl (own_getC (by first | assumption | omega | (simp only [List.length_drop]; omega))) (ld_aggC rfl) rfl rfl ?_
    refine wcalm_e (w0 rfl) rfl (eff_indexAddr_ownN z.2.1 rfl rfl rfl (by first | omega | (simp only [List.length_map]; omega) | (simp only [List.length_map, List.length_drop]; omega)) (by first | omega | (simp only [List.length_map]; omega) | (simp only [List.length_map, List.length_drop]; omega)) (by omega)) rfl ?_
    refine wcalm_storeC (f := Site.cells) 0 (fun _ => rfl) (fun _ => rfl) (w0 rfl) rfl rfl rfl rfl (by first | omega | (simp; omega)) rfl rfl ?_
    refine wcalm_e (w0 rfl) rfl (eff_indexAddr_ownN z.2.2 rfl rfl rfl (by first | omega | (simp only [List.length_map]; omega) | (simp only [List.length_map, List.length_drop]; omega)) (by first | omega | (simp only [List.length_map]; omega) | (simp only [List.length_map, List.length_drop]; omega)) (by omega)) rfl ?_
    refine wcalm_storeC (f := Site.cells) 0 (fun _ => rfl) (fun _ => rfl) (w0 rfl) rfl rfl rfl rfl (by first | omega | (simp; omega)) rfl rfl ?_
    refine .done ?_
    refine awp_seq ?_
    refine awp_region ?_
    refine aops_e (w0 rfl) rfl (eff_move rfl rfl) ?_
    refine aops_e (w0 rfl) rfl (eff_arith rfl rfl rfl (arith_add (by first | omega | (simp only [List.length_map]; omega)))) ?_
    refine aops_e (w0 rfl) rfl (eff_assign rfl rfl) ?_
    refine aops_nil ?_
    refine awp_region ?_
    refine aops_e (w0 rfl) rfl (eff_move rfl rfl) ?_
    refine aops_e (w0 rfl) rfl (eff_arith rfl rfl rfl (arith_sub (by first | omega | (simp only [List.length_map]; omega)))) ?_
    refine aops_e (w0 rfl) rfl (eff_assign rfl rfl) ?_
    refine aops_nil ?_
    refine ⟨(swp z.1 z.2.1 z.2.2, z.2.1 + 1, z.2.2 - 1), ⟨.step _ _ hJ.1 (by (try simp only) <;> omega) (by (try simp only) <;> omega) (by (try simp only) <;> omega), (by (try simp only) <;> omega), (by (try simp only) <;> omega)⟩, (by (try simp only) <;> omega), ?_⟩
    exact weak_pick [0] ⟨rfl, (congrArg (fun n => some (iA n)) (by (try simp only) <;> omega)), rfl, rfl, trivial⟩ rfl (by decide) rfl rfl
  · intro hc
    refine awp_exit ?_
    exact retq_keep rfl res_nil (.cons_cons _ .slnil) (gp z.1 hJ.1 rfl rfl)

theorem c_order2F (q si n : Nat) (l : List Site) (hn : l.length = n) (c : Int) (a b : Nat) (ha : a < n) (hb : b < n) : ACalls Try.prog 87 [.own q 5 0 n, iA a, iA b, .ptr si 1 0 0, .fn (.func 26) []] [(q, .rows 26 5 (l.map Site.cells)), (si, .rows 3 1 [[iA c]])] (GP (fun r : Nat × Nat × Int => .tup [iA r.1, iA r.2.1]) (fun r => [(q, .rows 26 5 (l.map Site.cells)), (si, .rows 3 1 [[iA r.2.2]])]) (fun r => (r.1 = a ∧ r.2.1 = b) ∨ (r.1 = b ∧ r.2.1 = a))) := by
  refine acalls_of (n := 32) Try.func87 rfl (by decide +kernel) rfl rfl ?_
  refine awp_seq ?_
  refine awp_region ?_
  refine aops_e (w0 rfl) rfl (eff_assign rfl rfl) ?_
  refine aops_e (w0 rfl) rfl (eff_assign rfl rfl) ?_
  refine aops_nil ?_
  refine awp_seq ?_
  refine awp_seq ?_
  refine awp_drawN 11 rfl (by kernel_rfl) ?_
  refine calm_e (w0 rfl) rfl (eff_move rfl rfl) ?_
  refine calm_e (w0 rfl) rfl (eff_move rfl rfl) ?_
  refine calm_e (w0 rfl) rfl (eff_move rfl rfl) ?_
  refine calm_e (w0 rfl) rfl (eff_indexAddr_ownN b rfl rfl rfl (by first | omega | (simp only [List.length_map]; omega) | (simp only [List.length_map, List.length_drop]; omega)) (by first | omega | (simp only [List.length_map]; omega) | (simp only [List.length_map, List.length_drop]; omega)) (by omega)) ?_
  refine calm_load_ptr 0 (w0 rfl) rfl rfl rfl rfl (own_getC (by first | assumption | omega | (simp only [List.length_drop]; omega))) (ld_aggC rfl) ?_
  refine calm_e (w0 rfl) rfl (eff_move rfl rfl) ?_
  refine calm_e (w0 rfl) rfl (eff_move rfl rfl) ?_
  refine calm_e (w0 rfl) rfl (eff_indexAddr_ownN a rfl rfl rfl (by first | omega | (simp only [List.length_map]; omega) | (simp only [List.length_map, List.length_drop]; omega)) (by first | omega | (simp only [List.length_map]; omega) | (simp only [List.length_map, List.length_drop]; omega)) (by omega)) ?_
  refine calm_load_ptr 0 (w0 rfl) rfl rfl rfl rfl (own_getC (by first | assumption | omega | (simp only [List.length_drop]; omega))) (ld_aggC rfl) ?_
  refine calm_e (w0 rfl) rfl (eff_call [] rfl rfl rfl (c_cmpSite _ _) List.nodup_nil) ?_
  refine calm_e (w0 rfl) rfl (eff_icmp rfl rfl rfl rfl) ?_
  refine .done ?_
  refine aops_nil ?_
  refine awp_cond rfl ?_ ?_
  · intro hc
    refine awp_seq ?_
    refine awp_region ?_
    refine aops_e (w0 rfl) rfl (eff_move rfl rfl) ?_
    refine aops_e (w0 rfl) rfl (eff_nilCheck rfl rfl rfl) ?_
    refine aops_load_ptr 1 (w0 rfl) rfl rfl rfl rfl rfl ld_one ?_
    refine aops_e (w0 rfl) rfl (eff_arith rfl rfl rfl rfl) ?_
    refine aops_e (w0 rfl) rfl (eff_nilCheck rfl rfl rfl) ?_
    refine aops_store 1 (w0 rfl) rfl rfl rfl rfl rfl rfl rfl rfl rfl ?_
    refine aops_nil ?_
    refine awp_seq ?_
    refine awp_region ?_
    refine aops_e (w0 rfl) rfl (eff_move rfl rfl) ?_
    refine aops_e (w0 rfl) rfl (eff_move rfl rfl) ?_
    refine aops_e (w0 rfl) rfl (eff_assign rfl rfl) ?_
    refine aops_e (w0 rfl) rfl (eff_assign rfl rfl) ?_
    refine aops_nil ?_
    refine awp_ret ?_
    exact retq_keep rfl (res_tmp rfl (res_tmp rfl res_nil)) (.cons_cons _ (.cons_cons _ .slnil)) (gp (b, a, _) (.inr ⟨rfl, rfl⟩) rfl rfl)
  · intro hc
    refine awp_skip ?_
    refine awp_seq ?_
    refine awp_region ?_
    refine aops_e (w0 rfl) rfl (eff_move rfl rfl) ?_
    refine aops_e (w0 rfl) rfl (eff_move rfl rfl) ?_
    refine aops_e (w0 rfl) rfl (eff_assign rfl rfl) ?_
    refine aops_e (w0 rfl) rfl (eff_assign rfl rfl) ?_
    refine aops_nil ?_
    refine awp_ret ?_
    exact retq_keep rfl (res_tmp rfl (res_tmp rfl res_nil)) (.cons_cons _ (.cons_cons _ .slnil)) (gp (a, b, _) (.inl ⟨rfl, rfl⟩) rfl rfl)

theorem c_medianF (q si n : Nat) (l : List Site) (hn : l.length = n) (hN : n ≤ 140737488355328) (c : Int) (a b d : Nat) (ha : a < n) (hb : b < n) (hd : d < n) : ACalls Try.prog 84 [.own q 5 0 n, iA a, iA b, iA d, .ptr si 1 0 0, .fn (.func 26) []] [(q, .rows 26 5 (l.map Site.cells)), (si, .rows 3 1 [[iA c]])] (GP (fun r : Nat × Int => iA r.1) (fun r => [(q, .rows 26 5 (l.map Site.cells)), (si, .rows 3 1 [[iA r.2]])]) (fun r => r.1 = a ∨ r.1 = b ∨ r.1 = d)) := by
  refine acalls_of (n := 41) Try.func84 rfl (by decide +kernel) rfl rfl ?_
  refine awp_seq ?_
  refine awp_region ?_
  refine aops_e (w0 rfl) rfl (eff_assign rfl rfl) ?_
  refine aops_nil ?_
  refine awp_seq ?_
  refine awp_region ?_
  refine aops_e (w0 rfl) rfl (eff_move rfl rfl) ?_
  refine aops_e (w0 rfl) rfl (eff_move rfl rfl) ?_
  refine aops_e (w0 rfl) rfl (eff_move rfl rfl) ?_
  refine aops_e (w0 rfl) rfl (eff_move rfl rfl) ?_
  refine aops_e (w0 rfl) rfl (eff_move rfl rfl) ?_
  refine aops_callP [_, _] _ (w0 rfl) rfl rfl rfl rfl (perm_get2 (k := 0) (j := 0) rfl rfl) (c_order2F q si n l hn _ _ _ (by omega) (by omega)) (fun v1 hv1 => ?_)
  refine aops_e (w0 rfl) rfl (eff_move rfl rfl) ?_
  refine aops_e (w0 rfl) rfl (eff_extract rfl rfl rfl) ?_
  refine aops_e (w0 rfl) rfl (eff_extract rfl rfl rfl) ?_
  refine aops_e (w0 rfl) rfl (eff_assign rfl rfl) ?_
  refine aops_e (w0 rfl) rfl (eff_assign rfl rfl) ?_
  refine aops_nil ?_
  refine awp_seq ?_
  refine awp_region ?_
  refine aops_e (w0 rfl) rfl (eff_move rfl rfl) ?_
  refine aops_e (w0 rfl) rfl (eff_move rfl rfl) ?_
  refine aops_e (w0 rfl) rfl (eff_move rfl rfl) ?_
  refine aops_e (w0 rfl) rfl (eff_move rfl rfl) ?_
  refine aops_e (w0 rfl) rfl (eff_move rfl rfl) ?_
  refine aops_callP [_, _] _ (w0 rfl) rfl rfl rfl rfl (perm_get2 (k := 0) (j := 0) rfl rfl) (c_order2F q si n l hn _ _ _ (by omega) (by omega)) (fun v2 hv2 => ?_)
  refine aops_e (w0 rfl) rfl (eff_move rfl rfl) ?_
  refine aops_e (w0 rfl) rfl (eff_extract rfl rfl rfl) ?_
  refine aops_e (w0 rfl) rfl (eff_extract rfl rfl rfl) ?_
  refine aops_e (w0 rfl) rfl (eff_assign rfl rfl) ?_
  refine aops_e (w0 rfl) rfl (eff_assign rfl rfl) ?_
  refine aops_nil ?_
  refine awp_seq ?_
  refine awp_region ?_
  refine aops_e (w0 rfl) rfl (eff_move rfl rfl) ?_
  refine aops_e (w0 rfl) rfl (eff_move rfl rfl) ?_
  refine aops_e (w0 rfl) rfl (eff_move rfl rfl) ?_
  refine aops_e (w0 rfl) rfl (eff_move rfl rfl) ?_
  refine aops_e (w0 rfl) rfl (eff_move rfl rfl) ?_
  refine aops_callP [_, _] _ (w0 rfl) rfl rfl rfl rfl (perm_get2 (k := 0) (j := 0) rfl rfl) (c_order2F q si n l hn _ _ _ (by omega) (by omega)) (fun v3 hv3 => ?_)
  refine aops_e (w0 rfl) rfl (eff_move rfl rfl) ?_
  refine aops_e (w0 rfl) rfl (eff_extract rfl rfl rfl) ?_
  refine aops_e (w0 rfl) rfl (eff_extract rfl rfl rfl) ?_
  refine aops_e (w0 rfl) rfl (eff_assign rfl rfl) ?_
  refine aops_e (w0 rfl) rfl (eff_assign rfl rfl) ?_
  refine aops_nil ?_
  refine awp_seq ?_
  refine awp_region ?_
  refine aops_e (w0 rfl) rfl (eff_move rfl rfl) ?_
  refine aops_e (w0 rfl) rfl (eff_assign rfl rfl) ?_
  refine aops_nil ?_
  refine awp_ret ?_
  exact retq_keep rfl (res_tmp rfl res_nil) (.cons_cons _ (.cons_cons _ .slnil)) (gp (v3.2.1, _) (by (try simp only) <;> omega) rfl rfl)

theorem c_medAdjF (q si n : Nat) (l : List Site) (hn : l.length = n) (hN : n ≤ 140737488355328) (c : Int) (a : Nat) (h1 : 1 ≤ a) (ha : a + 1 < n) : ACalls Try.prog 83 [.own q 5 0 n, iA a, .ptr si 1 0 0, .fn (.func 26) []] [(q, .rows 26 5 (l.map Site.cells)), (si, .rows 3 1 [[iA c]])] (GP (fun r : Nat × Int => iA r.1) (fun r => [(q, .rows 26 5 (l.map Site.cells)), (si, .rows 3 1 [[iA r.2]])]) (fun r => r.1 + 1 = a ∨ r.1 = a ∨ r.1 = a + 1)) := by
  refine acalls_of (n := 18) Try.func83 rfl (by decide +kernel) rfl rfl ?_
  refine awp_seq ?_
  refine awp_region ?_
  refine aops_e (w0 rfl) rfl (eff_assign rfl rfl) ?_
  refine aops_nil ?_
  refine awp_seq ?_
  refine awp_region ?_
  refine aops_e (w0 rfl) rfl (eff_move rfl rfl) ?_
  refine aops_e (w0 rfl) rfl (eff_move rfl rfl) ?_
  refine aops_e (w0 rfl) rfl (eff_to (y := iA (a - 1 : Nat)) (eff_arith rfl rfl rfl (arith_sub (by first | omega | (simp only [List.length_map]; omega)))) (congrArg iA (by omega))) ?_
  refine aops_e (w0 rfl) rfl (eff_move rfl rfl) ?_
  refine aops_e (w0 rfl) rfl (eff_move rfl rfl) ?_
  refine aops_e (w0 rfl) rfl (eff_arith rfl rfl rfl (arith_add (by first | omega | (simp only [List.length_map]; omega)))) ?_
  refine aops_e (w0 rfl) rfl (eff_move rfl rfl) ?_
  refine aops_e (w0 rfl) rfl (eff_move rfl rfl) ?_
  refine aops_callP [_, _] _ (w0 rfl) rfl rfl rfl rfl (perm_get2 (k := 0) (j := 0) rfl rfl) (c_medianF q si n l hn hN _ (a - 1) a (a + 1) (by omega) (by omega) (by omega)) (fun v1 hv1 => ?_)
  refine aops_e (w0 rfl) rfl (eff_assign rfl rfl) ?_
  refine aops_nil ?_
  refine awp_ret ?_
  exact retq_keep rfl (res_tmp rfl res_nil) (.cons_cons _ (.cons_cons _ .slnil)) (gp (v1.1, _) (by (try simp only) <;> omega) rfl rfl)

theorem c_pivotF (q n : Nat) (l : List Site) (hn : l.length = n) (hN : n ≤ 140737488355328) (a b : Nat) (hab : a + 12 < b) (hb : b ≤ n) : ACalls Try.prog 72 [.own q 5 0 n, iA a, iA b, .fn (.func 26) []] [(q, .rows 26 5 (l.map Site.cells))] (GP (fun r : Nat × Int => .tup [iA r.1, iA r.2]) (fun r => [(q, .rows 26 5 (l.map Site.cells))]) (fun r => a ≤ r.1 ∧ r.1 < b)) := by
  refine acalls_of (n := 63) Try.func72 rfl (by decide +kernel) rfl rfl ?_
  refine awp_seq ?_
  refine awp_region ?_
  refine aops_e (w0 rfl) rfl (eff_assign rfl rfl) ?_
  refine aops_e (w0 rfl) rfl (eff_assign rfl rfl) ?_
  refine aops_nil ?_
  refine awp_seq ?_
  refine awp_region ?_
  refine aops_e (w0 rfl) rfl (eff_move rfl rfl) ?_
  refine aops_e (w0 rfl) rfl (eff_move rfl rfl) ?_
  refine aops_e (w0 rfl) rfl (eff_to (y := iA (b - a : Nat)) (eff_arith rfl rfl rfl (arith_sub (by first | omega | (simp only [List.length_map]; omega)))) (congrArg iA (by omega))) ?_
  refine aops_e (w0 rfl) rfl (eff_assign rfl rfl) ?_
  refine aops_nil ?_
  refine awp_seq ?_
  refine awp_region ?_
  refine aops_n (w0 rfl) rfl (fun id => eff_alloc id rfl rfl rfl) (fun id1 => ?_)
  refine aops_nil ?_
  refine awp_seq ?_
  refine awp_region ?_
  refine aops_e (w0 rfl) rfl (eff_move rfl rfl) ?_
  refine aops_e (w0 rfl) rfl (eff_move rfl rfl) ?_
  refine aops_e (w0 rfl) rfl (eff_to (y := iA ((b - a) / 4 : Nat)) (eff_quo rfl rfl rfl (by decide) (tdivN_ok (b - a) 4 (by omega))) (congrArg iA (tdivN (b - a) 4))) ?_
  refine aops_e (w0 rfl) rfl (eff_arith rfl rfl rfl (arith_mul (by first | omega | (simp only [List.length_map]; omega)))) ?_
  refine aops_e (w0 rfl) rfl (eff_to (y := iA (a + (b - a) / 4 * 1 : Nat)) (eff_arith rfl rfl rfl (arith_add (by first | omega | (simp only [List.length_map]; omega)))) (congrArg iA (by omega))) ?_
  refine aops_e (w0 rfl) rfl (eff_assign rfl rfl) ?_
  refine aops_nil ?_
  refine awp_seq ?_
  refine awp_region ?_
  refine aops_e (w0 rfl) rfl (eff_move rfl rfl) ?_
  refine aops_e (w0 rfl) rfl (eff_move rfl rfl) ?_
  refine aops_e (w0 rfl) rfl (eff_to (y := iA ((b - a) / 4 : Nat)) (eff_quo rfl rfl rfl (by decide) (tdivN_ok (b - a) 4 (by omega))) (congrArg iA (tdivN (b - a) 4))) ?_
  refine aops_e (w0 rfl) rfl (eff_arith rfl rfl rfl (arith_mul (by first | omega | (simp only [List.length_map]; omega)))) ?_
  refine aops_e (w0 rfl) rfl (eff_to (y := iA (a + (b - a) / 4 * 2 : Nat)) (eff_arith rfl rfl rfl (arith_add (by first | omega | (simp only [List.length_map]; omega)))) (congrArg iA (by omega))) ?_
  refine aops_e (w0 rfl) rfl (eff_assign rfl rfl) ?_
  refine aops_nil ?_
  refine awp_seq ?_
  refine awp_region ?_
  refine aops_e (w0 rfl) rfl (eff_move rfl rfl) ?_
  refine aops_e (w0 rfl) rfl (eff_move rfl rfl) ?_
  refine aops_e (w0 rfl) rfl (eff_to (y := iA ((b - a) / 4 : Nat)) (eff_quo rfl rfl rfl (by decide) (tdivN_ok (b - a) 4 (by omega))) (congrArg iA (tdivN (b - a) 4))) ?_
  refine aops_e (w0 rfl) rfl (eff_arith rfl rfl rfl (arith_mul (by first | omega | (simp only [List.length_map]; omega)))) ?_
  refine aops_e (w0 rfl) rfl (eff_to (y := iA (a + (b - a) / 4 * 3 : Nat)) (eff_arith rfl rfl rfl (arith_add (by first | omega | (simp only [List.length_map]; omega)))) (congrArg iA (by omega))) ?_
  refine aops_e (w0 rfl) rfl (eff_assign rfl rfl) ?_
  refine aops_nil ?_
  refine awp_seq ?_
  refine awp_seq ?_
  refine awp_region ?_
  refine aops_e (w0 rfl) rfl (eff_move rfl rfl) ?_
  refine aops_e (w0 rfl) rfl (eff_icmp rfl rfl rfl rfl) ?_
  refine aops_nil ?_
  refine awp_cond rfl ?_ ?_
  · intro hc
    refine awp_seq ?_
    refine awp_seq ?_
    refine awp_region ?_
    refine aops_e (w0 rfl) rfl (eff_move rfl rfl) ?_
    refine aops_e (w0 rfl) rfl (eff_icmp rfl rfl rfl rfl) ?_
    refine aops_nil ?_
    refine awp_cond rfl ?_ ?_
    · intro hc
      refine awp_seq ?_
      refine awp_region ?_
      refine aops_e (w0 rfl) rfl (eff_move rfl rfl) ?_
      refine aops_e (w0 rfl) rfl (eff_move rfl rfl) ?_
      refine aops_e (w0 rfl) rfl (eff_move rfl rfl) ?_
      refine aops_callP [_, _] _ (w0 rfl) rfl rfl rfl rfl (perm_get2 (k := 1) (j := 0) rfl rfl) (c_medAdjF q _ n l hn hN _ _ (by omega) (by omega)) (fun v2 hv2 => ?_)
      refine aops_e (w0 rfl) rfl (eff_assign rfl rfl) ?_
      refine aops_nil ?_
      refine awp_seq ?_
      refine awp_region ?_
      refine aops_e (w0 rfl) rfl (eff_move rfl rfl) ?_
      refine aops_e (w0 rfl) rfl (eff_move rfl rfl) ?_
      refine aops_e (w0 rfl) rfl (eff_move rfl rfl) ?_
      refine aops_callP [_, _] _ (w0 rfl) rfl rfl rfl rfl (perm_get2 (k := 0) (j := 0) rfl rfl) (c_medAdjF q _ n l hn hN _ _ (by omega) (by omega)) (fun v3 hv3 => ?_)
      refine aops_e (w0 rfl) rfl (eff_assign rfl rfl) ?_
      refine aops_nil ?_
      refine awp_region ?_
      refine aops_e (w0 rfl) rfl (eff_move rfl rfl) ?_
      refine aops_e (w0 rfl) rfl (eff_move rfl rfl) ?_
      refine aops_e (w0 rfl) rfl (eff_move rfl rfl) ?_
      refine aops_callP [_, _] _ (w0 rfl) rfl rfl rfl rfl (perm_get2 (k := 0) (j := 0) rfl rfl) (c_medAdjF q _ n l hn hN _ _ (by omega) (by omega)) (fun v4 hv4 => ?_)
      refine aops_e (w0 rfl) rfl (eff_assign rfl rfl) ?_
      refine aops_nil ?_
      refine awp_region ?_
      refine aops_e (w0 rfl) rfl (eff_move rfl rfl) ?_
      refine aops_e (w0 rfl) rfl (eff_move rfl rfl) ?_
      refine aops_e (w0 rfl) rfl (eff_move rfl rfl) ?_
      refine aops_e (w0 rfl) rfl (eff_move rfl rfl) ?_
      refine aops_e (w0 rfl) rfl (eff_move rfl rfl) ?_
      refine aops_callP [_, _] _ (w0 rfl) rfl rfl rfl rfl (perm_get2 (k := 0) (j := 0) rfl rfl) (c_medianF q _ n l hn hN _ _ _ _ (by omega) (by omega) (by omega)) (fun v5 hv5 => ?_)
      refine aops_e (w0 rfl) rfl (eff_assign rfl rfl) ?_
      refine aops_nil ?_
      refine awp_seq ?_
      refine awp_region ?_
      refine aops_load_ptr 1 (w0 rfl) rfl rfl rfl rfl rfl ld_one ?_
      refine aops_nil ?_
      refine awp_block ?_
      refine awp_seq ?_
      refine awp_region ?_
      refine aops_e (w0 rfl) rfl (eff_icmp rfl rfl rfl rfl) ?_
      refine aops_e (w0 rfl) rfl (eff_assign rfl rfl) ?_
      refine aops_nil ?_
      refine awp_cond rfl ?_ ?_
      · intro hc
        refine awp_seq ?_
        refine awp_region ?_
        refine aops_e (w0 rfl) rfl (eff_move rfl rfl) ?_
        refine aops_e (w0 rfl) rfl (eff_assign rfl rfl) ?_
        refine aops_e (w0 rfl) rfl (eff_assign rfl rfl) ?_
        refine aops_nil ?_
        refine awp_ret ?_
        exact retq_keep rfl (res_tmp rfl (res_tmp rfl res_nil)) (.cons_cons _ (.cons _ .slnil)) (gp (v5.1, 1) ⟨(by (try simp only) <;> omega), (by (try simp only) <;> omega)⟩ rfl rfl)
      · intro hc
        refine awp_seq ?_
        refine awp_region ?_
        refine aops_e (w0 rfl) rfl (eff_icmp rfl rfl rfl rfl) ?_
        refine aops_e (w0 rfl) rfl (eff_assign rfl rfl) ?_
        refine aops_nil ?_
        refine awp_cond rfl ?_ ?_
        · intro hc
          refine awp_seq ?_
          refine awp_region ?_
          refine aops_e (w0 rfl) rfl (eff_move rfl rfl) ?_
          refine aops_e (w0 rfl) rfl (eff_assign rfl rfl) ?_
          refine aops_e (w0 rfl) rfl (eff_assign rfl rfl) ?_
          refine aops_nil ?_
          refine awp_ret ?_
          exact retq_keep rfl (res_tmp rfl (res_tmp rfl res_nil)) (.cons_cons _ (.cons _ .slnil)) (gp (v5.1, 2) ⟨(by (try simp only) <;> omega), (by (try simp only) <;> omega)⟩ rfl rfl)
        · intro hc
          refine awp_seq ?_
          refine awp_region ?_
          refine aops_e (w0 rfl) rfl (eff_move rfl rfl) ?_
          refine aops_e (w0 rfl) rfl (eff_assign rfl rfl) ?_
          refine aops_e (w0 rfl) rfl (eff_assign rfl rfl) ?_
          refine aops_nil ?_
          refine awp_ret ?_
          exact retq_keep rfl (res_tmp rfl (res_tmp rfl res_nil)) (.cons_cons _ (.cons _ .slnil)) (gp (v5.1, 0) ⟨(by (try simp only) <;> omega), (by (try simp only) <;> omega)⟩ rfl rfl)
    · intro hc
      refine awp_skip ?_
      refine awp_region ?_
      refine aops_e (w0 rfl) rfl (eff_move rfl rfl) ?_
      refine aops_e (w0 rfl) rfl (eff_move rfl rfl) ?_
      refine aops_e (w0 rfl) rfl (eff_move rfl rfl) ?_
      refine aops_e (w0 rfl) rfl (eff_move rfl rfl) ?_
      refine aops_e (w0 rfl) rfl (eff_move rfl rfl) ?_
      refine aops_callP [_, _] _ (w0 rfl) rfl rfl rfl rfl (perm_get2 (k := 1) (j := 0) rfl rfl) (c_medianF q _ n l hn hN _ _ _ _ (by omega) (by omega) (by omega)) (fun v6 hv6 => ?_)
      refine aops_e (w0 rfl) rfl (eff_assign rfl rfl) ?_
      refine aops_nil ?_
      refine awp_seq ?_
      refine awp_region ?_
      refine aops_load_ptr 1 (w0 rfl) rfl rfl rfl rfl rfl ld_one ?_
      refine aops_nil ?_
      refine awp_block ?_
      refine awp_seq ?_
      refine awp_region ?_
      refine aops_e (w0 rfl) rfl (eff_icmp rfl rfl rfl rfl) ?_
      refine aops_e (w0 rfl) rfl (eff_assign rfl rfl) ?_
      refine aops_nil ?_
      refine awp_cond rfl ?_ ?_
      · intro hc
        refine awp_seq ?_
        refine awp_region ?_
        refine aops_e (w0 rfl) rfl (eff_move rfl rfl) ?_
        refine aops_e (w0 rfl) rfl (eff_assign rfl rfl) ?_
        refine aops_e (w0 rfl) rfl (eff_assign rfl rfl) ?_
        refine aops_nil ?_
        refine awp_ret ?_
        exact retq_keep rfl (res_tmp rfl (res_tmp rfl res_nil)) (.cons_cons _ (.cons _ .slnil)) (gp (v6.1, 1) ⟨(by (try simp only) <;> omega), (by (try simp only) <;> omega)⟩ rfl rfl)
      · intro hc
        refine awp_seq ?_
        refine awp_region ?_
        refine aops_e (w0 rfl) rfl (eff_icmp rfl rfl rfl rfl) ?_
        refine aops_e (w0 rfl) rfl (eff_assign rfl rfl) ?_
        refine aops_nil ?_
        refine awp_cond rfl ?_ ?_
        · intro hc
          refine awp_seq ?_
          refine awp_region ?_
          refine aops_e (w0 rfl) rfl (eff_move rfl rfl) ?_
          refine aops_e (w0 rfl) rfl (eff_assign rfl rfl) ?_
          refine aops_e (w0 rfl) rfl (eff_assign rfl rfl) ?_
          refine aops_nil ?_
          refine awp_ret ?_
          exact retq_keep rfl (res_tmp rfl (res_tmp rfl res_nil)) (.cons_cons _ (.cons _ .slnil)) (gp (v6.1, 2) ⟨(by (try simp only) <;> omega), (by (try simp only) <;> omega)⟩ rfl rfl)
        · intro hc
          refine awp_seq ?_
          refine awp_region ?_
          refine aops_e (w0 rfl) rfl (eff_move rfl rfl) ?_
          refine aops_e (w0 rfl) rfl (eff_assign rfl rfl) ?_
          refine aops_e (w0 rfl) rfl (eff_assign rfl rfl) ?_
          refine aops_nil ?_
          refine awp_ret ?_
          exact retq_keep rfl (res_tmp rfl (res_tmp rfl res_nil)) (.cons_cons _ (.cons _ .slnil)) (gp (v6.1, 0) ⟨(by (try simp only) <;> omega), (by (try simp only) <;> omega)⟩ rfl rfl)
  · intro hc
    exfalso; simp at hc; omega

theorem c_partialF (q n : Nat) (l : List Site) (hn : l.length = n) (hN : n ≤ 140737488355328) (a b : Nat) (ha : a < b) (hb : b ≤ n) (hbd : Bd sLt a b l) : ACalls Try.prog 74 [.own q 5 0 n, iA a, iA b, .fn (.func 26) []] [(q, .rows 26 5 (l.map Site.cells))] (GP (fun r : List Site × Bool => bA r.2) (fun r => [(q, .rows 26 5 (r.1.map Site.cells))]) (fun r => Sw a b l r.1 ∧ (r.2 = true → SAdj sLt a b r.1))) := by
  refine acalls_of (n := 141) Try.func74 rfl (by decide +kernel) rfl rfl ?_
  refine awp_seq ?_
  refine awp_region ?_
  refine aops_e (w0 rfl) rfl (eff_assign rfl rfl) ?_
  refine aops_nil ?_
  refine awp_seq ?_
  refine awp_region ?_
  refine aops_e (w0 rfl) rfl (eff_move rfl rfl) ?_
  refine aops_e (w0 rfl) rfl (eff_arith rfl rfl rfl (arith_add (by first | omega | (simp only [List.length_map]; omega)))) ?_
  refine aops_e (w0 rfl) rfl (eff_assign rfl rfl) ?_
  refine aops_nil ?_
  refine awp_seq ?_
  refine awp_seq ?_
  refine awp_region ?_
  refine aops_e (w0 rfl) rfl (eff_assign rfl rfl) ?_
  refine aops_nil ?_
  refine awp_block ?_
  refine awp_loopJ (α := List Site × Nat × Nat) (fun x => ⟨[(10, iA x.2.2), (9, iA x.2.1), (0, .own q 5 0 n), (1, iA a), (2, iA b), (3, .fn (.func 26) [])], [(q, .rows 26 5 (x.1.map Site.cells))], [], 141⟩) (fun x => Sw a b l x.1 ∧ a + 1 ≤ x.2.1 ∧ x.2.1 ≤ b ∧ x.2.2 ≤ 5 ∧ SAdj sLt a x.2.1 x.1) (fun x => 5 - x.2.2) (l, a + 1, 0) ⟨.refl, (by (try simp only) <;> omega), (by (try simp only) <;> omega), (by (try simp only) <;> omega), SAdj.refl1 (by (try simp only) <;> omega)⟩ ?_ ?_
  · exact weak_pick [0] ⟨rfl, rfl, rfl, rfl, rfl, rfl, trivial⟩ rfl (by decide) rfl rfl
  rintro x hJ
  have hm := hJ.1.len
  refine awp_seq ?_
  refine awp_seq ?_
  refine awp_region ?_
  refine aops_e (w0 rfl) rfl (eff_move rfl rfl) ?_
  refine aops_e (w0 rfl) rfl (eff_icmp rfl rfl rfl rfl) ?_
  refine aops_nil ?_
  refine awp_cond rfl ?_ ?_
  · intro hc
    have hx5 : x.2.2 < 5 := by simp at hc; omega
    refine awp_skip ?_
    refine awp_seq ?_
    refine awp_block ?_
    refine awp_seq ?_
    refine awp_block ?_
    refine awp_loopJ (α := Nat) (fun u => ⟨[(9, iA u), (10, iA x.2.2), (0, .own q 5 0 n), (1, iA a), (2, iA b), (3, .fn (.func 26) [])], [(q, .rows 26 5 (x.1.map Site.cells))], [], 141⟩) (fun u => x.2.1 ≤ u ∧ u ≤ b ∧ SAdj sLt a u x.1) (fun u => b - u) x.2.1 ⟨Nat.le_refl _, hJ.2.2.1, hJ.2.2.2.2⟩ ?_ ?_
    · exact weak_pick [0] ⟨rfl, rfl, rfl, rfl, rfl, rfl, trivial⟩ rfl (by decide) rfl rfl
    rintro u hJ1
    refine awp_seq ?_
    refine awp_seq ?_
    refine awp_drawM [0, 0, 3, 7, 15, 15, 15, 111, 239, 15, 15, 1039, 3599, 7695, 16383, 32767, 65535, 131071] 18 rfl (by kernel_rfl) ?_
    refine calm_e (w0 rfl) rfl (eff_move rfl rfl) ?_
    refine calm_e (w0 rfl) rfl (eff_move rfl rfl) ?_
    refine calm_e (w0 rfl) rfl (eff_icmp rfl rfl rfl rfl) ?_
    refine calm_e (w0 rfl) rfl (eff_move rfl rfl) ?_
    refine calm_g (wT rfl rfl rfl rfl) rfl (fun hg => (eff_move rfl rfl)) ?_
    refine calm_g (wT rfl rfl rfl rfl) rfl (fun hg => (eff_move rfl rfl)) ?_
    refine calm_g (wT rfl rfl rfl rfl) rfl (fun hg => (eff_move rfl rfl)) ?_
    refine calm_g (wT rfl rfl rfl rfl) rfl (fun hg => (eff_indexAddr_ownN u rfl (ev_g hg rfl) (ev_g hg rfl) (by (try simp at hg) <;> first | omega | (simp only [List.length_map]; omega) | (simp only [List.length_map, List.length_drop]; omega)) (by (try simp at hg) <;> first | omega | (simp only [List.length_map]; omega) | (simp only [List.length_map, List.length_drop]; omega)) (by omega))) ?_
    refine calm_gloadC (f := Site.cells) 0 (wT rfl rfl rfl rfl) rfl rfl (fun hg => (ev_g hg rfl)) rfl (fun hg => by (try simp at hg) <;> (first | assumption | omega | (simp only [List.length_drop]; omega))) (fun _ => ld_aggC rfl) ?_
    refine calm_g (wT rfl rfl rfl rfl) rfl (fun hg => (eff_move rfl rfl)) ?_
    refine calm_g (wT rfl rfl rfl rfl) rfl (fun hg => (eff_move rfl rfl)) ?_
    refine calm_g (wT rfl rfl rfl rfl) rfl (fun hg => (eff_arith rfl (ev_g hg rfl) rfl (arith_sub (by first | omega | (simp only [List.length_map]; omega))))) ?_
    refine calm_g (wT rfl rfl rfl rfl) rfl (fun hg => (eff_indexAddr_ownN (u - 1) rfl (ev_g hg rfl) (ev_g hg rfl) (by (try simp at hg) <;> first | omega | (simp only [List.length_map]; omega) | (simp only [List.length_map, List.length_drop]; omega)) (by (try simp at hg) <;> first | omega | (simp only [List.length_map]; omega) | (simp only [List.length_map, List.length_drop]; omega)) (by omega))) ?_
    refine calm_gloadC (f := Site.cells) 0 (wT rfl rfl rfl rfl) rfl rfl (fun hg => (ev_g hg rfl)) rfl (fun hg => by (try simp at hg) <;> (first | assumption | omega | (simp only [List.length_drop]; omega))) (fun _ => ld_aggC rfl) ?_
    refine calm_g (wT rfl rfl rfl rfl) rfl (fun hg => (eff_call [] rfl (ev_g hg rfl) (evs_cons (ev_g hg rfl) (evs_cons (ev_g hg rfl) evs_nil)) (c_cmpSite _ _) List.nodup_nil)) ?_
    refine calm_g (wT rfl rfl rfl rfl) rfl (fun hg => (eff_icmp rfl (ev_g hg rfl) rfl rfl)) ?_
    refine calm_g (wT rfl rfl rfl rfl) rfl (fun hg => (eff_not rfl (ev_g hg rfl))) ?_
    refine calm_e (w0 rfl) rfl (eff_and rfl rfl rfl (fun h => h)) ?_
    refine .done ?_
    refine aops_nil ?_
    refine awp_cond rfl ?_ ?_
    · intro hc
      have hle : u < b := by have := andL hc; simpa using this
      have hv := andR hc
      refine awp_skip ?_
      refine awp_block ?_
      refine awp_region ?_
      refine aops_e (w0 rfl) rfl (eff_move rfl rfl) ?_
      refine aops_e (w0 rfl) rfl (eff_arith rfl rfl rfl (arith_add (by first | omega | (simp only [List.length_map]; omega)))) ?_
      refine aops_e (w0 rfl) rfl (eff_assign rfl rfl) ?_
      refine aops_nil ?_
      refine ⟨(u + 1), ⟨by omega, by omega, hJ1.2.2.succ (notT hv)⟩, (by omega), ?_⟩
      exact weak_pick [0] ⟨rfl, rfl, rfl, rfl, rfl, rfl, trivial⟩ rfl (by decide) rfl rfl
    · intro hc
      refine awp_exit ?_
      refine awp_seq ?_
      refine awp_seq ?_
      refine awp_region ?_
      refine aops_e (w0 rfl) rfl (eff_move rfl rfl) ?_
      refine aops_e (w0 rfl) rfl (eff_move rfl rfl) ?_
      refine aops_e (w0 rfl) rfl (eff_icmp rfl rfl rfl rfl) ?_
      refine aops_nil ?_
      refine awp_cond rfl ?_ ?_
      · intro hc
        have heq : u = b := by simp at hc; omega
        refine awp_seq ?_
        refine awp_region ?_
        refine aops_e (w0 rfl) rfl (eff_assign rfl rfl) ?_
        refine aops_nil ?_
        refine awp_ret ?_
        exact retq_keep rfl (res_tmp rfl res_nil) (.cons_cons _ .slnil) (gp (x.1, true) ⟨hJ.1, fun _ => heq ▸ hJ1.2.2⟩ rfl rfl)
      · intro hc
        have hne : u < b := by simp at hc; omega
        refine awp_skip ?_
        refine awp_seq ?_
        refine awp_seq ?_
        refine awp_region ?_
        refine aops_e (w0 rfl) rfl (eff_move rfl rfl) ?_
        refine aops_e (w0 rfl) rfl (eff_move rfl rfl) ?_
        refine aops_e (w0 rfl) rfl (eff_arith rfl rfl rfl (arith_sub (by first | omega | (simp only [List.length_map]; omega)))) ?_
        refine aops_e (w0 rfl) rfl (eff_icmp rfl rfl rfl rfl) ?_
        refine aops_nil ?_
        refine awp_cond rfl ?_ ?_
        · intro hc
          refine awp_seq ?_
          refine awp_region ?_
          refine aops_e (w0 rfl) rfl (eff_assign rfl rfl) ?_
          refine aops_nil ?_
          refine awp_ret ?_
          exact retq_keep rfl (res_tmp rfl res_nil) (.cons_cons _ .slnil) (gp (x.1, false) ⟨hJ.1, nofun⟩ rfl rfl)
        · intro hc
          refine awp_skip ?_
          refine awp_seq ?_
          refine awp_drawW [0, 0, 0, 0, 8, 0, 0, 64, 224, 480, 0, 0, 3072, 7168, 16355, 32739, 65535, 131071] [15, 17] [9, 13] rfl (by kernel_rfl) ?_
          refine wcalm_e (w0 rfl) rfl (eff_move rfl rfl) rfl ?_
          refine wcalm_e (w0 rfl) rfl (eff_move rfl rfl) rfl ?_
          refine wcalm_e (w0 rfl) rfl (eff_move rfl rfl) rfl ?_
          refine wcalm_e (w0 rfl) rfl (eff_move rfl rfl) rfl ?_
          refine wcalm_e (w0 rfl) rfl (eff_arith rfl rfl rfl (arith_sub (by first | omega | (simp only [List.length_map]; omega)))) rfl ?_
          refine wcalm_e (w0 rfl) rfl (eff_move rfl rfl) rfl ?_
          refine wcalm_e (w0 rfl) rfl (eff_move rfl rfl) rfl ?_
          refine wcalm_e (w0 rfl) rfl (eff_arith rfl rfl rfl (arith_sub (by first | omega | (simp only [List.length_map]; omega)))) rfl ?_
          refine wcalm_e (w0 rfl) rfl (eff_indexAddr_ownN (u - 1) rfl rfl rfl (by first | omega | (simp only [List.length_map]; omega) | (simp only [List.length_map, List.length_drop]; omega)) (by first | omega | (simp only [List.length_map]; omega) | (simp only [List.length_map, List.length_drop]; omega)) (by omega)) rfl ?_
          refine wcalm_load_ptr 0 (w0 rfl) rfl rfl rfl rfl (own_getC (by first | assumption | omega | (simp only [List.length_drop]; omega))) (ld_aggC rfl) rfl rfl ?_
          refine wcalm_e (w0 rfl) rfl (eff_move rfl rfl) rfl ?_
          refine wcalm_e (w0 rfl) rfl (eff_move rfl rfl) rfl ?_
          refine wcalm_e (w0 rfl) rfl (eff_indexAddr_ownN u rfl rfl rfl (by first | omega | (simp only [List.length_map]; omega) | (simp only [List.length_map, List.length_drop]; omega)) (by first | omega | (simp only [List.length_map]; omega) | (simp only [List.length_map, List.length_drop]; omega)) (by omega)) rfl ?_
          refine wcalm_load_ptr 0 (w0 rfl) rfl rfl rfl rfl (own_getC (by first | assumption | omega | (simp only [List.length_drop]; omega))) (ld_aggC rfl) rfl rfl ?_
          refine wcalm_e (w0 rfl) rfl (eff_indexAddr_ownN u rfl rfl rfl (by first | omega | (simp only [List.length_map]; omega) | (simp only [List.length_map, List.length_drop]; omega)) (by first | omega | (simp only [List.length_map]; omega) | (simp only [List.length_map, List.length_drop]; omega)) (by omega)) rfl ?_
          refine wcalm_storeC (f := Site.cells) 0 (fun _ => rfl) (fun _ => rfl) (w0 rfl) rfl rfl rfl rfl (by first | omega | (simp; omega)) rfl rfl ?_
          refine wcalm_e (w0 rfl) rfl (eff_indexAddr_ownN (u - 1) rfl rfl rfl (by first | omega | (simp only [List.length_map]; omega) | (simp only [List.length_map, List.length_drop]; omega)) (by first | omega | (simp only [List.length_map]; omega) | (simp only [List.length_map, List.length_drop]; omega)) (by omega)) rfl ?_
          refine wcalm_storeC (f := Site.cells) 0 (fun _ => rfl) (fun _ => rfl) (w0 rfl) rfl rfl rfl rfl (by first | omega | (simp; omega)) rfl rfl ?_
          refine .done ?_
          refine awp_seq ?_
          refine awp_seq ?_
          refine awp_region ?_
          refine aops_e (w0 rfl) rfl (eff_move rfl rfl) ?_
          refine aops_e (w0 rfl) rfl (eff_move rfl rfl) ?_
          refine aops_e (w0 rfl) rfl (eff_arith rfl rfl rfl (arith_sub (by first | omega | (simp only [List.length_map]; omega)))) ?_
          refine aops_e (w0 rfl) rfl (eff_icmp rfl rfl rfl rfl) ?_
          refine aops_nil ?_
          refine awp_cond rfl ?_ ?_
          · intro hc
            have hsw : Sw a b l (swp x.1 u (u - 1)) := .step _ _ hJ.1 (by omega) (by omega) (by omega)
            have hu2 : a + 2 ≤ u := by simp at hc; omega
            have hs0 : SAdj sLt a (u - 1) (swp x.1 u (u - 1)) := (hJ1.2.2.le (by omega)).swp_ge (by omega) (by omega) (by omega) (by omega)
            refine awp_seq ?_
            refine awp_region ?_
            refine aops_e (w0 rfl) rfl (eff_move rfl rfl) ?_
            refine aops_e (w0 rfl) rfl (eff_to (y := iA (u - 1 : Nat)) (eff_arith rfl rfl rfl (arith_sub (by first | omega | (simp only [List.length_map]; omega)))) (congrArg iA (by omega))) ?_
            refine aops_e (w0 rfl) rfl (eff_assign rfl rfl) ?_
            refine aops_nil ?_
            refine awp_block ?_
            refine awp_loopJ (α := List Site × Nat) (fun y => ⟨[(11, iA y.2), (9, iA u), (10, iA x.2.2), (0, .own q 5 0 n), (1, iA a), (2, iA b), (3, .fn (.func 26) [])], [(q, .rows 26 5 (y.1.map Site.cells))], [], 141⟩) (fun y => Sw a b l y.1 ∧ a ≤ y.2 ∧ y.2 ≤ u - 1 ∧ Ins sLt a y.2 (u - 1) y.1) (fun y => y.2) ((swp x.1 u (u - 1)), u - 1) ⟨hsw, (by (try simp only) <;> omega), (by (try simp only) <;> omega), Ins.start hs0⟩ ?_ ?_
            · exact weak_pick [0] ⟨rfl, rfl, rfl, rfl, rfl, rfl, rfl, trivial⟩ rfl (by decide) rfl rfl
            rintro y hJ3
            have hm3 := hJ3.1.len
            refine awp_seq ?_
            refine awp_seq ?_
            refine awp_region ?_
            refine aops_e (w0 rfl) rfl (eff_move rfl rfl) ?_
            refine aops_e (w0 rfl) rfl (eff_icmp rfl rfl rfl rfl) ?_
            refine aops_nil ?_
            refine awp_cond rfl ?_ ?_
            · intro hc
              have hy1 : 1 ≤ y.2 := by simp at hc; omega
              refine awp_skip ?_
              refine awp_seq ?_
              refine awp_block ?_
              refine awp_seq ?_
              refine awp_seq ?_
              refine awp_drawM [0, 0, 0, 6, 14, 0, 0, 64, 224, 480, 1023, 2047, 4095] 13 rfl (by kernel_rfl) ?_
              refine calm_e (w0 rfl) rfl (eff_move rfl rfl) ?_
              refine calm_e (w0 rfl) rfl (eff_move rfl rfl) ?_
              refine calm_e (w0 rfl) rfl (eff_move rfl rfl) ?_
              refine calm_e (w0 rfl) rfl (eff_indexAddr_ownN y.2 rfl rfl rfl (by first | omega | (simp only [List.length_map]; omega) | (simp only [List.length_map, List.length_drop]; omega)) (by first | omega | (simp only [List.length_map]; omega) | (simp only [List.length_map, List.length_drop]; omega)) (by omega)) ?_
              refine calm_load_ptr 0 (w0 rfl) rfl rfl rfl rfl (own_getC (by first | assumption | omega | (simp only [List.length_drop]; omega))) (ld_aggC rfl) ?_
              refine calm_e (w0 rfl) rfl (eff_move rfl rfl) ?_
              refine calm_e (w0 rfl) rfl (eff_move rfl rfl) ?_
              refine calm_e (w0 rfl) rfl (eff_arith rfl rfl rfl (arith_sub (by first | omega | (simp only [List.length_map]; omega)))) ?_
              refine calm_e (w0 rfl) rfl (eff_indexAddr_ownN (y.2 - 1) rfl rfl rfl (by first | omega | (simp only [List.length_map]; omega) | (simp only [List.length_map, List.length_drop]; omega)) (by first | omega | (simp only [List.length_map]; omega) | (simp only [List.length_map, List.length_drop]; omega)) (by omega)) ?_
              refine calm_load_ptr 0 (w0 rfl) rfl rfl rfl rfl (own_getC (by first | assumption | omega | (simp only [List.length_drop]; omega))) (ld_aggC rfl) ?_
              refine calm_e (w0 rfl) rfl (eff_call [] rfl rfl rfl (c_cmpSite _ _) List.nodup_nil) ?_
              refine calm_e (w0 rfl) rfl (eff_icmp rfl rfl rfl rfl) ?_
              refine calm_e (w0 rfl) rfl (eff_not rfl rfl) ?_
              refine .done ?_
              refine aops_nil ?_
              refine awp_cond rfl ?_ ?_
              · intro hc
                have hsw := hJ3.1
                have hsa : SAdj sLt a u y.1 := (hJ3.2.2.2.done (.inr (notT hc))).le (by omega)
                refine awp_exit ?_
                refine awp_seq ?_
                refine awp_region ?_
                refine aops_e (w0 rfl) rfl (eff_move rfl rfl) ?_
                refine aops_e (w0 rfl) rfl (eff_move rfl rfl) ?_
                refine aops_e (w0 rfl) rfl (eff_arith rfl rfl rfl (arith_sub (by first | omega | (simp only [List.length_map]; omega)))) ?_
                refine aops_e (w0 rfl) rfl (eff_icmp rfl rfl rfl rfl) ?_
                refine aops_nil ?_
                refine awp_cond rfl ?_ ?_
                · intro hc
                  have hu3 : u + 2 ≤ b := by simp at hc; omega
                  refine awp_seq ?_
                  refine awp_region ?_
                  refine aops_e (w0 rfl) rfl (eff_move rfl rfl) ?_
                  refine aops_e (w0 rfl) rfl (eff_arith rfl rfl rfl (arith_add (by first | omega | (simp only [List.length_map]; omega)))) ?_
                  refine aops_e (w0 rfl) rfl (eff_assign rfl rfl) ?_
                  refine aops_nil ?_
                  refine awp_block ?_
                  refine awp_loopJ (α := List Site × Nat) (fun w => ⟨[(12, iA w.2), (9, iA u), (10, iA x.2.2), (0, .own q 5 0 n), (1, iA a), (2, iA b), (3, .fn (.func 26) [])], [(q, .rows 26 5 (w.1.map Site.cells))], [], 141⟩) (fun w => Sw a b l w.1 ∧ u + 1 ≤ w.2 ∧ w.2 ≤ b ∧ SAdj sLt a u w.1) (fun w => b - w.2) (y.1, u + 1) ⟨hsw, (by (try simp only) <;> omega), (by (try simp only) <;> omega), hsa⟩ ?_ ?_
                  · exact weak_pick [0] ⟨rfl, rfl, rfl, rfl, rfl, rfl, rfl, trivial⟩ rfl (by decide) rfl rfl
                  rintro w hJ4
                  have hm4 := hJ4.1.len
                  refine awp_seq ?_
                  refine awp_seq ?_
                  refine awp_region ?_
                  refine aops_e (w0 rfl) rfl (eff_move rfl rfl) ?_
                  refine aops_e (w0 rfl) rfl (eff_move rfl rfl) ?_
                  refine aops_e (w0 rfl) rfl (eff_icmp rfl rfl rfl rfl) ?_
                  refine aops_nil ?_
                  refine awp_cond rfl ?_ ?_
                  · intro hc
                    have hw1 : w.2 < b := by simpa using hc
                    refine awp_skip ?_
                    refine awp_seq ?_
                    refine awp_block ?_
                    refine awp_seq ?_
                    refine awp_seq ?_
                    refine awp_drawM [0, 0, 0, 6, 14, 0, 0, 64, 224, 480, 1023, 2047, 4095] 13 rfl (by kernel_rfl) ?_
                    refine calm_e (w0 rfl) rfl (eff_move rfl rfl) ?_
                    refine calm_e (w0 rfl) rfl (eff_move rfl rfl) ?_
                    refine calm_e (w0 rfl) rfl (eff_move rfl rfl) ?_
                    refine calm_e (w0 rfl) rfl (eff_indexAddr_ownN w.2 rfl rfl rfl (by first | omega | (simp only [List.length_map]; omega) | (simp only [List.length_map, List.length_drop]; omega)) (by first | omega | (simp only [List.length_map]; omega) | (simp only [List.length_map, List.length_drop]; omega)) (by omega)) ?_
                    refine calm_load_ptr 0 (w0 rfl) rfl rfl rfl rfl (own_getC (by first | assumption | omega | (simp only [List.length_drop]; omega))) (ld_aggC rfl) ?_
                    refine calm_e (w0 rfl) rfl (eff_move rfl rfl) ?_
                    refine calm_e (w0 rfl) rfl (eff_move rfl rfl) ?_
                    refine calm_e (w0 rfl) rfl (eff_arith rfl rfl rfl (arith_sub (by first | omega | (simp only [List.length_map]; omega)))) ?_
                    refine calm_e (w0 rfl) rfl (eff_indexAddr_ownN (w.2 - 1) rfl rfl rfl (by first | omega | (simp only [List.length_map]; omega) | (simp only [List.length_map, List.length_drop]; omega)) (by first | omega | (simp only [List.length_map]; omega) | (simp only [List.length_map, List.length_drop]; omega)) (by omega)) ?_
                    refine calm_load_ptr 0 (w0 rfl) rfl rfl rfl rfl (own_getC (by first | assumption | omega | (simp only [List.length_drop]; omega))) (ld_aggC rfl) ?_
                    refine calm_e (w0 rfl) rfl (eff_call [] rfl rfl rfl (c_cmpSite _ _) List.nodup_nil) ?_
                    refine calm_e (w0 rfl) rfl (eff_icmp rfl rfl rfl rfl) ?_
                    refine calm_e (w0 rfl) rfl (eff_not rfl rfl) ?_
                    refine .done ?_
                    refine aops_nil ?_
                    refine awp_cond rfl ?_ ?_
                    · intro hc
                      have hsw := hJ4.1
                      have hsa := hJ4.2.2.2
                      refine awp_exit ?_
                      refine awp_region ?_
                      refine aops_e (w0 rfl) rfl (eff_move rfl rfl) ?_
                      refine aops_e (w0 rfl) rfl (eff_arith rfl rfl rfl (arith_add (by first | omega | (simp only [List.length_map]; omega)))) ?_
                      refine aops_e (w0 rfl) rfl (eff_assign rfl rfl) ?_
                      refine aops_nil ?_
                      refine ⟨(w.1, u, x.2.2 + 1), ⟨hsw, (by (try simp only) <;> omega), (by (try simp only) <;> omega), (by (try simp only) <;> omega), hsa⟩, (by (try simp only) <;> omega), ?_⟩
                      exact weak_pick [0] ⟨rfl, rfl, rfl, rfl, rfl, rfl, trivial⟩ rfl (by decide) rfl rfl
                    · intro hc
                      refine awp_skip ?_
                      refine awp_drawW [0, 0, 0, 0, 8, 0, 0, 64, 224, 480, 0, 0, 3072, 7168, 16355, 32739, 65535, 131071] [15, 17] [9, 13] rfl (by kernel_rfl) ?_
                      refine wcalm_e (w0 rfl) rfl (eff_move rfl rfl) rfl ?_
                      refine wcalm_e (w0 rfl) rfl (eff_move rfl rfl) rfl ?_
                      refine wcalm_e (w0 rfl) rfl (eff_move rfl rfl) rfl ?_
                      refine wcalm_e (w0 rfl) rfl (eff_move rfl rfl) rfl ?_
                      refine wcalm_e (w0 rfl) rfl (eff_arith rfl rfl rfl (arith_sub (by first | omega | (simp only [List.length_map]; omega)))) rfl ?_
                      refine wcalm_e (w0 rfl) rfl (eff_move rfl rfl) rfl ?_
                      refine wcalm_e (w0 rfl) rfl (eff_move rfl rfl) rfl ?_
                      refine wcalm_e (w0 rfl) rfl (eff_arith rfl rfl rfl (arith_sub (by first | omega | (simp only [List.length_map]; omega)))) rfl ?_
                      refine wcalm_e (w0 rfl) rfl (eff_indexAddr_ownN (w.2 - 1) rfl rfl rfl (by first | omega | (simp only [List.length_map]; omega) | (simp only [List.length_map, List.length_drop]; omega)) (by first | omega | (simp only [List.length_map]; omega) | (simp only [List.length_map, List.length_drop]; omega)) (by omega)) rfl ?_
                      refine wcalm_load_ptr 0 (w0 rfl) rfl rfl rfl rfl (own_getC (by first | assumption | omega | (simp only [List.length_drop]; omega))) (ld_aggC rfl) rfl rfl ?_
                      refine wcalm_e (w0 rfl) rfl (eff_move rfl rfl) rfl ?_
                      refine wcalm_e (w0 rfl) rfl (eff_move rfl rfl) rfl ?_
                      refine wcalm_e (w0 rfl) rfl (eff_indexAddr_ownN w.2 rfl rfl rfl (by first | omega | (simp only [List.length_map]; omega) | (simp only [List.length_map, List.length_drop]; omega)) (by first | omega | (simp only [List.length_map]; omega) | (simp only [List.length_map, List.length_drop]; omega)) (by omega)) rfl ?_
                      refine wcalm_load_ptr 0 (w0 rfl) rfl rfl rfl rfl (own_getC (by first | assumption | omega | (simp only [List.length_drop]; omega))) (ld_aggC rfl) rfl rfl ?_
                      refine wcalm_e (w0 rfl) rfl (eff_indexAddr_ownN w.2 rfl rfl rfl (by first | omega | (simp only [List.length_map]; omega) | (simp only [List.length_map, List.length_drop]; omega)) (by first | omega | (simp only [List.length_map]; omega) | (simp only [List.length_map, List.length_drop]; omega)) (by omega)) rfl ?_
                      refine wcalm_storeC (f := Site.cells) 0 (fun _ => rfl) (fun _ => rfl) (w0 rfl) rfl rfl rfl rfl (by first | omega | (simp; omega)) rfl rfl ?_
                      refine wcalm_e (w0 rfl) rfl (eff_indexAddr_ownN (w.2 - 1) rfl rfl rfl (by first | omega | (simp only [List.length_map]; omega) | (simp only [List.length_map, List.length_drop]; omega)) (by first | omega | (simp only [List.length_map]; omega) | (simp only [List.length_map, List.length_drop]; omega)) (by omega)) rfl ?_
                      refine wcalm_storeC (f := Site.cells) 0 (fun _ => rfl) (fun _ => rfl) (w0 rfl) rfl rfl rfl rfl (by first | omega | (simp; omega)) rfl rfl ?_
                      refine .done ?_
                      refine awp_region ?_
                      refine aops_e (w0 rfl) rfl (eff_move rfl rfl) ?_
                      refine aops_e (w0 rfl) rfl (eff_arith rfl rfl rfl (arith_add (by first | omega | (simp only [List.length_map]; omega)))) ?_
                      refine aops_e (w0 rfl) rfl (eff_assign rfl rfl) ?_
                      refine aops_nil ?_
                      refine ⟨(swp w.1 w.2 (w.2 - 1), w.2 + 1), ⟨.step _ _ hJ4.1 (by (try simp only) <;> omega) (by (try simp only) <;> omega) (by (try simp only) <;> omega), (by (try simp only) <;> omega), (by (try simp only) <;> omega), hJ4.2.2.2.swp_ge (by (try simp only) <;> omega) (by (try simp only) <;> omega) (by (try simp only) <;> omega) (by (try simp only) <;> omega)⟩, (by (try simp only) <;> omega), ?_⟩
                      exact weak_pick [0] ⟨rfl, rfl, rfl, rfl, rfl, rfl, rfl, trivial⟩ rfl (by decide) rfl rfl
                  · intro hc
                    have hsw := hJ4.1
                    have hsa := hJ4.2.2.2
                    refine awp_exit ?_
                    refine awp_region ?_
                    refine aops_e (w0 rfl) rfl (eff_move rfl rfl) ?_
                    refine aops_e (w0 rfl) rfl (eff_arith rfl rfl rfl (arith_add (by first | omega | (simp only [List.length_map]; omega)))) ?_
                    refine aops_e (w0 rfl) rfl (eff_assign rfl rfl) ?_
                    refine aops_nil ?_
                    refine ⟨(w.1, u, x.2.2 + 1), ⟨hsw, (by (try simp only) <;> omega), (by (try simp only) <;> omega), (by (try simp only) <;> omega), hsa⟩, (by (try simp only) <;> omega), ?_⟩
                    exact weak_pick [0] ⟨rfl, rfl, rfl, rfl, rfl, rfl, trivial⟩ rfl (by decide) rfl rfl
                · intro hc
                  refine awp_skip ?_
                  refine awp_region ?_
                  refine aops_e (w0 rfl) rfl (eff_move rfl rfl) ?_
                  refine aops_e (w0 rfl) rfl (eff_arith rfl rfl rfl (arith_add (by first | omega | (simp only [List.length_map]; omega)))) ?_
                  refine aops_e (w0 rfl) rfl (eff_assign rfl rfl) ?_
                  refine aops_nil ?_
                  refine ⟨(y.1, u, x.2.2 + 1), ⟨hsw, (by (try simp only) <;> omega), (by (try simp only) <;> omega), (by (try simp only) <;> omega), hsa⟩, (by (try simp only) <;> omega), ?_⟩
                  exact weak_pick [0] ⟨rfl, rfl, rfl, rfl, rfl, rfl, trivial⟩ rfl (by decide) rfl rfl
              · intro hc
                have hlt := notF hc
                have hgt := (hbd.sw hJ3.1).gt (j := y.2) (by omega) (by omega) hy1 hlt
                refine awp_skip ?_
                refine awp_drawW [0, 0, 0, 0, 8, 0, 0, 64, 224, 480, 0, 0, 3072, 7168, 16355, 32739, 65535, 131071] [15, 17] [9, 13] rfl (by kernel_rfl) ?_
                refine wcalm_e (w0 rfl) rfl (eff_move rfl rfl) rfl ?_
                refine wcalm_e (w0 rfl) rfl (eff_move rfl rfl) rfl ?_
                refine wcalm_e (w0 rfl) rfl (eff_move rfl rfl) rfl ?_
                refine wcalm_e (w0 rfl) rfl (eff_move rfl rfl) rfl ?_
                refine wcalm_e (w0 rfl) rfl (eff_arith rfl rfl rfl (arith_sub (by first | omega | (simp only [List.length_map]; omega)))) rfl ?_
                refine wcalm_e (w0 rfl) rfl (eff_move rfl rfl) rfl ?_
                refine wcalm_e (w0 rfl) rfl (eff_move rfl rfl) rfl ?_
                refine wcalm_e (w0 rfl) rfl (eff_arith rfl rfl rfl (arith_sub (by first | omega | (simp only [List.length_map]; omega)))) rfl ?_
                refine wcalm_e (w0 rfl) rfl (eff_indexAddr_ownN (y.2 - 1) rfl rfl rfl (by first | omega | (simp only [List.length_map]; omega) | (simp only [List.length_map, List.length_drop]; omega)) (by first | omega | (simp only [List.length_map]; omega) | (simp only [List.length_map, List.length_drop]; omega)) (by omega)) rfl ?_
                refine wcalm_load_ptr 0 (w0 rfl) rfl rfl rfl rfl (own_getC (by first | assumption | omega | (simp only [List.length_drop]; omega))) (ld_aggC rfl) rfl rfl ?_
                refine wcalm_e (w0 rfl) rfl (eff_move rfl rfl) rfl ?_
                refine wcalm_e (w0 rfl) rfl (eff_move rfl rfl) rfl ?_
                refine wcalm_e (w0 rfl) rfl (eff_indexAddr_ownN y.2 rfl rfl rfl (by first | omega | (simp only [List.length_map]; omega) | (simp only [List.length_map, List.length_drop]; omega)) (by first | omega | (simp only [List.length_map]; omega) | (simp only [List.length_map, List.length_drop]; omega)) (by omega)) rfl ?_
                refine wcalm_load_ptr 0 (w0 rfl) rfl rfl rfl rfl (own_getC (by first | assumption | omega | (simp only [List.length_drop]; omega))) (ld_aggC rfl) rfl rfl ?_
                refine wcalm_e (w0 rfl) rfl (eff_indexAddr_ownN y.2 rfl rfl rfl (by first | omega | (simp only [List.length_map]; omega) | (simp only [List.length_map, List.length_drop]; omega)) (by first | omega | (simp only [List.length_map]; omega) | (simp only [List.length_map, List.length_drop]; omega)) (by omega)) rfl ?_
                refine wcalm_storeC (f := Site.cells) 0 (fun _ => rfl) (fun _ => rfl) (w0 rfl) rfl rfl rfl rfl (by first | omega | (simp; omega)) rfl rfl ?_
                refine wcalm_e (w0 rfl) rfl (eff_indexAddr_ownN (y.2 - 1) rfl rfl rfl (by first | omega | (simp only [List.length_map]; omega) | (simp only [List.length_map, List.length_drop]; omega)) (by first | omega | (simp only [List.length_map]; omega) | (simp only [List.length_map, List.length_drop]; omega)) (by omega)) rfl ?_
                refine wcalm_storeC (f := Site.cells) 0 (fun _ => rfl) (fun _ => rfl) (w0 rfl) rfl rfl rfl rfl (by first | omega | (simp; omega)) rfl rfl ?_
                refine .done ?_
                refine awp_region ?_
                refine aops_e (w0 rfl) rfl (eff_move rfl rfl) ?_
                refine aops_e (w0 rfl) rfl (eff_arith rfl rfl rfl (arith_sub (by first | omega | (simp only [List.length_map]; omega)))) ?_
                refine aops_e (w0 rfl) rfl (eff_assign rfl rfl) ?_
                refine aops_nil ?_
                refine ⟨(swp y.1 y.2 (y.2 - 1), y.2 - 1), ⟨.step _ _ hJ3.1 (by (try simp only) <;> omega) (by (try simp only) <;> omega) (by (try simp only) <;> omega), (by (try simp only) <;> omega), (by (try simp only) <;> omega), hJ3.2.2.2.step sLtT.ok hgt (by (try simp only) <;> omega) (by (try simp only) <;> omega) hlt⟩, (by (try simp only) <;> omega), ?_⟩
                exact weak_pick [0] ⟨(congrArg (fun n => some (iA n)) (by (try simp only) <;> omega)), rfl, rfl, rfl, rfl, rfl, rfl, trivial⟩ rfl (by decide) rfl rfl
            · intro hc
              have hy0 : y.2 = 0 := by simp at hc; omega
              have hsw := hJ3.1
              have hsa : SAdj sLt a u y.1 := (hJ3.2.2.2.done (.inl (by omega))).le (by omega)
              refine awp_exit ?_
              refine awp_seq ?_
              refine awp_region ?_
              refine aops_e (w0 rfl) rfl (eff_move rfl rfl) ?_
              refine aops_e (w0 rfl) rfl (eff_move rfl rfl) ?_
              refine aops_e (w0 rfl) rfl (eff_arith rfl rfl rfl (arith_sub (by first | omega | (simp only [List.length_map]; omega)))) ?_
              refine aops_e (w0 rfl) rfl (eff_icmp rfl rfl rfl rfl) ?_
              refine aops_nil ?_
              refine awp_cond rfl ?_ ?_
              · intro hc
                have hu3 : u + 2 ≤ b := by simp at hc; omega
                refine awp_seq ?_
                refine awp_region ?_
                refine aops_e (w0 rfl) rfl (eff_move rfl rfl) ?_
                refine aops_e (w0 rfl) rfl (eff_arith rfl rfl rfl (arith_add (by first | omega | (simp only [List.length_map]; omega)))) ?_
                refine aops_e (w0 rfl) rfl (eff_assign rfl rfl) ?_
                refine aops_nil ?_
                refine awp_block ?_
                refine awp_loopJ (α := List Site × Nat) (fun w => ⟨[(12, iA w.2), (9, iA u), (10, iA x.2.2), (0, .own q 5 0 n), (1, iA a), (2, iA b), (3, .fn (.func 26) [])], [(q, .rows 26 5 (w.1.map Site.cells))], [], 141⟩) (fun w => Sw a b l w.1 ∧ u + 1 ≤ w.2 ∧ w.2 ≤ b ∧ SAdj sLt a u w.1) (fun w => b - w.2) (y.1, u + 1) ⟨hsw, (by (try simp only) <;> omega), (by (try simp only) <;> omega), hsa⟩ ?_ ?_
                · exact weak_pick [0] ⟨rfl, rfl, rfl, rfl, rfl, rfl, rfl, trivial⟩ rfl (by decide) rfl rfl
                rintro w hJ4
                have hm4 := hJ4.1.len
                refine awp_seq ?_
                refine awp_seq ?_
                refine awp_region ?_
                refine aops_e (w0 rfl) rfl (eff_move rfl rfl) ?_
                refine aops_e (w0 rfl) rfl (eff_move rfl rfl) ?_
                refine aops_e (w0 rfl) rfl (eff_icmp rfl rfl rfl rfl) ?_
                refine aops_nil ?_
                refine awp_cond rfl ?_ ?_
                · intro hc
                  have hw1 : w.2 < b := by simpa using hc
                  refine awp_skip ?_
                  refine awp_seq ?_
                  refine awp_block ?_
                  refine awp_seq ?_
                  refine awp_seq ?_
                  refine awp_drawM [0, 0, 0, 6, 14, 0, 0, 64, 224, 480, 1023, 2047, 4095] 13 rfl (by kernel_rfl) ?_
                  refine calm_e (w0 rfl) rfl (eff_move rfl rfl) ?_
                  refine calm_e (w0 rfl) rfl (eff_move rfl rfl) ?_
                  refine calm_e (w0 rfl) rfl (eff_move rfl rfl) ?_
                  refine calm_e (w0 rfl) rfl (eff_indexAddr_ownN w.2 rfl rfl rfl (by first | omega | (simp only [List.length_map]; omega) | (simp only [List.length_map, List.length_drop]; omega)) (by first | omega | (simp only [List.length_map]; omega) | (simp only [List.length_map, List.length_drop]; omega)) (by omega)) ?_
                  refine calm_load_ptr 0 (w0 rfl) rfl rfl rfl rfl (own_getC (by first | assumption | omega | (simp only [List.length_drop]; omega))) (ld_aggC rfl) ?_
                  refine calm_e (w0 rfl) rfl (eff_move rfl rfl) ?_
                  refine calm_e (w0 rfl) rfl (eff_move rfl rfl) ?_
                  refine calm_e (w0 rfl) rfl (eff_arith rfl rfl rfl (arith_sub (by first | omega | (simp only [List.length_map]; omega)))) ?_
                  refine calm_e (w0 rfl) rfl (eff_indexAddr_ownN (w.2 - 1) rfl rfl rfl (by first | omega | (simp only [List.length_map]; omega) | (simp only [List.length_map, List.length_drop]; omega)) (by first | omega | (simp only [List.length_map]; omega) | (simp only [List.length_map, List.length_drop]; omega)) (by omega)) ?_
                  refine calm_load_ptr 0 (w0 rfl) rfl rfl rfl rfl (own_getC (by first | assumption | omega | (simp only [List.length_drop]; omega))) (ld_aggC rfl) ?_
                  refine calm_e (w0 rfl) rfl (eff_call [] rfl rfl rfl (c_cmpSite _ _) List.nodup_nil) ?_
                  refine calm_e (w0 rfl) rfl (eff_icmp rfl rfl rfl rfl) ?_
                  refine calm_e (w0 rfl) rfl (eff_not rfl rfl) ?_
                  refine .done ?_
                  refine aops_nil ?_
                  refine awp_cond rfl ?_ ?_
                  · intro hc
                    have hsw := hJ4.1
                    have hsa := hJ4.2.2.2
                    refine awp_exit ?_
                    refine awp_region ?_
                    refine aops_e (w0 rfl) rfl (eff_move rfl rfl) ?_
                    refine aops_e (w0 rfl) rfl (eff_arith rfl rfl rfl (arith_add (by first | omega | (simp only [List.length_map]; omega)))) ?_
                    refine aops_e (w0 rfl) rfl (eff_assign rfl rfl) ?_
                    refine aops_nil ?_
                    refine ⟨(w.1, u, x.2.2 + 1), ⟨hsw, (by (try simp only) <;> omega), (by (try simp only) <;> omega), (by (try simp only) <;> omega), hsa⟩, (by (try simp only) <;> omega), ?_⟩
                    exact weak_pick [0] ⟨rfl, rfl, rfl, rfl, rfl, rfl, trivial⟩ rfl (by decide) rfl rfl
                  · intro hc
                    refine awp_skip ?_
                    refine awp_drawW [0, 0, 0, 0, 8, 0, 0, 64, 224, 480, 0, 0, 3072, 7168, 16355, 32739, 65535, 131071] [15, 17] [9, 13] rfl (by kernel_rfl) ?_
                    refine wcalm_e (w0 rfl) rfl (eff_move rfl rfl) rfl ?_
                    refine wcalm_e (w0 rfl) rfl (eff_move rfl rfl) rfl ?_
                    refine wcalm_e (w0 rfl) rfl (eff_move rfl rfl) rfl ?_
                    refine wcalm_e (w0 rfl) rfl (eff_move rfl rfl) rfl ?_
                    refine wcalm_e (w0 rfl) rfl (eff_arith rfl rfl rfl (arith_sub (by first | omega | (simp only [List.length_map]; omega)))) rfl ?_
                    refine wcalm_e (w0 rfl) rfl (eff_move rfl rfl) rfl ?_
                    refine wcalm_e (w0 rfl) rfl (eff_move rfl rfl) rfl ?_
                    refine wcalm_e (w0 rfl) rfl (eff_arith rfl rfl rfl (arith_sub (by first | omega | (simp only [List.length_map]; omega)))) rfl ?_
                    refine wcalm_e (w0 rfl) rfl (eff_indexAddr_ownN (w.2 - 1) rfl rfl rfl (by first | omega | (simp only [List.length_map]; omega) | (simp only [List.length_map, List.length_drop]; omega)) (by first | omega | (simp only [List.length_map]; omega) | (simp only [List.length_map, List.length_drop]; omega)) (by omega)) rfl ?_
                    refine wcalm_load_ptr 0 (w0 rfl) rfl rfl rfl rfl (own_getC (by first | assumption | omega | (simp only [List.length_drop]; omega))) (ld_aggC rfl) rfl rfl ?_
                    refine wcalm_e (w0 rfl) rfl (eff_move rfl rfl) rfl ?_
                    refine wcalm_e (w0 rfl) rfl (eff_move rfl rfl) rfl ?_
                    refine wcalm_e (w0 rfl) rfl (eff_indexAddr_ownN w.2 rfl rfl rfl (by first | omega | (simp only [List.length_map]; omega) | (simp only [List.length_map, List.length_drop]; omega)) (by first | omega | (simp only [List.length_map]; omega) | (simp only [List.length_map, List.length_drop]; omega)) (by omega)) rfl ?_
                    refine wcalm_load_ptr 0 (w0 rfl) rfl rfl rfl rfl (own_getC (by first | assumption | omega | (simp only [List.length_drop]; omega))) (ld_aggC rfl) rfl rfl ?_
                    refine wcalm_e (w0 rfl) rfl (eff_indexAddr_ownN w.2 rfl rfl rfl (by first | omega | (simp only [List.length_map]; omega) | (simp only [List.length_map, List.length_drop]; omega)) (by first | omega | (simp only [List.length_map]; omega) | (simp only [List.length_map, List.length_drop]; omega)) (by omega)) rfl ?_
                    refine wcalm_storeC (f := Site.cells) 0 (fun _ => rfl) (fun _ => rfl) (w0 rfl) rfl rfl rfl rfl (by first | omega | (simp; omega)) rfl rfl ?_
                    refine wcalm_e (w0 rfl) rfl (eff_indexAddr_ownN (w.2 - 1) rfl rfl rfl (by first | omega | (simp only [List.length_map]; omega) | (simp only [List.length_map, List.length_drop]; omega)) (by first | omega | (simp only [List.length_map]; omega) | (simp only [List.length_map, List.length_drop]; omega)) (by omega)) rfl ?_
                    refine wcalm_storeC (f := Site.cells) 0 (fun _ => rfl) (fun _ => rfl) (w0 rfl) rfl rfl rfl rfl (by first | omega | (simp; omega)) rfl rfl ?_
                    refine .done ?_
                    refine awp_region ?_
                    refine aops_e (w0 rfl) rfl (eff_move rfl rfl) ?_
                    refine aops_e (w0 rfl) rfl (eff_arith rfl rfl rfl (arith_add (by first | omega | (simp only [List.length_map]; omega)))) ?_
                    refine aops_e (w0 rfl) rfl (eff_assign rfl rfl) ?_
                    refine aops_nil ?_
                    refine ⟨(swp w.1 w.2 (w.2 - 1), w.2 + 1), ⟨.step _ _ hJ4.1 (by (try simp only) <;> omega) (by (try simp only) <;> omega) (by (try simp only) <;> omega), (by (try simp only) <;> omega), (by (try simp only) <;> omega), hJ4.2.2.2.swp_ge (by (try simp only) <;> omega) (by (try simp only) <;> omega) (by (try simp only) <;> omega) (by (try simp only) <;> omega)⟩, (by (try simp only) <;> omega), ?_⟩
                    exact weak_pick [0] ⟨rfl, rfl, rfl, rfl, rfl, rfl, rfl, trivial⟩ rfl (by decide) rfl rfl
                · intro hc
                  have hsw := hJ4.1
                  have hsa := hJ4.2.2.2
                  refine awp_exit ?_
                  refine awp_region ?_
                  refine aops_e (w0 rfl) rfl (eff_move rfl rfl) ?_
                  refine aops_e (w0 rfl) rfl (eff_arith rfl rfl rfl (arith_add (by first | omega | (simp only [List.length_map]; omega)))) ?_
                  refine aops_e (w0 rfl) rfl (eff_assign rfl rfl) ?_
                  refine aops_nil ?_
                  refine ⟨(w.1, u, x.2.2 + 1), ⟨hsw, (by (try simp only) <;> omega), (by (try simp only) <;> omega), (by (try simp only) <;> omega), hsa⟩, (by (try simp only) <;> omega), ?_⟩
                  exact weak_pick [0] ⟨rfl, rfl, rfl, rfl, rfl, rfl, trivial⟩ rfl (by decide) rfl rfl
              · intro hc
                refine awp_skip ?_
                refine awp_region ?_
                refine aops_e (w0 rfl) rfl (eff_move rfl rfl) ?_
                refine aops_e (w0 rfl) rfl (eff_arith rfl rfl rfl (arith_add (by first | omega | (simp only [List.length_map]; omega)))) ?_
                refine aops_e (w0 rfl) rfl (eff_assign rfl rfl) ?_
                refine aops_nil ?_
                refine ⟨(y.1, u, x.2.2 + 1), ⟨hsw, (by (try simp only) <;> omega), (by (try simp only) <;> omega), (by (try simp only) <;> omega), hsa⟩, (by (try simp only) <;> omega), ?_⟩
                exact weak_pick [0] ⟨rfl, rfl, rfl, rfl, rfl, rfl, trivial⟩ rfl (by decide) rfl rfl
          · intro hc
            have hsw : Sw a b l (swp x.1 u (u - 1)) := .step _ _ hJ.1 (by omega) (by omega) (by omega)
            have hu2 : u = a + 1 := by simp at hc; omega
            have hsa : SAdj sLt a u (swp x.1 u (u - 1)) := SAdj.refl1 (by omega)
            refine awp_skip ?_
            refine awp_seq ?_
            refine awp_region ?_
            refine aops_e (w0 rfl) rfl (eff_move rfl rfl) ?_
            refine aops_e (w0 rfl) rfl (eff_move rfl rfl) ?_
            refine aops_e (w0 rfl) rfl (eff_arith rfl rfl rfl (arith_sub (by first | omega | (simp only [List.length_map]; omega)))) ?_
            refine aops_e (w0 rfl) rfl (eff_icmp rfl rfl rfl rfl) ?_
            refine aops_nil ?_
            refine awp_cond rfl ?_ ?_
            · intro hc
              have hu3 : u + 2 ≤ b := by simp at hc; omega
              refine awp_seq ?_
              refine awp_region ?_
              refine aops_e (w0 rfl) rfl (eff_move rfl rfl) ?_
              refine aops_e (w0 rfl) rfl (eff_arith rfl rfl rfl (arith_add (by first | omega | (simp only [List.length_map]; omega)))) ?_
              refine aops_e (w0 rfl) rfl (eff_assign rfl rfl) ?_
              refine aops_nil ?_
              refine awp_block ?_
              refine awp_loopJ (α := List Site × Nat) (fun w => ⟨[(12, iA w.2), (9, iA u), (10, iA x.2.2), (0, .own q 5 0 n), (1, iA a), (2, iA b), (3, .fn (.func 26) [])], [(q, .rows 26 5 (w.1.map Site.cells))], [], 141⟩) (fun w => Sw a b l w.1 ∧ u + 1 ≤ w.2 ∧ w.2 ≤ b ∧ SAdj sLt a u w.1) (fun w => b - w.2) ((swp x.1 u (u - 1)), u + 1) ⟨hsw, (by (try simp only) <;> omega), (by (try simp only) <;> omega), hsa⟩ ?_ ?_
              · exact weak_pick [0] ⟨rfl, rfl, rfl, rfl, rfl, rfl, rfl, trivial⟩ rfl (by decide) rfl rfl
              rintro w hJ4
              have hm4 := hJ4.1.len
              refine awp_seq ?_
              refine awp_seq ?_
              refine awp_region ?_
              refine aops_e (w0 rfl) rfl (eff_move rfl rfl) ?_
              refine aops_e (w0 rfl) rfl (eff_move rfl rfl) ?_
              refine aops_e (w0 rfl) rfl (eff_icmp rfl rfl rfl rfl) ?_
              refine aops_nil ?_
              refine awp_cond rfl ?_ ?_
              · intro hc
                have hw1 : w.2 < b := by simpa using hc
                refine awp_skip ?_
                refine awp_seq ?_
                refine awp_block ?_
                refine awp_seq ?_
                refine awp_seq ?_
                refine awp_drawM [0, 0, 0, 6, 14, 0, 0, 64, 224, 480, 1023, 2047, 4095] 13 rfl (by kernel_rfl) ?_
                refine calm_e (w0 rfl) rfl (eff_move rfl rfl) ?_
                refine calm_e (w0 rfl) rfl (eff_move rfl rfl) ?_
                refine calm_e (w0 rfl) rfl (eff_move rfl rfl) ?_
                refine calm_e (w0 rfl) rfl (eff_indexAddr_ownN w.2 rfl rfl rfl (by first | omega | (simp only [List.length_map]; omega) | (simp only [List.length_map, List.length_drop]; omega)) (by first | omega | (simp only [List.length_map]; omega) | (simp only [List.length_map, List.length_drop]; omega)) (by omega)) ?_
                refine calm_load_ptr 0 (w0 rfl) rfl rfl rfl rfl (own_getC (by first | assumption | omega | (simp only [List.length_drop]; omega))) (ld_aggC rfl) ?_
                refine calm_e (w0 rfl) rfl (eff_move rfl rfl) ?_
                refine calm_e (w0 rfl) rfl (eff_move rfl rfl) ?_
                refine calm_e (w0 rfl) rfl (eff_arith rfl rfl rfl (arith_sub (by first | omega | (simp only [List.length_map]; omega)))) ?_
                refine calm_e (w0 rfl) rfl (eff_indexAddr_ownN (w.2 - 1) rfl rfl rfl (by first | omega | (simp only [List.length_map]; omega) | (simp only [List.length_map, List.length_drop]; omega)) (by first | omega | (simp only [List.length_map]; omega) | (simp only [List.length_map, List.length_drop]; omega)) (by omega)) ?_
                refine calm_load_ptr 0 (w0 rfl) rfl rfl rfl rfl (own_getC (by first | assumption | omega | (simp only [List.length_drop]; omega))) (ld_aggC rfl) ?_
                refine calm_e (w0 rfl) rfl (eff_call [] rfl rfl rfl (c_cmpSite _ _) List.nodup_nil) ?_
                refine calm_e (w0 rfl) rfl (eff_icmp rfl rfl rfl rfl) ?_
                refine calm_e (w0 rfl) rfl (eff_not rfl rfl) ?_
                refine .done ?_
                refine aops_nil ?_
                refine awp_cond rfl ?_ ?_
                · intro hc
                  have hsw := hJ4.1
                  have hsa := hJ4.2.2.2
                  refine awp_exit ?_
                  refine awp_region ?_
                  refine aops_e (w0 rfl) rfl (eff_move rfl rfl) ?_
                  refine aops_e (w0 rfl) rfl (eff_arith rfl rfl rfl (arith_add (by first | omega | (simp only [List.length_map]; omega)))) ?_
                  refine aops_e (w0 rfl) rfl (eff_assign rfl rfl) ?_
                  refine aops_nil ?_
                  refine ⟨(w.1, u, x.2.2 + 1), ⟨hsw, (by (try simp only) <;> omega), (by (try simp only) <;> omega), (by (try simp only) <;> omega), hsa⟩, (by (try simp only) <;> omega), ?_⟩
                  exact weak_pick [0] ⟨rfl, rfl, rfl, rfl, rfl, rfl, trivial⟩ rfl (by decide) rfl rfl
                · intro hc
                  refine awp_skip ?_
                  refine awp_drawW [0, 0, 0, 0, 8, 0, 0, 64, 224, 480, 0, 0, 3072, 7168, 16355, 32739, 65535, 131071] [15, 17] [9, 13] rfl (by kernel_rfl) ?_
                  refine wcalm_e (w0 rfl) rfl (eff_move rfl rfl) rfl ?_
                  refine wcalm_e (w0 rfl) rfl (eff_move rfl rfl) rfl ?_
                  refine wcalm_e (w0 rfl) rfl (eff_move rfl rfl) rfl ?_
                  refine wcalm_e (w0 rfl) rfl (eff_move rfl rfl) rfl ?_
                  refine wcalm_e (w0 rfl) rfl (eff_arith rfl rfl rfl (arith_sub (by first | omega | (simp only [List.length_map]; omega)))) rfl ?_
                  refine wcalm_e (w0 rfl) rfl (eff_move rfl rfl) rfl ?_
                  refine wcalm_e (w0 rfl) rfl (eff_move rfl rfl) rfl ?_
                  refine wcalm_e (w0 rfl) rfl (eff_arith rfl rfl rfl (arith_sub (by first | omega | (simp only [List.length_map]; omega)))) rfl ?_
                  refine wcalm_e (w0 rfl) rfl (eff_indexAddr_ownN (w.2 - 1) rfl rfl rfl (by first | omega | (simp only [List.length_map]; omega) | (simp only [List.length_map, List.length_drop]; omega)) (by first | omega | (simp only [List.length_map]; omega) | (simp only [List.length_map, List.length_drop]; omega)) (by omega)) rfl ?_
                  refine wcalm_load_ptr 0 (w0 rfl) rfl rfl rfl rfl (own_getC (by first | assumption | omega | (simp only [List.length_drop]; omega))) (ld_aggC rfl) rfl rfl ?_
                  refine wcalm_e (w0 rfl) rfl (eff_move rfl rfl) rfl ?_
                  refine wcalm_e (w0 rfl) rfl (eff_move rfl rfl) rfl ?_
                  refine wcalm_e (w0 rfl) rfl (eff_indexAddr_ownN w.2 rfl rfl rfl (by first | omega | (simp only [List.length_map]; omega) | (simp only [List.length_map, List.length_drop]; omega)) (by first | omega | (simp only [List.length_map]; omega) | (simp only [List.length_map, List.length_drop]; omega)) (by omega)) rfl ?_
                  refine wcalm_load_ptr 0 (w0 rfl) rfl rfl rfl rfl (own_getC (by first | assumption | omega | (simp only [List.length_drop]; omega))) (ld_aggC rfl) rfl rfl ?_
                  refine wcalm_e (w0 rfl) rfl (eff_indexAddr_ownN w.2 rfl rfl rfl (by first | omega | (simp only [List.length_map]; omega) | (simp only [List.length_map, List.length_drop]; omega)) (by first | omega | (simp only [List.length_map]; omega) | (simp only [List.length_map, List.length_drop]; omega)) (by omega)) rfl ?_
                  refine wcalm_storeC (f := Site.cells) 0 (fun _ => rfl) (fun _ => rfl) (w0 rfl) rfl rfl rfl rfl (by first | omega | (simp; omega)) rfl rfl ?_
                  refine wcalm_e (w0 rfl) rfl (eff_indexAddr_ownN (w.2 - 1) rfl rfl rfl (by first | omega | (simp only [List.length_map]; omega) | (simp only [List.length_map, List.length_drop]; omega)) (by first | omega | (simp only [List.length_map]; omega) | (simp only [List.length_map, List.length_drop]; omega)) (by omega)) rfl ?_
                  refine wcalm_storeC (f := Site.cells) 0 (fun _ => rfl) (fun _ => rfl) (w0 rfl) rfl rfl rfl rfl (by first | omega | (simp; omega)) rfl rfl ?_
                  refine .done ?_
                  refine awp_region ?_
                  refine aops_e (w0 rfl) rfl (eff_move rfl rfl) ?_
                  refine aops_e (w0 rfl) rfl (eff_arith rfl rfl rfl (arith_add (by first | omega | (simp only [List.length_map]; omega)))) ?_
                  refine aops_e (w0 rfl) rfl (eff_assign rfl rfl) ?_
                  refine aops_nil ?_
                  refine ⟨(swp w.1 w.2 (w.2 - 1), w.2 + 1), ⟨.step _ _ hJ4.1 (by (try simp only) <;> omega) (by (try simp only) <;> omega) (by (try simp only) <;> omega), (by (try simp only) <;> omega), (by (try simp only) <;> omega), hJ4.2.2.2.swp_ge (by (try simp only) <;> omega) (by (try simp only) <;> omega) (by (try simp only) <;> omega) (by (try simp only) <;> omega)⟩, (by (try simp only) <;> omega), ?_⟩
                  exact weak_pick [0] ⟨rfl, rfl, rfl, rfl, rfl, rfl, rfl, trivial⟩ rfl (by decide) rfl rfl
              · intro hc
                have hsw := hJ4.1
                have hsa := hJ4.2.2.2
                refine awp_exit ?_
                refine awp_region ?_
                refine aops_e (w0 rfl) rfl (eff_move rfl rfl) ?_
                refine aops_e (w0 rfl) rfl (eff_arith rfl rfl rfl (arith_add (by first | omega | (simp only [List.length_map]; omega)))) ?_
                refine aops_e (w0 rfl) rfl (eff_assign rfl rfl) ?_
                refine aops_nil ?_
                refine ⟨(w.1, u, x.2.2 + 1), ⟨hsw, (by (try simp only) <;> omega), (by (try simp only) <;> omega), (by (try simp only) <;> omega), hsa⟩, (by (try simp only) <;> omega), ?_⟩
                exact weak_pick [0] ⟨rfl, rfl, rfl, rfl, rfl, rfl, trivial⟩ rfl (by decide) rfl rfl
            · intro hc
              refine awp_skip ?_
              refine awp_region ?_
              refine aops_e (w0 rfl) rfl (eff_move rfl rfl) ?_
              refine aops_e (w0 rfl) rfl (eff_arith rfl rfl rfl (arith_add (by first | omega | (simp only [List.length_map]; omega)))) ?_
              refine aops_e (w0 rfl) rfl (eff_assign rfl rfl) ?_
              refine aops_nil ?_
              refine ⟨((swp x.1 u (u - 1)), u, x.2.2 + 1), ⟨hsw, (by (try simp only) <;> omega), (by (try simp only) <;> omega), (by (try simp only) <;> omega), hsa⟩, (by (try simp only) <;> omega), ?_⟩
              exact weak_pick [0] ⟨rfl, rfl, rfl, rfl, rfl, rfl, trivial⟩ rfl (by decide) rfl rfl
  · intro hc
    refine awp_exit ?_
    refine awp_seq ?_
    refine awp_region ?_
    refine aops_e (w0 rfl) rfl (eff_assign rfl rfl) ?_
    refine aops_nil ?_
    refine awp_ret ?_
    exact retq_keep rfl (res_tmp rfl res_nil) (.cons_cons _ .slnil) (gp (x.1, false) ⟨hJ.1, nofun⟩ rfl rfl)

end Go.Sx
