/- Contracts of functions that give some value, walked. -/
import Derived.Test.YtkdnaiaacohfhaaSxJ
import Derived.Test.YtkdnaiaacohfhaaSxPlain
set_option linter.unusedVariables false
set_option linter.unusedSimpArgs false
namespace Go.Sx
open Go Go.Proofs

theorem w_within (n m : Int) : ACalls Try.prog 72 [iA n, iA m] [] (SomeB) := by
  refine acalls_of (n := 12) Try.func72 rfl (by decide +kernel) rfl rfl ?_
  refine awp_seq ?_
  refine awp_region ?_
  refine aops_e (w0 rfl) rfl (eff_assign rfl rfl) ?_
  refine aops_nil ?_
  refine awp_seq ?_
  refine awp_region ?_
  refine aops_e (w0 rfl) rfl (eff_move rfl rfl) ?_
  refine aops_e (w0 rfl) rfl (eff_icmp rfl rfl rfl rfl) ?_
  refine aops_e (w0 rfl) rfl (eff_move rfl rfl) ?_
  refine aops_g (wT rfl rfl rfl rfl) rfl (fun hg => (eff_move rfl rfl)) ?_
  refine aops_g (wT rfl rfl rfl rfl) rfl (fun hg => (eff_move rfl rfl)) ?_
  refine aops_g (wT rfl rfl rfl rfl) rfl (fun hg => (eff_icmp rfl (ev_g hg rfl) (ev_g hg rfl) rfl)) ?_
  refine aops_e (w0 rfl) rfl (eff_and rfl rfl rfl (fun h => h)) ?_
  refine aops_e (w0 rfl) rfl (eff_assign rfl rfl) ?_
  refine aops_nil ?_
  refine awp_ret ?_
  exact retq rfl (res_tmp rfl res_nil) gsomeB

theorem w_isCall (n : Int) : ACalls Try.prog 70 [iA n] [] (SomeB) := by
  refine acalls_of (n := 13) Try.func70 rfl (by decide +kernel) rfl rfl ?_
  refine awp_seq ?_
  refine awp_region ?_
  refine aops_e (w0 rfl) rfl (eff_assign rfl rfl) ?_
  refine aops_nil ?_
  refine awp_seq ?_
  refine awp_region ?_
  refine aops_e (w0 rfl) rfl (eff_move rfl rfl) ?_
  refine aops_e (w0 rfl) rfl (eff_icmp rfl rfl rfl rfl) ?_
  refine aops_e (w0 rfl) rfl (eff_move rfl rfl) ?_
  refine aops_g (wF rfl rfl rfl rfl) rfl (fun hg => (eff_move rfl rfl)) ?_
  refine aops_g (wF rfl rfl rfl rfl) rfl (fun hg => (eff_icmp rfl (ev_g hg rfl) rfl rfl)) ?_
  refine aops_e (w0 rfl) rfl (eff_or rfl rfl rfl (fun h => by rw [h]; rfl)) ?_
  refine aops_e (w0 rfl) rfl (eff_move rfl rfl) ?_
  refine aops_g (wF rfl rfl rfl rfl) rfl (fun hg => (eff_move rfl rfl)) ?_
  refine aops_g (wF rfl rfl rfl rfl) rfl (fun hg => (eff_icmp rfl (ev_g hg rfl) rfl rfl)) ?_
  refine aops_e (w0 rfl) rfl (eff_or rfl rfl rfl (fun h => by rw [h]; rfl)) ?_
  refine aops_e (w0 rfl) rfl (eff_assign rfl rfl) ?_
  refine aops_nil ?_
  refine awp_ret ?_
  exact retq rfl (res_tmp rfl res_nil) gsomeB

theorem w_letter (n : Int) : ACalls Try.prog 64 [uA n] [] (SomeB) := by
  refine acalls_of (n := 33) Try.func64 rfl (by decide +kernel) rfl rfl ?_
  refine awp_seq ?_
  refine awp_region ?_
  refine aops_e (w0 rfl) rfl (eff_assign rfl rfl) ?_
  refine aops_nil ?_
  refine awp_seq ?_
  refine awp_region ?_
  refine aops_e (w0 rfl) rfl (eff_move rfl rfl) ?_
  refine aops_e (w0 rfl) rfl (eff_icmp rfl rfl rfl rfl) ?_
  refine aops_e (w0 rfl) rfl (eff_move rfl rfl) ?_
  refine aops_g (wT rfl rfl rfl rfl) rfl (fun hg => (eff_move rfl rfl)) ?_
  refine aops_g (wT rfl rfl rfl rfl) rfl (fun hg => (eff_icmp rfl (ev_g hg rfl) rfl rfl)) ?_
  refine aops_e (w0 rfl) rfl (eff_and rfl rfl rfl (fun h => h)) ?_
  refine aops_e (w0 rfl) rfl (eff_move rfl rfl) ?_
  refine aops_g (wF rfl rfl rfl rfl) rfl (fun hg => (eff_move rfl rfl)) ?_
  refine aops_g (wF rfl rfl rfl rfl) rfl (fun hg => (eff_icmp rfl (ev_g hg rfl) rfl rfl)) ?_
  refine aops_g (wF rfl rfl rfl rfl) rfl (fun hg => (eff_move rfl (ev_g hg rfl))) ?_
  refine aops_g (wTg rfl rfl rfl rfl) rfl (fun hg => (eff_move rfl rfl)) ?_
  refine aops_g (wTg rfl rfl rfl rfl) rfl (fun hg => (eff_icmp rfl (ev_g hg rfl) rfl rfl)) ?_
  refine aops_g (wF rfl rfl rfl rfl) rfl (fun hg => (eff_and rfl (ev_g hg rfl) rfl (fun h => by first | (simp [h, hg]; done) | (simp_all; done)))) ?_
  refine aops_e (w0 rfl) rfl (eff_or rfl rfl rfl (fun h => by rw [h]; rfl)) ?_
  refine aops_e (w0 rfl) rfl (eff_move rfl rfl) ?_
  refine aops_g (wF rfl rfl rfl rfl) rfl (fun hg => (eff_move rfl rfl)) ?_
  refine aops_g (wF rfl rfl rfl rfl) rfl (fun hg => (eff_icmp rfl (ev_g hg rfl) rfl rfl)) ?_
  refine aops_g (wF rfl rfl rfl rfl) rfl (fun hg => (eff_move rfl (ev_g hg rfl))) ?_
  refine aops_g (wTg rfl rfl rfl rfl) rfl (fun hg => (eff_move rfl rfl)) ?_
  refine aops_g (wTg rfl rfl rfl rfl) rfl (fun hg => (eff_icmp rfl (ev_g hg rfl) rfl rfl)) ?_
  refine aops_g (wF rfl rfl rfl rfl) rfl (fun hg => (eff_and rfl (ev_g hg rfl) rfl (fun h => by first | (simp [h, hg]; done) | (simp_all; done)))) ?_
  refine aops_e (w0 rfl) rfl (eff_or rfl rfl rfl (fun h => by rw [h]; rfl)) ?_
  refine aops_e (w0 rfl) rfl (eff_move rfl rfl) ?_
  refine aops_g (wF rfl rfl rfl rfl) rfl (fun hg => (eff_move rfl rfl)) ?_
  refine aops_g (wF rfl rfl rfl rfl) rfl (fun hg => (eff_icmp rfl (ev_g hg rfl) rfl rfl)) ?_
  refine aops_e (w0 rfl) rfl (eff_or rfl rfl rfl (fun h => by rw [h]; rfl)) ?_
  refine aops_e (w0 rfl) rfl (eff_move rfl rfl) ?_
  refine aops_g (wF rfl rfl rfl rfl) rfl (fun hg => (eff_move rfl rfl)) ?_
  refine aops_g (wF rfl rfl rfl rfl) rfl (fun hg => (eff_icmp rfl (ev_g hg rfl) rfl rfl)) ?_
  refine aops_e (w0 rfl) rfl (eff_or rfl rfl rfl (fun h => by rw [h]; rfl)) ?_
  refine aops_e (w0 rfl) rfl (eff_assign rfl rfl) ?_
  refine aops_nil ?_
  refine awp_ret ?_
  exact retq rfl (res_tmp rfl res_nil) gsomeB

theorem w_has (u : Str) (n : Int) (hs : small u.size) : ACalls Try.prog 71 [sA u, uA n] [] (SomeB) := by
  unfold small at hs
  refine acalls_of (n := 17) Try.func71 rfl (by decide +kernel) rfl rfl ?_
  refine awp_seq ?_
  refine awp_region ?_
  refine aops_e (w0 rfl) rfl (eff_assign rfl rfl) ?_
  refine aops_nil ?_
  refine awp_seq ?_
  refine awp_seq ?_
  refine awp_region ?_
  refine aops_e (w0 rfl) rfl (eff_assign rfl rfl) ?_
  refine aops_nil ?_
  refine awp_block ?_
  refine awp_loopJ (α := Nat) (fun i => ⟨[(5, iA i), (0, sA u), (1, uA n)], [], [], 17⟩) (fun i => True) (fun i => u.size - i) 0 trivial ?_ ?_
  · exact weak_pick [] ⟨rfl, rfl, rfl, trivial⟩ rfl (by decide) rfl rfl
  rintro i hJ
  refine awp_seq ?_
  refine awp_seq ?_
  refine awp_region ?_
  refine aops_e (w0 rfl) rfl (eff_move rfl rfl) ?_
  refine aops_e (w0 rfl) rfl (eff_move rfl rfl) ?_
  refine aops_e (w0 rfl) rfl (eff_len rfl rfl rfl rfl) ?_
  refine aops_e (w0 rfl) rfl (eff_icmp rfl rfl rfl rfl) ?_
  refine aops_nil ?_
  refine awp_cond rfl ?_ ?_
  · intro hc
    have hi : i < u.size := by simpa using hc
    refine awp_skip ?_
    refine awp_seq ?_
    refine awp_block ?_
    refine awp_seq ?_
    refine awp_region ?_
    refine aops_e (w0 rfl) rfl (eff_move rfl rfl) ?_
    refine aops_e (w0 rfl) rfl (eff_move rfl rfl) ?_
    refine aops_e (w0 rfl) rfl (eff_sidx rfl rfl rfl (by first | omega | (simp only [List.length_map]; omega)) (by first | omega | (simp only [List.length_map]; omega))) ?_
    refine aops_e (w0 rfl) rfl (eff_move rfl rfl) ?_
    refine aops_e (w0 rfl) rfl (eff_icmp rfl rfl rfl rfl) ?_
    refine aops_nil ?_
    refine awp_cond rfl ?_ ?_
    · intro hc
      refine awp_seq ?_
      refine awp_region ?_
      refine aops_e (w0 rfl) rfl (eff_assign rfl rfl) ?_
      refine aops_nil ?_
      refine awp_ret ?_
      exact retq rfl (res_tmp rfl res_nil) gsomeB
    · intro hc
      refine awp_skip ?_
      refine awp_region ?_
      refine aops_e (w0 rfl) rfl (eff_move rfl rfl) ?_
      refine aops_e (w0 rfl) rfl (eff_arith rfl rfl rfl (arith_add (by first | omega | (simp only [List.length_map]; omega)))) ?_
      refine aops_e (w0 rfl) rfl (eff_assign rfl rfl) ?_
      refine aops_nil ?_
      refine ⟨i + 1, trivial, (by omega), ?_⟩
      exact weak_pick [] ⟨rfl, rfl, rfl, trivial⟩ rfl (by decide) rfl rfl
  · intro hc
    have hi : ¬ i < u.size := by simpa using hc
    refine awp_exit ?_
    refine awp_seq ?_
    refine awp_region ?_
    refine aops_e (w0 rfl) rfl (eff_assign rfl rfl) ?_
    refine aops_nil ?_
    refine awp_ret ?_
    exact retq rfl (res_tmp rfl res_nil) gsomeB

theorem w_all (u : Str) (n : Int) : ACalls Try.prog 58 [sA u, uA n] [] (SomeB) := by
  refine acalls_of (n := 32) Try.func58 rfl (by decide +kernel) rfl rfl ?_
  refine awp_seq ?_
  refine awp_region ?_
  refine aops_e (w0 rfl) rfl (eff_assign rfl rfl) ?_
  refine aops_nil ?_
  refine awp_seq ?_
  refine awp_seq ?_
  refine awp_region ?_
  refine aops_e (w0 rfl) rfl (eff_move rfl rfl) ?_
  refine aops_e (w0 rfl) rfl (eff_len rfl rfl rfl rfl) ?_
  refine aops_e (w0 rfl) rfl (eff_icmp rfl rfl rfl rfl) ?_
  refine aops_e (w0 rfl) rfl (eff_move rfl rfl) ?_
  refine aops_g (wF rfl rfl rfl rfl) rfl (fun hg => (eff_move rfl rfl)) ?_
  refine aops_g (wF rfl rfl rfl rfl) rfl (fun hg => (eff_len rfl (ev_g hg rfl) rfl rfl)) ?_
  refine aops_g (wF rfl rfl rfl rfl) rfl (fun hg => (eff_icmp rfl (ev_g hg rfl) rfl rfl)) ?_
  refine aops_e (w0 rfl) rfl (eff_or rfl rfl rfl (fun h => by rw [h]; rfl)) ?_
  refine aops_nil ?_
  refine awp_cond rfl ?_ ?_
  · intro hc
    refine awp_seq ?_
    refine awp_region ?_
    refine aops_e (w0 rfl) rfl (eff_assign rfl rfl) ?_
    refine aops_nil ?_
    refine awp_ret ?_
    exact retq rfl (res_tmp rfl res_nil) gsomeB
  · intro hc
    have hs : u.size ≤ 32 := by simp at hc; omega
    refine awp_skip ?_
    refine awp_seq ?_
    refine awp_seq ?_
    refine awp_region ?_
    refine aops_e (w0 rfl) rfl (eff_assign rfl rfl) ?_
    refine aops_nil ?_
    refine awp_block ?_
    refine awp_loopJ (α := Nat) (fun i => ⟨[(5, iA i), (0, sA u), (1, uA n)], [], [], 32⟩) (fun i => True) (fun i => u.size - i) 0 trivial ?_ ?_
    · exact weak_pick [] ⟨rfl, rfl, rfl, trivial⟩ rfl (by decide) rfl rfl
    rintro i hJ
    refine awp_seq ?_
    refine awp_seq ?_
    refine awp_region ?_
    refine aops_e (w0 rfl) rfl (eff_move rfl rfl) ?_
    refine aops_e (w0 rfl) rfl (eff_move rfl rfl) ?_
    refine aops_e (w0 rfl) rfl (eff_len rfl rfl rfl rfl) ?_
    refine aops_e (w0 rfl) rfl (eff_icmp rfl rfl rfl rfl) ?_
    refine aops_nil ?_
    refine awp_cond rfl ?_ ?_
    · intro hc
      have hi : i < u.size := by simpa using hc
      refine awp_skip ?_
      refine awp_seq ?_
      refine awp_block ?_
      refine awp_seq ?_
      refine awp_region ?_
      refine aops_e (w0 rfl) rfl (eff_move rfl rfl) ?_
      refine aops_e (w0 rfl) rfl (eff_move rfl rfl) ?_
      refine aops_e (w0 rfl) rfl (eff_sidx rfl rfl rfl (by first | omega | (simp only [List.length_map]; omega)) (by first | omega | (simp only [List.length_map]; omega))) ?_
      refine aops_callS (w0 rfl) rfl rfl rfl rfl (w_letter _) (fun v1 hv1 => ?_)
      refine aops_e (w0 rfl) rfl (eff_not rfl rfl) ?_
      refine aops_e (w0 rfl) rfl (eff_move rfl rfl) ?_
      refine aops_g (wT rfl rfl rfl rfl) rfl (fun hg => (eff_move rfl rfl)) ?_
      refine aops_g (wT rfl rfl rfl rfl) rfl (fun hg => (eff_move rfl rfl)) ?_
      refine aops_g (wT rfl rfl rfl rfl) rfl (fun hg => (eff_sidx rfl (ev_g hg rfl) (ev_g hg rfl) (by (try simp at hg) <;> first | omega | (simp only [List.length_map]; omega)) (by (try simp at hg) <;> first | omega | (simp only [List.length_map]; omega)))) ?_
      refine aops_g (wT rfl rfl rfl rfl) rfl (fun hg => (eff_move rfl rfl)) ?_
      refine aops_g (wT rfl rfl rfl rfl) rfl (fun hg => (eff_icmp rfl (ev_g hg rfl) (ev_g hg rfl) rfl)) ?_
      refine aops_e (w0 rfl) rfl (eff_and rfl rfl rfl (fun h => h)) ?_
      refine aops_nil ?_
      refine awp_cond rfl ?_ ?_
      · intro hc
        refine awp_seq ?_
        refine awp_region ?_
        refine aops_e (w0 rfl) rfl (eff_assign rfl rfl) ?_
        refine aops_nil ?_
        refine awp_ret ?_
        exact retq rfl (res_tmp rfl res_nil) gsomeB
      · intro hc
        refine awp_skip ?_
        refine awp_region ?_
        refine aops_e (w0 rfl) rfl (eff_move rfl rfl) ?_
        refine aops_e (w0 rfl) rfl (eff_arith rfl rfl rfl (arith_add (by first | omega | (simp only [List.length_map]; omega)))) ?_
        refine aops_e (w0 rfl) rfl (eff_assign rfl rfl) ?_
        refine aops_nil ?_
        refine ⟨i + 1, trivial, (by omega), ?_⟩
        exact weak_pick [] ⟨rfl, rfl, rfl, trivial⟩ rfl (by decide) rfl rfl
    · intro hc
      have hi : ¬ i < u.size := by simpa using hc
      refine awp_exit ?_
      refine awp_seq ?_
      refine awp_region ?_
      refine aops_e (w0 rfl) rfl (eff_assign rfl rfl) ?_
      refine aops_nil ?_
      refine awp_ret ?_
      exact retq rfl (res_tmp rfl res_nil) gsomeB

theorem w_class (u : Str) : ACalls Try.prog 47 [sA u] [] (SomeB) := by
  refine acalls_of (n := 5) Try.func47 rfl (by decide +kernel) rfl rfl ?_
  refine awp_seq ?_
  refine awp_region ?_
  refine aops_e (w0 rfl) rfl (eff_assign rfl rfl) ?_
  refine aops_nil ?_
  refine awp_seq ?_
  refine awp_region ?_
  refine aops_e (w0 rfl) rfl (eff_move rfl rfl) ?_
  refine aops_callS (w0 rfl) rfl rfl rfl rfl (w_all _ _) (fun v1 hv1 => ?_)
  refine aops_e (w0 rfl) rfl (eff_assign rfl rfl) ?_
  refine aops_nil ?_
  refine awp_ret ?_
  exact retq rfl (res_tmp rfl res_nil) gsomeB

theorem w_name (u : Str) : ACalls Try.prog 48 [sA u] [] (SomeB) := by
  refine acalls_of (n := 9) Try.func48 rfl (by decide +kernel) rfl rfl ?_
  refine awp_seq ?_
  refine awp_region ?_
  refine aops_e (w0 rfl) rfl (eff_assign rfl rfl) ?_
  refine aops_nil ?_
  refine awp_seq ?_
  refine awp_region ?_
  refine aops_e (w0 rfl) rfl (eff_move rfl rfl) ?_
  refine aops_e (w0 rfl) rfl (eff_scmp rfl rfl rfl rfl) ?_
  refine aops_e (w0 rfl) rfl (eff_move rfl rfl) ?_
  refine aops_g (wF rfl rfl rfl rfl) rfl (fun hg => (eff_move rfl rfl)) ?_
  refine aops_gcallS (wF rfl rfl rfl rfl) rfl rfl (fun hg => rfl) (fun hg => (evs_cons (ev_g hg rfl) (evs_cons rfl evs_nil))) (fun hg => (w_all _ _)) (fun v1 hv1 => ?_)
  refine aops_e (w0 rfl) rfl (eff_or rfl rfl rfl (fun h => by rw [h]; rfl)) ?_
  refine aops_e (w0 rfl) rfl (eff_assign rfl rfl) ?_
  refine aops_nil ?_
  refine awp_ret ?_
  exact retq rfl (res_tmp rfl res_nil) gsomeB

theorem w_rightT (t : Ty) : ACalls Try.prog 49 [t.av] [] (SomeB) := by
  refine acalls_of (n := 18) Try.func49 rfl (by decide +kernel) rfl rfl ?_
  refine awp_seq ?_
  refine awp_region ?_
  refine aops_n (w0 rfl) rfl (fun id => eff_box id rfl rfl rfl rfl rfl) (fun id1 => ?_)
  refine aops_e (w0 rfl) rfl (eff_assign rfl rfl) ?_
  refine aops_nil ?_
  refine awp_seq ?_
  refine awp_region ?_
  refine aops_e (w0 rfl) rfl (eff_fieldAddr rfl rfl rfl) ?_
  refine aops_load_ptr 0 (w0 rfl) rfl rfl rfl rfl rfl ld_one ?_
  refine aops_nil ?_
  refine awp_block ?_
  refine awp_seq ?_
  refine awp_seq ?_
  refine awp_region ?_
  refine aops_e (w0 rfl) rfl (eff_icmp rfl rfl rfl rfl) ?_
  refine aops_e (w0 rfl) rfl (eff_assign rfl rfl) ?_
  refine aops_nil ?_
  refine awp_cond rfl ?_ ?_
  · intro hc
    refine awp_skip ?_
    refine awp_cond rfl ?_ ?_
    · intro hc
      refine awp_seq ?_
      refine awp_region ?_
      refine aops_e (w0 rfl) rfl (eff_fieldAddr rfl rfl rfl) ?_
      refine aops_load_ptr 0 (w0 rfl) rfl rfl rfl rfl rfl ld_one ?_
      refine aops_e (w0 rfl) rfl (eff_scmp rfl rfl rfl rfl) ?_
      refine aops_e (w0 rfl) rfl (eff_assign rfl rfl) ?_
      refine aops_nil ?_
      refine awp_ret ?_
      exact retq rfl (res_tmp rfl res_nil) gsomeB
    · intro hd; exfalso; simp_all
  · intro hc
    refine awp_seq ?_
    refine awp_region ?_
    refine aops_e (w0 rfl) rfl (eff_icmp rfl rfl rfl rfl) ?_
    refine aops_e (w0 rfl) rfl (eff_assign rfl rfl) ?_
    refine aops_nil ?_
    refine awp_cond rfl ?_ ?_
    · intro hc
      refine awp_skip ?_
      refine awp_cond rfl ?_ ?_
      · intro hc
        refine awp_seq ?_
        refine awp_region ?_
        refine aops_e (w0 rfl) rfl (eff_fieldAddr rfl rfl rfl) ?_
        refine aops_load_ptr 0 (w0 rfl) rfl rfl rfl rfl rfl ld_one ?_
        refine aops_e (w0 rfl) rfl (eff_scmp rfl rfl rfl rfl) ?_
        refine aops_e (w0 rfl) rfl (eff_assign rfl rfl) ?_
        refine aops_nil ?_
        refine awp_ret ?_
        exact retq rfl (res_tmp rfl res_nil) gsomeB
      · intro hd; exfalso; simp_all
    · intro hc
      refine awp_region ?_
      refine aops_e (w0 rfl) rfl (eff_icmp rfl rfl rfl rfl) ?_
      refine aops_e (w0 rfl) rfl (eff_assign rfl rfl) ?_
      refine aops_nil ?_
      refine awp_cond rfl ?_ ?_
      · intro hc
        refine awp_seq ?_
        refine awp_region ?_
        refine aops_e (w0 rfl) rfl (eff_fieldAddr rfl rfl rfl) ?_
        refine aops_load_ptr 0 (w0 rfl) rfl rfl rfl rfl rfl ld_one ?_
        refine aops_e (w0 rfl) rfl (eff_scmp rfl rfl rfl rfl) ?_
        refine aops_e (w0 rfl) rfl (eff_assign rfl rfl) ?_
        refine aops_nil ?_
        refine awp_ret ?_
        exact retq rfl (res_tmp rfl res_nil) gsomeB
      · intro hc
        refine awp_seq ?_
        refine awp_seq ?_
        refine awp_region ?_
        refine aops_e (w0 rfl) rfl (eff_icmp rfl rfl rfl rfl) ?_
        refine aops_e (w0 rfl) rfl (eff_assign rfl rfl) ?_
        refine aops_nil ?_
        refine awp_cond rfl ?_ ?_
        · intro hc
          refine awp_skip ?_
          refine awp_cond rfl ?_ ?_
          · intro hc
            refine awp_seq ?_
            refine awp_region ?_
            refine aops_e (w0 rfl) rfl (eff_fieldAddr rfl rfl rfl) ?_
            refine aops_load_ptr 0 (w0 rfl) rfl rfl rfl rfl rfl ld_one ?_
            refine aops_callS (w0 rfl) rfl rfl rfl rfl (w_class _) (fun v2 hv2 => ?_)
            refine aops_e (w0 rfl) rfl (eff_assign rfl rfl) ?_
            refine aops_nil ?_
            refine awp_ret ?_
            exact retq rfl (res_tmp rfl res_nil) gsomeB
          · intro hd; exfalso; simp_all
        · intro hc
          refine awp_region ?_
          refine aops_e (w0 rfl) rfl (eff_icmp rfl rfl rfl rfl) ?_
          refine aops_e (w0 rfl) rfl (eff_assign rfl rfl) ?_
          refine aops_nil ?_
          refine awp_cond rfl ?_ ?_
          · intro hc
            refine awp_seq ?_
            refine awp_region ?_
            refine aops_e (w0 rfl) rfl (eff_fieldAddr rfl rfl rfl) ?_
            refine aops_load_ptr 0 (w0 rfl) rfl rfl rfl rfl rfl ld_one ?_
            refine aops_callS (w0 rfl) rfl rfl rfl rfl (w_class _) (fun v3 hv3 => ?_)
            refine aops_e (w0 rfl) rfl (eff_assign rfl rfl) ?_
            refine aops_nil ?_
            refine awp_ret ?_
            exact retq rfl (res_tmp rfl res_nil) gsomeB
          · intro hc
            refine awp_seq ?_
            refine awp_region ?_
            refine aops_e (w0 rfl) rfl (eff_assign rfl rfl) ?_
            refine aops_nil ?_
            refine awp_ret ?_
            exact retq rfl (res_tmp rfl res_nil) gsomeB

theorem w_shape (n : Int) : ACalls Try.prog 67 [iA n] [] (GSome sA (fun s => s.size ≤ 4)) := by
  refine acalls_of (n := 51) Try.func67 rfl (by decide +kernel) rfl rfl ?_
  refine awp_seq ?_
  refine awp_region ?_
  refine aops_e (w0 rfl) rfl (eff_assign rfl rfl) ?_
  refine aops_nil ?_
  refine awp_seq ?_
  refine awp_region ?_
  refine aops_e (w0 rfl) rfl (eff_move rfl rfl) ?_
  refine aops_nil ?_
  refine awp_block ?_
  refine awp_seq ?_
  refine awp_region ?_
  refine aops_e (w0 rfl) rfl (eff_icmp rfl rfl rfl rfl) ?_
  refine aops_e (w0 rfl) rfl (eff_assign rfl rfl) ?_
  refine aops_nil ?_
  refine awp_cond rfl ?_ ?_
  · intro hc
    refine awp_seq ?_
    refine awp_region ?_
    refine aops_e (w0 rfl) rfl (eff_assign rfl rfl) ?_
    refine aops_nil ?_
    refine awp_ret ?_
    exact retq rfl (res_tmp rfl res_nil) (gsome _ (by decide) rfl)
  · intro hc
    refine awp_seq ?_
    refine awp_seq ?_
    refine awp_region ?_
    refine aops_e (w0 rfl) rfl (eff_icmp rfl rfl rfl rfl) ?_
    refine aops_e (w0 rfl) rfl (eff_assign rfl rfl) ?_
    refine aops_nil ?_
    refine awp_cond rfl ?_ ?_
    · intro hc
      refine awp_skip ?_
      refine awp_cond rfl ?_ ?_
      · intro hc
        refine awp_seq ?_
        refine awp_region ?_
        refine aops_e (w0 rfl) rfl (eff_assign rfl rfl) ?_
        refine aops_nil ?_
        refine awp_ret ?_
        exact retq rfl (res_tmp rfl res_nil) (gsome _ (by decide) rfl)
      · intro hd; exfalso; simp_all
    · intro hc
      refine awp_region ?_
      refine aops_e (w0 rfl) rfl (eff_icmp rfl rfl rfl rfl) ?_
      refine aops_e (w0 rfl) rfl (eff_assign rfl rfl) ?_
      refine aops_nil ?_
      refine awp_cond rfl ?_ ?_
      · intro hc
        refine awp_seq ?_
        refine awp_region ?_
        refine aops_e (w0 rfl) rfl (eff_assign rfl rfl) ?_
        refine aops_nil ?_
        refine awp_ret ?_
        exact retq rfl (res_tmp rfl res_nil) (gsome _ (by decide) rfl)
      · intro hc
        refine awp_seq ?_
        refine awp_seq ?_
        refine awp_region ?_
        refine aops_e (w0 rfl) rfl (eff_icmp rfl rfl rfl rfl) ?_
        refine aops_e (w0 rfl) rfl (eff_assign rfl rfl) ?_
        refine aops_nil ?_
        refine awp_cond rfl ?_ ?_
        · intro hc
          refine awp_skip ?_
          refine awp_cond rfl ?_ ?_
          · intro hc
            refine awp_seq ?_
            refine awp_region ?_
            refine aops_e (w0 rfl) rfl (eff_assign rfl rfl) ?_
            refine aops_nil ?_
            refine awp_ret ?_
            exact retq rfl (res_tmp rfl res_nil) (gsome _ (by decide) rfl)
          · intro hd; exfalso; simp_all
        · intro hc
          refine awp_seq ?_
          refine awp_region ?_
          refine aops_e (w0 rfl) rfl (eff_icmp rfl rfl rfl rfl) ?_
          refine aops_e (w0 rfl) rfl (eff_assign rfl rfl) ?_
          refine aops_nil ?_
          refine awp_cond rfl ?_ ?_
          · intro hc
            refine awp_skip ?_
            refine awp_cond rfl ?_ ?_
            · intro hc
              refine awp_seq ?_
              refine awp_region ?_
              refine aops_e (w0 rfl) rfl (eff_assign rfl rfl) ?_
              refine aops_nil ?_
              refine awp_ret ?_
              exact retq rfl (res_tmp rfl res_nil) (gsome _ (by decide) rfl)
            · intro hd; exfalso; simp_all
          · intro hc
            refine awp_seq ?_
            refine awp_region ?_
            refine aops_e (w0 rfl) rfl (eff_icmp rfl rfl rfl rfl) ?_
            refine aops_e (w0 rfl) rfl (eff_assign rfl rfl) ?_
            refine aops_nil ?_
            refine awp_cond rfl ?_ ?_
            · intro hc
              refine awp_skip ?_
              refine awp_cond rfl ?_ ?_
              · intro hc
                refine awp_seq ?_
                refine awp_region ?_
                refine aops_e (w0 rfl) rfl (eff_assign rfl rfl) ?_
                refine aops_nil ?_
                refine awp_ret ?_
                exact retq rfl (res_tmp rfl res_nil) (gsome _ (by decide) rfl)
              · intro hd; exfalso; simp_all
            · intro hc
              refine awp_seq ?_
              refine awp_region ?_
              refine aops_e (w0 rfl) rfl (eff_icmp rfl rfl rfl rfl) ?_
              refine aops_e (w0 rfl) rfl (eff_assign rfl rfl) ?_
              refine aops_nil ?_
              refine awp_cond rfl ?_ ?_
              · intro hc
                refine awp_skip ?_
                refine awp_cond rfl ?_ ?_
                · intro hc
                  refine awp_seq ?_
                  refine awp_region ?_
                  refine aops_e (w0 rfl) rfl (eff_assign rfl rfl) ?_
                  refine aops_nil ?_
                  refine awp_ret ?_
                  exact retq rfl (res_tmp rfl res_nil) (gsome _ (by decide) rfl)
                · intro hd; exfalso; simp_all
              · intro hc
                refine awp_region ?_
                refine aops_e (w0 rfl) rfl (eff_icmp rfl rfl rfl rfl) ?_
                refine aops_e (w0 rfl) rfl (eff_assign rfl rfl) ?_
                refine aops_nil ?_
                refine awp_cond rfl ?_ ?_
                · intro hc
                  refine awp_seq ?_
                  refine awp_region ?_
                  refine aops_e (w0 rfl) rfl (eff_assign rfl rfl) ?_
                  refine aops_nil ?_
                  refine awp_ret ?_
                  exact retq rfl (res_tmp rfl res_nil) (gsome _ (by decide) rfl)
                · intro hc
                  refine awp_seq ?_
                  refine awp_region ?_
                  refine aops_e (w0 rfl) rfl (eff_icmp rfl rfl rfl rfl) ?_
                  refine aops_e (w0 rfl) rfl (eff_assign rfl rfl) ?_
                  refine aops_nil ?_
                  refine awp_cond rfl ?_ ?_
                  · intro hc
                    refine awp_seq ?_
                    refine awp_region ?_
                    refine aops_e (w0 rfl) rfl (eff_assign rfl rfl) ?_
                    refine aops_nil ?_
                    refine awp_ret ?_
                    exact retq rfl (res_tmp rfl res_nil) (gsome _ (by decide) rfl)
                  · intro hc
                    refine awp_seq ?_
                    refine awp_region ?_
                    refine aops_e (w0 rfl) rfl (eff_icmp rfl rfl rfl rfl) ?_
                    refine aops_e (w0 rfl) rfl (eff_assign rfl rfl) ?_
                    refine aops_nil ?_
                    refine awp_cond rfl ?_ ?_
                    · intro hc
                      refine awp_seq ?_
                      refine awp_region ?_
                      refine aops_e (w0 rfl) rfl (eff_assign rfl rfl) ?_
                      refine aops_nil ?_
                      refine awp_ret ?_
                      exact retq rfl (res_tmp rfl res_nil) (gsome _ (by decide) rfl)
                    · intro hc
                      refine awp_seq ?_
                      refine awp_seq ?_
                      refine awp_region ?_
                      refine aops_e (w0 rfl) rfl (eff_icmp rfl rfl rfl rfl) ?_
                      refine aops_e (w0 rfl) rfl (eff_assign rfl rfl) ?_
                      refine aops_nil ?_
                      refine awp_cond rfl ?_ ?_
                      · intro hc
                        refine awp_skip ?_
                        refine awp_cond rfl ?_ ?_
                        · intro hc
                          refine awp_seq ?_
                          refine awp_region ?_
                          refine aops_e (w0 rfl) rfl (eff_assign rfl rfl) ?_
                          refine aops_nil ?_
                          refine awp_ret ?_
                          exact retq rfl (res_tmp rfl res_nil) (gsome _ (by decide) rfl)
                        · intro hd; exfalso; simp_all
                      · intro hc
                        refine awp_region ?_
                        refine aops_e (w0 rfl) rfl (eff_icmp rfl rfl rfl rfl) ?_
                        refine aops_e (w0 rfl) rfl (eff_assign rfl rfl) ?_
                        refine aops_nil ?_
                        refine awp_cond rfl ?_ ?_
                        · intro hc
                          refine awp_seq ?_
                          refine awp_region ?_
                          refine aops_e (w0 rfl) rfl (eff_assign rfl rfl) ?_
                          refine aops_nil ?_
                          refine awp_ret ?_
                          exact retq rfl (res_tmp rfl res_nil) (gsome _ (by decide) rfl)
                        · intro hc
                          refine awp_seq ?_
                          refine awp_region ?_
                          refine aops_e (w0 rfl) rfl (eff_icmp rfl rfl rfl rfl) ?_
                          refine aops_e (w0 rfl) rfl (eff_assign rfl rfl) ?_
                          refine aops_nil ?_
                          refine awp_cond rfl ?_ ?_
                          · intro hc
                            refine awp_seq ?_
                            refine awp_region ?_
                            refine aops_e (w0 rfl) rfl (eff_assign rfl rfl) ?_
                            refine aops_nil ?_
                            refine awp_ret ?_
                            exact retq rfl (res_tmp rfl res_nil) (gsome _ (by decide) rfl)
                          · intro hc
                            refine awp_seq ?_
                            refine awp_seq ?_
                            refine awp_region ?_
                            refine aops_e (w0 rfl) rfl (eff_icmp rfl rfl rfl rfl) ?_
                            refine aops_e (w0 rfl) rfl (eff_assign rfl rfl) ?_
                            refine aops_nil ?_
                            refine awp_cond rfl ?_ ?_
                            · intro hc
                              refine awp_skip ?_
                              refine awp_cond rfl ?_ ?_
                              · intro hc
                                refine awp_seq ?_
                                refine awp_region ?_
                                refine aops_e (w0 rfl) rfl (eff_assign rfl rfl) ?_
                                refine aops_nil ?_
                                refine awp_ret ?_
                                exact retq rfl (res_tmp rfl res_nil) (gsome _ (by decide) rfl)
                              · intro hd; exfalso; simp_all
                            · intro hc
                              refine awp_seq ?_
                              refine awp_region ?_
                              refine aops_e (w0 rfl) rfl (eff_icmp rfl rfl rfl rfl) ?_
                              refine aops_e (w0 rfl) rfl (eff_assign rfl rfl) ?_
                              refine aops_nil ?_
                              refine awp_cond rfl ?_ ?_
                              · intro hc
                                refine awp_skip ?_
                                refine awp_cond rfl ?_ ?_
                                · intro hc
                                  refine awp_seq ?_
                                  refine awp_region ?_
                                  refine aops_e (w0 rfl) rfl (eff_assign rfl rfl) ?_
                                  refine aops_nil ?_
                                  refine awp_ret ?_
                                  exact retq rfl (res_tmp rfl res_nil) (gsome _ (by decide) rfl)
                                · intro hd; exfalso; simp_all
                              · intro hc
                                refine awp_region ?_
                                refine aops_e (w0 rfl) rfl (eff_icmp rfl rfl rfl rfl) ?_
                                refine aops_e (w0 rfl) rfl (eff_assign rfl rfl) ?_
                                refine aops_nil ?_
                                refine awp_cond rfl ?_ ?_
                                · intro hc
                                  refine awp_seq ?_
                                  refine awp_region ?_
                                  refine aops_e (w0 rfl) rfl (eff_assign rfl rfl) ?_
                                  refine aops_nil ?_
                                  refine awp_ret ?_
                                  exact retq rfl (res_tmp rfl res_nil) (gsome _ (by decide) rfl)
                                · intro hc
                                  refine awp_seq ?_
                                  refine awp_seq ?_
                                  refine awp_region ?_
                                  refine aops_e (w0 rfl) rfl (eff_icmp rfl rfl rfl rfl) ?_
                                  refine aops_e (w0 rfl) rfl (eff_assign rfl rfl) ?_
                                  refine aops_nil ?_
                                  refine awp_cond rfl ?_ ?_
                                  · intro hc
                                    refine awp_skip ?_
                                    refine awp_cond rfl ?_ ?_
                                    · intro hc
                                      refine awp_seq ?_
                                      refine awp_region ?_
                                      refine aops_e (w0 rfl) rfl (eff_assign rfl rfl) ?_
                                      refine aops_nil ?_
                                      refine awp_ret ?_
                                      exact retq rfl (res_tmp rfl res_nil) (gsome _ (by decide) rfl)
                                    · intro hd; exfalso; simp_all
                                  · intro hc
                                    refine awp_region ?_
                                    refine aops_e (w0 rfl) rfl (eff_icmp rfl rfl rfl rfl) ?_
                                    refine aops_e (w0 rfl) rfl (eff_assign rfl rfl) ?_
                                    refine aops_nil ?_
                                    refine awp_cond rfl ?_ ?_
                                    · intro hc
                                      refine awp_seq ?_
                                      refine awp_region ?_
                                      refine aops_e (w0 rfl) rfl (eff_assign rfl rfl) ?_
                                      refine aops_nil ?_
                                      refine awp_ret ?_
                                      exact retq rfl (res_tmp rfl res_nil) (gsome _ (by decide) rfl)
                                    · intro hc
                                      refine awp_seq ?_
                                      refine awp_region ?_
                                      refine aops_e (w0 rfl) rfl (eff_icmp rfl rfl rfl rfl) ?_
                                      refine aops_e (w0 rfl) rfl (eff_assign rfl rfl) ?_
                                      refine aops_nil ?_
                                      refine awp_cond rfl ?_ ?_
                                      · intro hc
                                        refine awp_seq ?_
                                        refine awp_region ?_
                                        refine aops_e (w0 rfl) rfl (eff_assign rfl rfl) ?_
                                        refine aops_nil ?_
                                        refine awp_ret ?_
                                        exact retq rfl (res_tmp rfl res_nil) (gsome _ (by decide) rfl)
                                      · intro hc
                                        refine awp_seq ?_
                                        refine awp_region ?_
                                        refine aops_e (w0 rfl) rfl (eff_icmp rfl rfl rfl rfl) ?_
                                        refine aops_e (w0 rfl) rfl (eff_assign rfl rfl) ?_
                                        refine aops_nil ?_
                                        refine awp_cond rfl ?_ ?_
                                        · intro hc
                                          refine awp_seq ?_
                                          refine awp_region ?_
                                          refine aops_e (w0 rfl) rfl (eff_assign rfl rfl) ?_
                                          refine aops_nil ?_
                                          refine awp_ret ?_
                                          exact retq rfl (res_tmp rfl res_nil) (gsome _ (by decide) rfl)
                                        · intro hc
                                          refine awp_seq ?_
                                          refine awp_region ?_
                                          refine aops_e (w0 rfl) rfl (eff_icmp rfl rfl rfl rfl) ?_
                                          refine aops_e (w0 rfl) rfl (eff_assign rfl rfl) ?_
                                          refine aops_nil ?_
                                          refine awp_cond rfl ?_ ?_
                                          · intro hc
                                            refine awp_seq ?_
                                            refine awp_region ?_
                                            refine aops_e (w0 rfl) rfl (eff_assign rfl rfl) ?_
                                            refine aops_nil ?_
                                            refine awp_ret ?_
                                            exact retq rfl (res_tmp rfl res_nil) (gsome _ (by decide) rfl)
                                          · intro hc
                                            refine awp_seq ?_
                                            refine awp_region ?_
                                            refine aops_e (w0 rfl) rfl (eff_icmp rfl rfl rfl rfl) ?_
                                            refine aops_e (w0 rfl) rfl (eff_assign rfl rfl) ?_
                                            refine aops_nil ?_
                                            refine awp_cond rfl ?_ ?_
                                            · intro hc
                                              refine awp_seq ?_
                                              refine awp_region ?_
                                              refine aops_e (w0 rfl) rfl (eff_assign rfl rfl) ?_
                                              refine aops_nil ?_
                                              refine awp_ret ?_
                                              exact retq rfl (res_tmp rfl res_nil) (gsome _ (by decide) rfl)
                                            · intro hc
                                              refine awp_seq ?_
                                              refine awp_seq ?_
                                              refine awp_region ?_
                                              refine aops_e (w0 rfl) rfl (eff_icmp rfl rfl rfl rfl) ?_
                                              refine aops_e (w0 rfl) rfl (eff_assign rfl rfl) ?_
                                              refine aops_nil ?_
                                              refine awp_cond rfl ?_ ?_
                                              · intro hc
                                                refine awp_skip ?_
                                                refine awp_cond rfl ?_ ?_
                                                · intro hc
                                                  refine awp_seq ?_
                                                  refine awp_region ?_
                                                  refine aops_e (w0 rfl) rfl (eff_assign rfl rfl) ?_
                                                  refine aops_nil ?_
                                                  refine awp_ret ?_
                                                  exact retq rfl (res_tmp rfl res_nil) (gsome _ (by decide) rfl)
                                                · intro hd; exfalso; simp_all
                                              · intro hc
                                                refine awp_seq ?_
                                                refine awp_region ?_
                                                refine aops_e (w0 rfl) rfl (eff_icmp rfl rfl rfl rfl) ?_
                                                refine aops_e (w0 rfl) rfl (eff_assign rfl rfl) ?_
                                                refine aops_nil ?_
                                                refine awp_cond rfl ?_ ?_
                                                · intro hc
                                                  refine awp_skip ?_
                                                  refine awp_cond rfl ?_ ?_
                                                  · intro hc
                                                    refine awp_seq ?_
                                                    refine awp_region ?_
                                                    refine aops_e (w0 rfl) rfl (eff_assign rfl rfl) ?_
                                                    refine aops_nil ?_
                                                    refine awp_ret ?_
                                                    exact retq rfl (res_tmp rfl res_nil) (gsome _ (by decide) rfl)
                                                  · intro hd; exfalso; simp_all
                                                · intro hc
                                                  refine awp_region ?_
                                                  refine aops_e (w0 rfl) rfl (eff_icmp rfl rfl rfl rfl) ?_
                                                  refine aops_e (w0 rfl) rfl (eff_assign rfl rfl) ?_
                                                  refine aops_nil ?_
                                                  refine awp_cond rfl ?_ ?_
                                                  · intro hc
                                                    refine awp_seq ?_
                                                    refine awp_region ?_
                                                    refine aops_e (w0 rfl) rfl (eff_assign rfl rfl) ?_
                                                    refine aops_nil ?_
                                                    refine awp_ret ?_
                                                    exact retq rfl (res_tmp rfl res_nil) (gsome _ (by decide) rfl)
                                                  · intro hc
                                                    refine awp_seq ?_
                                                    refine awp_seq ?_
                                                    refine awp_region ?_
                                                    refine aops_e (w0 rfl) rfl (eff_icmp rfl rfl rfl rfl) ?_
                                                    refine aops_e (w0 rfl) rfl (eff_assign rfl rfl) ?_
                                                    refine aops_nil ?_
                                                    refine awp_cond rfl ?_ ?_
                                                    · intro hc
                                                      refine awp_skip ?_
                                                      refine awp_cond rfl ?_ ?_
                                                      · intro hc
                                                        refine awp_seq ?_
                                                        refine awp_region ?_
                                                        refine aops_e (w0 rfl) rfl (eff_assign rfl rfl) ?_
                                                        refine aops_nil ?_
                                                        refine awp_ret ?_
                                                        exact retq rfl (res_tmp rfl res_nil) (gsome _ (by decide) rfl)
                                                      · intro hd; exfalso; simp_all
                                                    · intro hc
                                                      refine awp_seq ?_
                                                      refine awp_region ?_
                                                      refine aops_e (w0 rfl) rfl (eff_icmp rfl rfl rfl rfl) ?_
                                                      refine aops_e (w0 rfl) rfl (eff_assign rfl rfl) ?_
                                                      refine aops_nil ?_
                                                      refine awp_cond rfl ?_ ?_
                                                      · intro hc
                                                        refine awp_skip ?_
                                                        refine awp_cond rfl ?_ ?_
                                                        · intro hc
                                                          refine awp_seq ?_
                                                          refine awp_region ?_
                                                          refine aops_e (w0 rfl) rfl (eff_assign rfl rfl) ?_
                                                          refine aops_nil ?_
                                                          refine awp_ret ?_
                                                          exact retq rfl (res_tmp rfl res_nil) (gsome _ (by decide) rfl)
                                                        · intro hd; exfalso; simp_all
                                                      · intro hc
                                                        refine awp_region ?_
                                                        refine aops_e (w0 rfl) rfl (eff_icmp rfl rfl rfl rfl) ?_
                                                        refine aops_e (w0 rfl) rfl (eff_assign rfl rfl) ?_
                                                        refine aops_nil ?_
                                                        refine awp_cond rfl ?_ ?_
                                                        · intro hc
                                                          refine awp_seq ?_
                                                          refine awp_region ?_
                                                          refine aops_e (w0 rfl) rfl (eff_assign rfl rfl) ?_
                                                          refine aops_nil ?_
                                                          refine awp_ret ?_
                                                          exact retq rfl (res_tmp rfl res_nil) (gsome _ (by decide) rfl)
                                                        · intro hc
                                                          refine awp_seq ?_
                                                          refine awp_region ?_
                                                          refine aops_e (w0 rfl) rfl (eff_icmp rfl rfl rfl rfl) ?_
                                                          refine aops_e (w0 rfl) rfl (eff_assign rfl rfl) ?_
                                                          refine aops_nil ?_
                                                          refine awp_cond rfl ?_ ?_
                                                          · intro hc
                                                            refine awp_seq ?_
                                                            refine awp_region ?_
                                                            refine aops_e (w0 rfl) rfl (eff_assign rfl rfl) ?_
                                                            refine aops_nil ?_
                                                            refine awp_ret ?_
                                                            exact retq rfl (res_tmp rfl res_nil) (gsome _ (by decide) rfl)
                                                          · intro hc
                                                            refine awp_seq ?_
                                                            refine awp_region ?_
                                                            refine aops_e (w0 rfl) rfl (eff_icmp rfl rfl rfl rfl) ?_
                                                            refine aops_e (w0 rfl) rfl (eff_assign rfl rfl) ?_
                                                            refine aops_nil ?_
                                                            refine awp_cond rfl ?_ ?_
                                                            · intro hc
                                                              refine awp_seq ?_
                                                              refine awp_region ?_
                                                              refine aops_e (w0 rfl) rfl (eff_assign rfl rfl) ?_
                                                              refine aops_nil ?_
                                                              refine awp_ret ?_
                                                              exact retq rfl (res_tmp rfl res_nil) (gsome _ (by decide) rfl)
                                                            · intro hc
                                                              refine awp_seq ?_
                                                              refine awp_region ?_
                                                              refine aops_e (w0 rfl) rfl (eff_assign rfl rfl) ?_
                                                              refine aops_nil ?_
                                                              refine awp_ret ?_
                                                              exact retq rfl (res_tmp rfl res_nil) (gsome _ (by decide) rfl)

def belowM (a b : Meth) : Bool := ltS a.name b.name || (beqS a.name b.name && ltS a.desc b.desc)

theorem c_below08 (a b : Meth) : ACalls Try.prog 61 [.agg a.cells, .agg b.cells] [] (Gives (bA (belowM a b))) := by
  refine acalls_of (n := 24) Try.func61 rfl (by decide +kernel) rfl rfl ?_
  refine awp_seq ?_
  refine awp_region ?_
  refine aops_n (w0 rfl) rfl (fun id => eff_box id rfl rfl rfl rfl rfl) (fun id1 => ?_)
  refine aops_n (w0 rfl) rfl (fun id => eff_box id rfl rfl rfl rfl rfl) (fun id2 => ?_)
  refine aops_e (w0 rfl) rfl (eff_assign rfl rfl) ?_
  refine aops_nil ?_
  refine awp_seq ?_
  refine awp_region ?_
  refine aops_e (w0 rfl) rfl (eff_fieldAddr rfl rfl rfl) ?_
  refine aops_load_ptr 1 (w0 rfl) rfl rfl rfl rfl rfl ld_one ?_
  refine aops_e (w0 rfl) rfl (eff_fieldAddr rfl rfl rfl) ?_
  refine aops_load_ptr 0 (w0 rfl) rfl rfl rfl rfl rfl ld_one ?_
  refine aops_e (w0 rfl) rfl (eff_scmp rfl rfl rfl rfl) ?_
  refine aops_e (w0 rfl) rfl (eff_move rfl rfl) ?_
  refine aops_g (wF rfl rfl rfl rfl) rfl (fun hg => (eff_fieldAddr rfl rfl rfl)) ?_
  refine aops_gload 1 (wF rfl rfl rfl rfl) rfl rfl (fun hg => (ev_g hg rfl)) rfl rfl ld_one ?_
  refine aops_g (wF rfl rfl rfl rfl) rfl (fun hg => (eff_fieldAddr rfl rfl rfl)) ?_
  refine aops_gload 0 (wF rfl rfl rfl rfl) rfl rfl (fun hg => (ev_g hg rfl)) rfl rfl ld_one ?_
  refine aops_g (wF rfl rfl rfl rfl) rfl (fun hg => (eff_scmp rfl (ev_g hg rfl) (ev_g hg rfl) rfl)) ?_
  refine aops_g (wF rfl rfl rfl rfl) rfl (fun hg => (eff_move rfl (ev_g hg rfl))) ?_
  refine aops_g (wTg rfl rfl rfl rfl) rfl (fun hg => (eff_fieldAddr rfl rfl rfl)) ?_
  refine aops_gload 1 (wTg rfl rfl rfl rfl) rfl rfl (fun hg => (ev_g hg rfl)) rfl rfl ld_one ?_
  refine aops_g (wTg rfl rfl rfl rfl) rfl (fun hg => (eff_fieldAddr rfl rfl rfl)) ?_
  refine aops_gload 0 (wTg rfl rfl rfl rfl) rfl rfl (fun hg => (ev_g hg rfl)) rfl rfl ld_one ?_
  refine aops_g (wTg rfl rfl rfl rfl) rfl (fun hg => (eff_scmp rfl (ev_g hg rfl) (ev_g hg rfl) rfl)) ?_
  refine aops_g (wF rfl rfl rfl rfl) rfl (fun hg => (eff_and rfl (ev_g hg rfl) rfl (fun h => by first | (simp [h, hg]; done) | (simp_all; done)))) ?_
  refine aops_e (w0 rfl) rfl (eff_or rfl rfl rfl (fun h => by rw [h]; rfl)) ?_
  refine aops_e (w0 rfl) rfl (eff_assign rfl rfl) ?_
  refine aops_nil ?_
  refine awp_ret ?_
  exact retq rfl (res_tmp rfl res_nil) (gb rfl)

theorem w_entry (m : MRef) : ACalls Try.prog 37 [.agg m.cells] [] (SomeB) := by
  refine acalls_of (n := 39) Try.func37 rfl (by decide +kernel) rfl rfl ?_
  refine awp_seq ?_
  refine awp_region ?_
  refine aops_n (w0 rfl) rfl (fun id => eff_box id rfl rfl rfl rfl rfl) (fun id1 => ?_)
  refine aops_e (w0 rfl) rfl (eff_assign rfl rfl) ?_
  refine aops_nil ?_
  refine awp_seq ?_
  refine awp_seq ?_
  refine awp_region ?_
  refine aops_e (w0 rfl) rfl (eff_fieldAddr rfl rfl rfl) ?_
  refine aops_load_ptr 0 (w0 rfl) rfl rfl rfl rfl rfl ld_one ?_
  refine aops_e (w0 rfl) rfl (eff_scmp rfl rfl rfl rfl) ?_
  refine aops_e (w0 rfl) rfl (eff_move rfl rfl) ?_
  refine aops_g (wT rfl rfl rfl rfl) rfl (fun hg => (eff_fieldAddr rfl rfl rfl)) ?_
  refine aops_gload 0 (wT rfl rfl rfl rfl) rfl rfl (fun hg => (ev_g hg rfl)) rfl rfl ld_one ?_
  refine aops_g (wT rfl rfl rfl rfl) rfl (fun hg => (eff_scmp rfl (ev_g hg rfl) rfl rfl)) ?_
  refine aops_e (w0 rfl) rfl (eff_and rfl rfl rfl (fun h => h)) ?_
  refine aops_e (w0 rfl) rfl (eff_move rfl rfl) ?_
  refine aops_g (wT rfl rfl rfl rfl) rfl (fun hg => (eff_fieldAddr rfl rfl rfl)) ?_
  refine aops_gload 0 (wT rfl rfl rfl rfl) rfl rfl (fun hg => (ev_g hg rfl)) rfl rfl ld_one ?_
  refine aops_g (wT rfl rfl rfl rfl) rfl (fun hg => (eff_scmp rfl (ev_g hg rfl) rfl rfl)) ?_
  refine aops_e (w0 rfl) rfl (eff_and rfl rfl rfl (fun h => h)) ?_
  refine aops_nil ?_
  refine awp_cond rfl ?_ ?_
  · intro hc
    refine awp_seq ?_
    refine awp_region ?_
    refine aops_e (w0 rfl) rfl (eff_assign rfl rfl) ?_
    refine aops_nil ?_
    refine awp_ret ?_
    exact retq rfl (res_tmp rfl res_nil) gsomeB
  · intro hc
    refine awp_skip ?_
    refine awp_seq ?_
    refine awp_region ?_
    refine aops_e (w0 rfl) rfl (eff_fieldAddr rfl rfl rfl) ?_
    refine aops_load_ptr 0 (w0 rfl) rfl rfl rfl rfl rfl ld_one ?_
    refine aops_callS (w0 rfl) rfl rfl rfl rfl (w_class _) (fun v2 hv2 => ?_)
    refine aops_e (w0 rfl) rfl (eff_move rfl rfl) ?_
    refine aops_g (wT rfl rfl rfl rfl) rfl (fun hg => (eff_fieldAddr rfl rfl rfl)) ?_
    refine aops_gload 0 (wT rfl rfl rfl rfl) rfl rfl (fun hg => (ev_g hg rfl)) rfl rfl ld_one ?_
    refine aops_gcallS (wT rfl rfl rfl rfl) rfl rfl (fun hg => rfl) (fun hg => (evs_cons (ev_g hg rfl) evs_nil)) (fun hg => (w_name _)) (fun v3 hv3 => ?_)
    refine aops_e (w0 rfl) rfl (eff_and rfl rfl rfl (fun h => h)) ?_
    refine aops_e (w0 rfl) rfl (eff_move rfl rfl) ?_
    refine aops_g (wT rfl rfl rfl rfl) rfl (fun hg => (eff_fieldAddr rfl rfl rfl)) ?_
    refine aops_gload 0 (wT rfl rfl rfl rfl) rfl rfl (fun hg => (ev_g hg rfl)) rfl rfl ld_one ?_
    refine aops_g (wT rfl rfl rfl rfl) rfl (fun hg => (eff_scmp rfl (ev_g hg rfl) rfl rfl)) ?_
    refine aops_e (w0 rfl) rfl (eff_and rfl rfl rfl (fun h => h)) ?_
    refine aops_e (w0 rfl) rfl (eff_move rfl rfl) ?_
    refine aops_g (wT rfl rfl rfl rfl) rfl (fun hg => (eff_fieldAddr rfl rfl rfl)) ?_
    refine aops_gload 0 (wT rfl rfl rfl rfl) rfl rfl (fun hg => (ev_g hg rfl)) rfl rfl ld_one ?_
    refine aops_g (wT rfl rfl rfl rfl) rfl (fun hg => (eff_scmp rfl (ev_g hg rfl) rfl rfl)) ?_
    refine aops_g (wT rfl rfl rfl rfl) rfl (fun hg => (eff_move rfl (ev_g hg rfl))) ?_
    refine aops_g (wFg rfl rfl rfl rfl) rfl (fun hg => (eff_fieldAddr rfl rfl rfl)) ?_
    refine aops_gload 0 (wFg rfl rfl rfl rfl) rfl rfl (fun hg => (ev_g hg rfl)) rfl rfl ld_one ?_
    refine aops_g (wFg rfl rfl rfl rfl) rfl (fun hg => (eff_scmp rfl (ev_g hg rfl) rfl rfl)) ?_
    refine aops_g (wT rfl rfl rfl rfl) rfl (fun hg => (eff_or rfl (ev_g hg rfl) rfl (fun h => by first | (simp [h, hg]; done) | (simp_all; done)))) ?_
    refine aops_e (w0 rfl) rfl (eff_and rfl rfl rfl (fun h => h)) ?_
    refine aops_e (w0 rfl) rfl (eff_assign rfl rfl) ?_
    refine aops_nil ?_
    refine awp_ret ?_
    exact retq rfl (res_tmp rfl res_nil) gsomeB

theorem w_long (p : Prog) (hp : p.ok) : ACalls Try.prog 35 [p.av] [] (SomeB) := by
  have hb := hp.classes.1
  have hn := hp.names.1
  simp only [small] at hb hn
  refine acalls_of (n := 58) Try.func35 rfl (by decide +kernel) rfl rfl ?_
  refine awp_seq ?_
  refine awp_region ?_
  refine aops_n (w0 rfl) rfl (fun id => eff_box id rfl rfl rfl rfl rfl) (fun id1 => ?_)
  refine aops_e (w0 rfl) rfl (eff_assign rfl rfl) ?_
  refine aops_nil ?_
  refine awp_seq ?_
  refine awp_seq ?_
  refine awp_region ?_
  refine aops_e (w0 rfl) rfl (eff_fieldAddr rfl rfl rfl) ?_
  refine aops_load_ptr 0 (w0 rfl) rfl rfl rfl rfl rfl ld_one ?_
  refine aops_e (w0 rfl) rfl (eff_len rfl rfl rfl rfl) ?_
  refine aops_e (w0 rfl) rfl (eff_icmp rfl rfl rfl rfl) ?_
  refine aops_e (w0 rfl) rfl (eff_move rfl rfl) ?_
  refine aops_g (wF rfl rfl rfl rfl) rfl (fun hg => (eff_fieldAddr rfl rfl rfl)) ?_
  refine aops_gload 0 (wF rfl rfl rfl rfl) rfl rfl (fun hg => (ev_g hg rfl)) rfl rfl ld_one ?_
  refine aops_g (wF rfl rfl rfl rfl) rfl (fun hg => (eff_len rfl (ev_g hg rfl) rfl rfl)) ?_
  refine aops_g (wF rfl rfl rfl rfl) rfl (fun hg => (eff_icmp rfl (ev_g hg rfl) rfl rfl)) ?_
  refine aops_e (w0 rfl) rfl (eff_or rfl rfl rfl (fun h => by rw [h]; rfl)) ?_
  refine aops_nil ?_
  refine awp_cond rfl ?_ ?_
  · intro hc
    refine awp_seq ?_
    refine awp_region ?_
    refine aops_e (w0 rfl) rfl (eff_assign rfl rfl) ?_
    refine aops_nil ?_
    refine awp_ret ?_
    exact retq rfl (res_tmp rfl res_nil) gsomeB
  · intro hc
    refine awp_skip ?_
    refine awp_seq ?_
    refine awp_seq ?_
    refine awp_region ?_
    refine aops_e (w0 rfl) rfl (eff_assign rfl rfl) ?_
    refine aops_nil ?_
    refine awp_block ?_
    refine awp_loopJ (α := Nat) (fun i => ⟨[(3, iA i), (1, .ptr id1 5 0 0)], [(id1, .rows 27 5 [p.cells])], [], 58⟩) (fun i => True) (fun i => p.classes.length - i) 0 trivial ?_ ?_
    · exact weak_pick [0] ⟨rfl, rfl, trivial⟩ rfl (by decide) rfl rfl
    rintro i hJ
    refine awp_seq ?_
    refine awp_seq ?_
    refine awp_region ?_
    refine aops_e (w0 rfl) rfl (eff_move rfl rfl) ?_
    refine aops_e (w0 rfl) rfl (eff_fieldAddr rfl rfl rfl) ?_
    refine aops_load_ptr 0 (w0 rfl) rfl rfl rfl rfl rfl ld_one ?_
    refine aops_e (w0 rfl) rfl (eff_len rfl rfl rfl rfl) ?_
    refine aops_e (w0 rfl) rfl (eff_icmp rfl rfl rfl rfl) ?_
    refine aops_nil ?_
    refine awp_cond rfl ?_ ?_
    · intro hc
      have hi : i < p.classes.length := by simpa using hc
      refine awp_skip ?_
      refine awp_seq ?_
      refine awp_block ?_
      refine awp_seq ?_
      refine awp_region ?_
      refine aops_e (w0 rfl) rfl (eff_fieldAddr rfl rfl rfl) ?_
      refine aops_load_ptr 0 (w0 rfl) rfl rfl rfl rfl rfl ld_one ?_
      refine aops_e (w0 rfl) rfl (eff_move rfl rfl) ?_
      refine aops_e (w0 rfl) rfl (eff_indexAddr_lst rfl rfl rfl (len_map (fun _ => rfl)) (by first | omega | (simp only [List.length_map]; omega)) (by first | omega | (simp only [List.length_map]; omega))) ?_
      refine aops_e (w0 rfl) rfl (eff_loadE rfl rfl (map_get (by first | assumption | omega)) (ld_agg (Nat.le_of_ble_eq_true rfl))) ?_
      refine aops_n (w0 rfl) rfl (fun id => eff_alloc id rfl rfl rfl) (fun id2 => ?_)
      refine aops_store 0 (w0 rfl) rfl rfl rfl rfl rfl rfl rfl rfl rfl ?_
      refine aops_nil ?_
      refine awp_seq ?_
      refine awp_region ?_
      refine aops_e (w0 rfl) rfl (eff_fieldAddr rfl rfl rfl) ?_
      refine aops_load_ptr 0 (w0 rfl) rfl rfl rfl rfl rfl ld_one ?_
      refine aops_e (w0 rfl) rfl (eff_len rfl rfl rfl rfl) ?_
      refine aops_e (w0 rfl) rfl (eff_icmp rfl rfl rfl rfl) ?_
      refine aops_e (w0 rfl) rfl (eff_move rfl rfl) ?_
      refine aops_g (wF rfl rfl rfl rfl) rfl (fun hg => (eff_fieldAddr rfl rfl rfl)) ?_
      refine aops_gload 0 (wF rfl rfl rfl rfl) rfl rfl (fun hg => (ev_g hg rfl)) rfl rfl ld_one ?_
      refine aops_g (wF rfl rfl rfl rfl) rfl (fun hg => (eff_len rfl (ev_g hg rfl) rfl rfl)) ?_
      refine aops_g (wF rfl rfl rfl rfl) rfl (fun hg => (eff_icmp rfl (ev_g hg rfl) rfl rfl)) ?_
      refine aops_e (w0 rfl) rfl (eff_or rfl rfl rfl (fun h => by rw [h]; rfl)) ?_
      refine aops_e (w0 rfl) rfl (eff_move rfl rfl) ?_
      refine aops_g (wF rfl rfl rfl rfl) rfl (fun hg => (eff_fieldAddr rfl rfl rfl)) ?_
      refine aops_gload 0 (wF rfl rfl rfl rfl) rfl rfl (fun hg => (ev_g hg rfl)) rfl rfl ld_one ?_
      refine aops_g (wF rfl rfl rfl rfl) rfl (fun hg => (eff_len rfl (ev_g hg rfl) rfl rfl)) ?_
      refine aops_g (wF rfl rfl rfl rfl) rfl (fun hg => (eff_icmp rfl (ev_g hg rfl) rfl rfl)) ?_
      refine aops_e (w0 rfl) rfl (eff_or rfl rfl rfl (fun h => by rw [h]; rfl)) ?_
      refine aops_nil ?_
      refine awp_cond rfl ?_ ?_
      · intro hc
        refine awp_seq ?_
        refine awp_region ?_
        refine aops_e (w0 rfl) rfl (eff_assign rfl rfl) ?_
        refine aops_nil ?_
        refine awp_ret ?_
        exact retq rfl (res_tmp rfl res_nil) gsomeB
      · intro hc
        refine awp_skip ?_
        refine awp_region ?_
        refine aops_e (w0 rfl) rfl (eff_move rfl rfl) ?_
        refine aops_e (w0 rfl) rfl (eff_arith rfl rfl rfl (arith_add (by first | omega | (simp only [List.length_map]; omega)))) ?_
        refine aops_e (w0 rfl) rfl (eff_assign rfl rfl) ?_
        refine aops_nil ?_
        refine ⟨i + 1, trivial, (by omega), ?_⟩
        exact weak_pick [1] ⟨rfl, rfl, trivial⟩ rfl (by decide) rfl rfl
    · intro hc
      have hi : ¬ i < p.classes.length := by simpa using hc
      refine awp_exit ?_
      refine awp_seq ?_
      refine awp_seq ?_
      refine awp_region ?_
      refine aops_e (w0 rfl) rfl (eff_assign rfl rfl) ?_
      refine aops_nil ?_
      refine awp_block ?_
      refine awp_loopJ (α := Nat) (fun i => ⟨[(5, iA i), (1, .ptr id1 5 0 0)], [(id1, .rows 27 5 [p.cells])], [], 58⟩) (fun i => True) (fun i => p.names.length - i) 0 trivial ?_ ?_
      · exact weak_pick [0] ⟨rfl, rfl, trivial⟩ rfl (by decide) rfl rfl
      rintro i hJ
      refine awp_seq ?_
      refine awp_seq ?_
      refine awp_region ?_
      refine aops_e (w0 rfl) rfl (eff_move rfl rfl) ?_
      refine aops_e (w0 rfl) rfl (eff_fieldAddr rfl rfl rfl) ?_
      refine aops_load_ptr 0 (w0 rfl) rfl rfl rfl rfl rfl ld_one ?_
      refine aops_e (w0 rfl) rfl (eff_len rfl rfl rfl rfl) ?_
      refine aops_e (w0 rfl) rfl (eff_icmp rfl rfl rfl rfl) ?_
      refine aops_nil ?_
      refine awp_cond rfl ?_ ?_
      · intro hc
        have hi : i < p.names.length := by simpa using hc
        refine awp_skip ?_
        refine awp_seq ?_
        refine awp_block ?_
        refine awp_seq ?_
        refine awp_region ?_
        refine aops_e (w0 rfl) rfl (eff_fieldAddr rfl rfl rfl) ?_
        refine aops_load_ptr 0 (w0 rfl) rfl rfl rfl rfl rfl ld_one ?_
        refine aops_e (w0 rfl) rfl (eff_move rfl rfl) ?_
        refine aops_e (w0 rfl) rfl (eff_indexAddr_lst rfl rfl rfl (len_map (fun _ => rfl)) (by first | omega | (simp only [List.length_map]; omega)) (by first | omega | (simp only [List.length_map]; omega))) ?_
        refine aops_e (w0 rfl) rfl (eff_loadE rfl rfl (map_get (by first | assumption | omega)) ld_one) ?_
        refine aops_e (w0 rfl) rfl (eff_len rfl rfl rfl rfl) ?_
        refine aops_e (w0 rfl) rfl (eff_icmp rfl rfl rfl rfl) ?_
        refine aops_nil ?_
        refine awp_cond rfl ?_ ?_
        · intro hc
          refine awp_seq ?_
          refine awp_region ?_
          refine aops_e (w0 rfl) rfl (eff_assign rfl rfl) ?_
          refine aops_nil ?_
          refine awp_ret ?_
          exact retq rfl (res_tmp rfl res_nil) gsomeB
        · intro hc
          refine awp_skip ?_
          refine awp_region ?_
          refine aops_e (w0 rfl) rfl (eff_move rfl rfl) ?_
          refine aops_e (w0 rfl) rfl (eff_arith rfl rfl rfl (arith_add (by first | omega | (simp only [List.length_map]; omega)))) ?_
          refine aops_e (w0 rfl) rfl (eff_assign rfl rfl) ?_
          refine aops_nil ?_
          refine ⟨i + 1, trivial, (by omega), ?_⟩
          exact weak_pick [0] ⟨rfl, rfl, trivial⟩ rfl (by decide) rfl rfl
      · intro hc
        have hi : ¬ i < p.names.length := by simpa using hc
        refine awp_exit ?_
        refine awp_seq ?_
        refine awp_region ?_
        refine aops_e (w0 rfl) rfl (eff_assign rfl rfl) ?_
        refine aops_nil ?_
        refine awp_ret ?_
        exact retq rfl (res_tmp rfl res_nil) gsomeB

theorem w_next (u : Str) (k : Int) (hs : small u.size) (h0 : 0 ≤ k) (h1 : k ≤ u.size) : ACalls Try.prog 65 [sA u, iA k] [] (GSome (fun r : Ty × Int × Bool => .tup [r.1.av, iA r.2.1, bA r.2.2]) (fun r => r.2.2 = true → k < r.2.1 ∧ r.2.1 ≤ u.size)) := by
  unfold small at hs
  refine acalls_of (n := 88) Try.func65 rfl (by decide +kernel) rfl rfl ?_
  refine awp_seq ?_
  refine awp_region ?_
  refine aops_n (w0 rfl) rfl (fun id => eff_alloc id rfl rfl rfl) (fun id1 => ?_)
  refine aops_e (w0 rfl) rfl (eff_assign rfl rfl) ?_
  refine aops_e (w0 rfl) rfl (eff_assign rfl rfl) ?_
  refine aops_nil ?_
  refine awp_seq ?_
  refine awp_region ?_
  refine aops_e (w0 rfl) rfl (eff_move rfl rfl) ?_
  refine aops_e (w0 rfl) rfl (eff_move rfl rfl) ?_
  refine aops_e (w0 rfl) rfl (eff_len rfl rfl rfl rfl) ?_
  refine aops_e (w0 rfl) rfl (eff_icmp rfl rfl rfl rfl) ?_
  refine aops_e (w0 rfl) rfl (eff_move rfl rfl) ?_
  refine aops_g (wT rfl rfl rfl rfl) rfl (fun hg => (eff_move rfl rfl)) ?_
  refine aops_g (wT rfl rfl rfl rfl) rfl (fun hg => (eff_move rfl rfl)) ?_
  refine aops_g (wT rfl rfl rfl rfl) rfl (fun hg => (eff_sidx rfl (ev_g hg rfl) (ev_g hg rfl) (by (try simp at hg) <;> first | omega | (simp only [List.length_map]; omega)) (by (try simp at hg) <;> first | omega | (simp only [List.length_map]; omega)))) ?_
  refine aops_g (wT rfl rfl rfl rfl) rfl (fun hg => (eff_icmp rfl (ev_g hg rfl) rfl rfl)) ?_
  refine aops_e (w0 rfl) rfl (eff_and rfl rfl rfl (fun h => h)) ?_
  refine aops_e (w0 rfl) rfl (eff_assign rfl rfl) ?_
  refine aops_nil ?_
  refine awp_seq ?_
  refine awp_seq ?_
  refine awp_genB 7 rfl (fun arr harr => ?_)
  refine awp_region ?_
  refine aops_e (w0 rfl) rfl (eff_move rfl rfl) ?_
  refine aops_nil ?_
  refine awp_cond rfl ?_ ?_
  · intro hc
    have hk : k < u.size := by rw [hc] at harr; have := harr.symm; simp at this; omega
    refine awp_region ?_
    refine aops_e (w0 rfl) rfl (eff_move rfl rfl) ?_
    refine aops_e (w0 rfl) rfl (eff_arith rfl rfl rfl (arith_add (by first | omega | (simp only [List.length_map]; omega)))) ?_
    refine aops_e (w0 rfl) rfl (eff_assign rfl rfl) ?_
    refine aops_nil ?_
    refine awp_seq ?_
    refine awp_seq ?_
    refine awp_genI 1 rfl (fun a1 ha1 => ?_)
    refine awp_region ?_
    refine aops_e (w0 rfl) rfl (eff_move rfl rfl) ?_
    refine aops_e (w0 rfl) rfl (eff_move rfl rfl) ?_
    refine aops_e (w0 rfl) rfl (eff_len rfl rfl rfl rfl) ?_
    refine aops_e (w0 rfl) rfl (eff_icmp rfl rfl rfl rfl) ?_
    refine aops_nil ?_
    refine awp_cond rfl ?_ ?_
    · intro hc
      have hq := of_decide_eq_true hc
      refine awp_seq ?_
      refine awp_region ?_
      refine aops_e (w0 rfl) rfl (eff_build rfl rfl rfl) ?_
      refine aops_store 0 (w0 rfl) rfl rfl rfl rfl rfl rfl rfl rfl rfl ?_
      refine aops_e (w0 rfl) rfl (eff_assign rfl rfl) ?_
      refine aops_e (w0 rfl) rfl (eff_assign rfl rfl) ?_
      refine aops_nil ?_
      refine awp_ret ?_
      exact retq rfl (res_cell 0 rfl rfl rfl (ld_agg (Nat.le_of_ble_eq_true rfl)) (res_tmp rfl (res_tmp rfl res_nil))) (gsome (⟨_, _⟩, _, _) (by simp <;> omega) rfl)
    · intro hc
      have ha : k ≤ a1 ∧ a1 < u.size := by simp at hc; omega
      refine awp_skip ?_
      refine awp_seq ?_
      refine awp_region ?_
      refine aops_e (w0 rfl) rfl (eff_move rfl rfl) ?_
      refine aops_e (w0 rfl) rfl (eff_move rfl rfl) ?_
      refine aops_e (w0 rfl) rfl (eff_sidx rfl rfl rfl (by first | omega | (simp only [List.length_map]; omega)) (by first | omega | (simp only [List.length_map]; omega))) ?_
      refine aops_nil ?_
      refine awp_block ?_
      refine awp_seq ?_
      refine awp_region ?_
      refine aops_e (w0 rfl) rfl (eff_icmp rfl rfl rfl rfl) ?_
      refine aops_e (w0 rfl) rfl (eff_assign rfl rfl) ?_
      refine aops_nil ?_
      refine awp_cond rfl ?_ ?_
      · intro hc
        refine awp_seq ?_
        refine awp_region ?_
        refine aops_e (w0 rfl) rfl (eff_build rfl rfl rfl) ?_
        refine aops_e (w0 rfl) rfl (eff_move rfl rfl) ?_
        refine aops_e (w0 rfl) rfl (eff_arith rfl rfl rfl (arith_add (by first | omega | (simp only [List.length_map]; omega)))) ?_
        refine aops_e (w0 rfl) rfl (eff_move rfl rfl) ?_
        refine aops_e (w0 rfl) rfl (eff_not rfl rfl) ?_
        refine aops_store 0 (w0 rfl) rfl rfl rfl rfl rfl rfl rfl rfl rfl ?_
        refine aops_e (w0 rfl) rfl (eff_assign rfl rfl) ?_
        refine aops_e (w0 rfl) rfl (eff_assign rfl rfl) ?_
        refine aops_nil ?_
        refine awp_ret ?_
        exact retq rfl (res_cell 0 rfl rfl rfl (ld_agg (Nat.le_of_ble_eq_true rfl)) (res_tmp rfl (res_tmp rfl res_nil))) (gsome (⟨_, _⟩, _, _) (by simp <;> omega) rfl)
      · intro hc
        refine awp_seq ?_
        refine awp_region ?_
        refine aops_e (w0 rfl) rfl (eff_icmp rfl rfl rfl rfl) ?_
        refine aops_e (w0 rfl) rfl (eff_assign rfl rfl) ?_
        refine aops_nil ?_
        refine awp_cond rfl ?_ ?_
        · intro hc
          refine awp_seq ?_
          refine awp_seq ?_
          refine awp_region ?_
          refine aops_e (w0 rfl) rfl (eff_move rfl rfl) ?_
          refine aops_nil ?_
          refine awp_cond rfl ?_ ?_
          · intro hc
            refine awp_seq ?_
            refine awp_region ?_
            refine aops_e (w0 rfl) rfl (eff_build rfl rfl rfl) ?_
            refine aops_e (w0 rfl) rfl (eff_move rfl rfl) ?_
            refine aops_e (w0 rfl) rfl (eff_arith rfl rfl rfl (arith_add (by first | omega | (simp only [List.length_map]; omega)))) ?_
            refine aops_store 0 (w0 rfl) rfl rfl rfl rfl rfl rfl rfl rfl rfl ?_
            refine aops_e (w0 rfl) rfl (eff_assign rfl rfl) ?_
            refine aops_e (w0 rfl) rfl (eff_assign rfl rfl) ?_
            refine aops_nil ?_
            refine awp_ret ?_
            exact retq rfl (res_cell 0 rfl rfl rfl (ld_agg (Nat.le_of_ble_eq_true rfl)) (res_tmp rfl (res_tmp rfl res_nil))) (gsome (⟨_, _⟩, _, _) (by simp <;> omega) rfl)
          · intro hc
            refine awp_skip ?_
            refine awp_seq ?_
            refine awp_region ?_
            refine aops_e (w0 rfl) rfl (eff_build rfl rfl rfl) ?_
            refine aops_e (w0 rfl) rfl (eff_move rfl rfl) ?_
            refine aops_e (w0 rfl) rfl (eff_arith rfl rfl rfl (arith_add (by first | omega | (simp only [List.length_map]; omega)))) ?_
            refine aops_store 0 (w0 rfl) rfl rfl rfl rfl rfl rfl rfl rfl rfl ?_
            refine aops_e (w0 rfl) rfl (eff_assign rfl rfl) ?_
            refine aops_e (w0 rfl) rfl (eff_assign rfl rfl) ?_
            refine aops_nil ?_
            refine awp_ret ?_
            exact retq rfl (res_cell 0 rfl rfl rfl (ld_agg (Nat.le_of_ble_eq_true rfl)) (res_tmp rfl (res_tmp rfl res_nil))) (gsome (⟨_, _⟩, _, _) (by simp <;> omega) rfl)
        · intro hc
          refine awp_seq ?_
          refine awp_region ?_
          refine aops_e (w0 rfl) rfl (eff_icmp rfl rfl rfl rfl) ?_
          refine aops_e (w0 rfl) rfl (eff_assign rfl rfl) ?_
          refine aops_nil ?_
          refine awp_cond rfl ?_ ?_
          · intro hc
            have h76 : byteAt u a1 = 76 := by simpa using hc
            refine awp_seq ?_
            refine awp_region ?_
            refine aops_e (w0 rfl) rfl (eff_move rfl rfl) ?_
            refine aops_e (w0 rfl) rfl (eff_assign rfl rfl) ?_
            refine aops_nil ?_
            refine awp_seq ?_
            refine awp_block ?_
            refine awp_loopJ (α := Int) (fun x => ⟨[(8, iA x), (1, iA a1), (0, sA u), (7, bA arr), (4, .ptr id1 2 0 0)], [(id1, .rows 48 2 [Ty.cells ⟨0, zS⟩])], [], 88⟩) (fun x => a1 ≤ x ∧ x ≤ u.size) (fun x => (u.size - x).toNat) a1 ⟨by omega, by omega⟩ ?_ ?_
            · exact weak_pick [0] ⟨rfl, rfl, rfl, rfl, rfl, trivial⟩ rfl (by decide) rfl rfl
            rintro x hJ
            refine awp_seq ?_
            refine awp_seq ?_
            refine awp_region ?_
            refine aops_e (w0 rfl) rfl (eff_move rfl rfl) ?_
            refine aops_e (w0 rfl) rfl (eff_move rfl rfl) ?_
            refine aops_e (w0 rfl) rfl (eff_len rfl rfl rfl rfl) ?_
            refine aops_e (w0 rfl) rfl (eff_icmp rfl rfl rfl rfl) ?_
            refine aops_e (w0 rfl) rfl (eff_move rfl rfl) ?_
            refine aops_g (wT rfl rfl rfl rfl) rfl (fun hg => (eff_move rfl rfl)) ?_
            refine aops_g (wT rfl rfl rfl rfl) rfl (fun hg => (eff_move rfl rfl)) ?_
            refine aops_g (wT rfl rfl rfl rfl) rfl (fun hg => (eff_sidx rfl (ev_g hg rfl) (ev_g hg rfl) (by (try simp at hg) <;> first | omega | (simp only [List.length_map]; omega)) (by (try simp at hg) <;> first | omega | (simp only [List.length_map]; omega)))) ?_
            refine aops_g (wT rfl rfl rfl rfl) rfl (fun hg => (eff_icmp rfl (ev_g hg rfl) rfl rfl)) ?_
            refine aops_e (w0 rfl) rfl (eff_and rfl rfl rfl (fun h => h)) ?_
            refine aops_nil ?_
            refine awp_cond rfl ?_ ?_
            · intro hc
              have ht : x < u.size := by simp at hc; omega
              refine awp_skip ?_
              refine awp_block ?_
              refine awp_region ?_
              refine aops_e (w0 rfl) rfl (eff_move rfl rfl) ?_
              refine aops_e (w0 rfl) rfl (eff_arith rfl rfl rfl (arith_add (by first | omega | (simp only [List.length_map]; omega)))) ?_
              refine aops_e (w0 rfl) rfl (eff_assign rfl rfl) ?_
              refine aops_nil ?_
              refine ⟨x + 1, ⟨by omega, by omega⟩, (by omega), ?_⟩
              exact weak_pick [0] ⟨rfl, rfl, rfl, rfl, rfl, trivial⟩ rfl (by decide) rfl rfl
            · intro hc
              have h59 : x < u.size → byteAt u x = 59 := by simpa using hc
              have hx : x < u.size → a1 < x := fun hlt => by have := h59 hlt; by_cases h : x = a1; subst h; omega; omega
              refine awp_exit ?_
              refine awp_seq ?_
              refine awp_seq ?_
              refine awp_region ?_
              refine aops_e (w0 rfl) rfl (eff_move rfl rfl) ?_
              refine aops_e (w0 rfl) rfl (eff_move rfl rfl) ?_
              refine aops_e (w0 rfl) rfl (eff_len rfl rfl rfl rfl) ?_
              refine aops_e (w0 rfl) rfl (eff_icmp rfl rfl rfl rfl) ?_
              refine aops_e (w0 rfl) rfl (eff_move rfl rfl) ?_
              refine aops_g (wF rfl rfl rfl rfl) rfl (fun hg => (eff_move rfl rfl)) ?_
              refine aops_g (wF rfl rfl rfl rfl) rfl (fun hg => (eff_move rfl rfl)) ?_
              refine aops_g (wF rfl rfl rfl rfl) rfl (fun hg => (eff_arith rfl (ev_g hg rfl) rfl (arith_add (by first | omega | (simp only [List.length_map]; omega))))) ?_
              refine aops_g (wF rfl rfl rfl rfl) rfl (fun hg => (eff_move rfl rfl)) ?_
              refine aops_g (wF rfl rfl rfl rfl) rfl (fun hg => (eff_sslice rfl (ev_g hg rfl) (ev_g hg rfl) (ev_g hg rfl) (by (try simp at hg) <;> first | omega | (simp only [List.length_map]; omega)) (by (try simp at hg) <;> first | omega | (simp only [List.length_map]; omega)) (by (try simp at hg) <;> first | omega | (simp only [List.length_map]; omega)))) ?_
              refine aops_gcallS (wF rfl rfl rfl rfl) rfl rfl (fun hg => rfl) (fun hg => (evs_cons (ev_g hg rfl) evs_nil)) (fun hg => (w_class _)) (fun v2 hv2 => ?_)
              refine aops_g (wF rfl rfl rfl rfl) rfl (fun hg => (eff_not rfl (ev_g hg rfl))) ?_
              refine aops_e (w0 rfl) rfl (eff_or rfl rfl rfl (fun h => by rw [h]; rfl)) ?_
              refine aops_nil ?_
              refine awp_cond rfl ?_ ?_
              · intro hc
                refine awp_seq ?_
                refine awp_region ?_
                refine aops_e (w0 rfl) rfl (eff_build rfl rfl rfl) ?_
                refine aops_store 0 (w0 rfl) rfl rfl rfl rfl rfl rfl rfl rfl rfl ?_
                refine aops_e (w0 rfl) rfl (eff_assign rfl rfl) ?_
                refine aops_e (w0 rfl) rfl (eff_assign rfl rfl) ?_
                refine aops_nil ?_
                refine awp_ret ?_
                exact retq rfl (res_cell 0 rfl rfl rfl (ld_agg (Nat.le_of_ble_eq_true rfl)) (res_tmp rfl (res_tmp rfl res_nil))) (gsome (⟨_, _⟩, _, _) (by simp <;> omega) rfl)
              · intro hc
                have ht : x < u.size := by simp at hc; omega
                have hx := hx ht
                refine awp_skip ?_
                refine awp_seq ?_
                refine awp_region ?_
                refine aops_e (w0 rfl) rfl (eff_move rfl rfl) ?_
                refine aops_e (w0 rfl) rfl (eff_move rfl rfl) ?_
                refine aops_e (w0 rfl) rfl (eff_arith rfl rfl rfl (arith_add (by first | omega | (simp only [List.length_map]; omega)))) ?_
                refine aops_e (w0 rfl) rfl (eff_move rfl rfl) ?_
                refine aops_e (w0 rfl) rfl (eff_sslice rfl rfl rfl rfl (by first | omega | (simp only [List.length_map]; omega)) (by first | omega | (simp only [List.length_map]; omega)) (by first | omega | (simp only [List.length_map]; omega))) ?_
                refine aops_e (w0 rfl) rfl (eff_build rfl rfl rfl) ?_
                refine aops_n (w0 rfl) rfl (fun id => eff_alloc id rfl rfl rfl) (fun id3 => ?_)
                refine aops_store 0 (w0 rfl) rfl rfl rfl rfl rfl rfl rfl rfl rfl ?_
                refine aops_nil ?_
                refine awp_seq ?_
                refine awp_seq ?_
                refine awp_region ?_
                refine aops_e (w0 rfl) rfl (eff_move rfl rfl) ?_
                refine aops_nil ?_
                refine awp_cond rfl ?_ ?_
                · intro hc
                  refine awp_region ?_
                  refine aops_e (w0 rfl) rfl (eff_fieldAddr rfl rfl rfl) ?_
                  refine aops_store 0 (w0 rfl) rfl rfl rfl rfl rfl rfl rfl rfl rfl ?_
                  refine aops_nil ?_
                  refine awp_seq ?_
                  refine awp_region ?_
                  refine aops_load_ptr 0 (w0 rfl) rfl rfl rfl rfl rfl (ld_agg (Nat.le_of_ble_eq_true rfl)) ?_
                  refine aops_e (w0 rfl) rfl (eff_move rfl rfl) ?_
                  refine aops_e (w0 rfl) rfl (eff_arith rfl rfl rfl (arith_add (by first | omega | (simp only [List.length_map]; omega)))) ?_
                  refine aops_store 1 (w0 rfl) rfl rfl rfl rfl rfl rfl rfl rfl rfl ?_
                  refine aops_e (w0 rfl) rfl (eff_assign rfl rfl) ?_
                  refine aops_e (w0 rfl) rfl (eff_assign rfl rfl) ?_
                  refine aops_nil ?_
                  refine awp_ret ?_
                  exact retq rfl (res_cell 1 rfl rfl rfl (ld_agg (Nat.le_of_ble_eq_true rfl)) (res_tmp rfl (res_tmp rfl res_nil))) (gsome (⟨_, _⟩, _, _) (by simp <;> omega) rfl)
                · intro hc
                  refine awp_skip ?_
                  refine awp_seq ?_
                  refine awp_region ?_
                  refine aops_load_ptr 0 (w0 rfl) rfl rfl rfl rfl rfl (ld_agg (Nat.le_of_ble_eq_true rfl)) ?_
                  refine aops_e (w0 rfl) rfl (eff_move rfl rfl) ?_
                  refine aops_e (w0 rfl) rfl (eff_arith rfl rfl rfl (arith_add (by first | omega | (simp only [List.length_map]; omega)))) ?_
                  refine aops_store 1 (w0 rfl) rfl rfl rfl rfl rfl rfl rfl rfl rfl ?_
                  refine aops_e (w0 rfl) rfl (eff_assign rfl rfl) ?_
                  refine aops_e (w0 rfl) rfl (eff_assign rfl rfl) ?_
                  refine aops_nil ?_
                  refine awp_ret ?_
                  exact retq rfl (res_cell 1 rfl rfl rfl (ld_agg (Nat.le_of_ble_eq_true rfl)) (res_tmp rfl (res_tmp rfl res_nil))) (gsome (⟨_, _⟩, _, _) (by simp <;> omega) rfl)
          · intro hc
            refine awp_seq ?_
            refine awp_region ?_
            refine aops_e (w0 rfl) rfl (eff_build rfl rfl rfl) ?_
            refine aops_store 0 (w0 rfl) rfl rfl rfl rfl rfl rfl rfl rfl rfl ?_
            refine aops_e (w0 rfl) rfl (eff_assign rfl rfl) ?_
            refine aops_e (w0 rfl) rfl (eff_assign rfl rfl) ?_
            refine aops_nil ?_
            refine awp_ret ?_
            exact retq rfl (res_cell 0 rfl rfl rfl (ld_agg (Nat.le_of_ble_eq_true rfl)) (res_tmp rfl (res_tmp rfl res_nil))) (gsome (⟨_, _⟩, _, _) (by simp <;> omega) rfl)
  · intro hc
    refine awp_skip ?_
    refine awp_seq ?_
    refine awp_seq ?_
    refine awp_genI 1 rfl (fun a1 ha1 => ?_)
    refine awp_region ?_
    refine aops_e (w0 rfl) rfl (eff_move rfl rfl) ?_
    refine aops_e (w0 rfl) rfl (eff_move rfl rfl) ?_
    refine aops_e (w0 rfl) rfl (eff_len rfl rfl rfl rfl) ?_
    refine aops_e (w0 rfl) rfl (eff_icmp rfl rfl rfl rfl) ?_
    refine aops_nil ?_
    refine awp_cond rfl ?_ ?_
    · intro hc
      have hq := of_decide_eq_true hc
      refine awp_seq ?_
      refine awp_region ?_
      refine aops_e (w0 rfl) rfl (eff_build rfl rfl rfl) ?_
      refine aops_store 0 (w0 rfl) rfl rfl rfl rfl rfl rfl rfl rfl rfl ?_
      refine aops_e (w0 rfl) rfl (eff_assign rfl rfl) ?_
      refine aops_e (w0 rfl) rfl (eff_assign rfl rfl) ?_
      refine aops_nil ?_
      refine awp_ret ?_
      exact retq rfl (res_cell 0 rfl rfl rfl (ld_agg (Nat.le_of_ble_eq_true rfl)) (res_tmp rfl (res_tmp rfl res_nil))) (gsome (⟨_, _⟩, _, _) (by simp <;> omega) rfl)
    · intro hc
      have ha : k ≤ a1 ∧ a1 < u.size := by simp at hc; omega
      refine awp_skip ?_
      refine awp_seq ?_
      refine awp_region ?_
      refine aops_e (w0 rfl) rfl (eff_move rfl rfl) ?_
      refine aops_e (w0 rfl) rfl (eff_move rfl rfl) ?_
      refine aops_e (w0 rfl) rfl (eff_sidx rfl rfl rfl (by first | omega | (simp only [List.length_map]; omega)) (by first | omega | (simp only [List.length_map]; omega))) ?_
      refine aops_nil ?_
      refine awp_block ?_
      refine awp_seq ?_
      refine awp_region ?_
      refine aops_e (w0 rfl) rfl (eff_icmp rfl rfl rfl rfl) ?_
      refine aops_e (w0 rfl) rfl (eff_assign rfl rfl) ?_
      refine aops_nil ?_
      refine awp_cond rfl ?_ ?_
      · intro hc
        refine awp_seq ?_
        refine awp_region ?_
        refine aops_e (w0 rfl) rfl (eff_build rfl rfl rfl) ?_
        refine aops_e (w0 rfl) rfl (eff_move rfl rfl) ?_
        refine aops_e (w0 rfl) rfl (eff_arith rfl rfl rfl (arith_add (by first | omega | (simp only [List.length_map]; omega)))) ?_
        refine aops_e (w0 rfl) rfl (eff_move rfl rfl) ?_
        refine aops_e (w0 rfl) rfl (eff_not rfl rfl) ?_
        refine aops_store 0 (w0 rfl) rfl rfl rfl rfl rfl rfl rfl rfl rfl ?_
        refine aops_e (w0 rfl) rfl (eff_assign rfl rfl) ?_
        refine aops_e (w0 rfl) rfl (eff_assign rfl rfl) ?_
        refine aops_nil ?_
        refine awp_ret ?_
        exact retq rfl (res_cell 0 rfl rfl rfl (ld_agg (Nat.le_of_ble_eq_true rfl)) (res_tmp rfl (res_tmp rfl res_nil))) (gsome (⟨_, _⟩, _, _) (by simp <;> omega) rfl)
      · intro hc
        refine awp_seq ?_
        refine awp_region ?_
        refine aops_e (w0 rfl) rfl (eff_icmp rfl rfl rfl rfl) ?_
        refine aops_e (w0 rfl) rfl (eff_assign rfl rfl) ?_
        refine aops_nil ?_
        refine awp_cond rfl ?_ ?_
        · intro hc
          refine awp_seq ?_
          refine awp_seq ?_
          refine awp_region ?_
          refine aops_e (w0 rfl) rfl (eff_move rfl rfl) ?_
          refine aops_nil ?_
          refine awp_cond rfl ?_ ?_
          · intro hc
            refine awp_seq ?_
            refine awp_region ?_
            refine aops_e (w0 rfl) rfl (eff_build rfl rfl rfl) ?_
            refine aops_e (w0 rfl) rfl (eff_move rfl rfl) ?_
            refine aops_e (w0 rfl) rfl (eff_arith rfl rfl rfl (arith_add (by first | omega | (simp only [List.length_map]; omega)))) ?_
            refine aops_store 0 (w0 rfl) rfl rfl rfl rfl rfl rfl rfl rfl rfl ?_
            refine aops_e (w0 rfl) rfl (eff_assign rfl rfl) ?_
            refine aops_e (w0 rfl) rfl (eff_assign rfl rfl) ?_
            refine aops_nil ?_
            refine awp_ret ?_
            exact retq rfl (res_cell 0 rfl rfl rfl (ld_agg (Nat.le_of_ble_eq_true rfl)) (res_tmp rfl (res_tmp rfl res_nil))) (gsome (⟨_, _⟩, _, _) (by simp <;> omega) rfl)
          · intro hc
            refine awp_skip ?_
            refine awp_seq ?_
            refine awp_region ?_
            refine aops_e (w0 rfl) rfl (eff_build rfl rfl rfl) ?_
            refine aops_e (w0 rfl) rfl (eff_move rfl rfl) ?_
            refine aops_e (w0 rfl) rfl (eff_arith rfl rfl rfl (arith_add (by first | omega | (simp only [List.length_map]; omega)))) ?_
            refine aops_store 0 (w0 rfl) rfl rfl rfl rfl rfl rfl rfl rfl rfl ?_
            refine aops_e (w0 rfl) rfl (eff_assign rfl rfl) ?_
            refine aops_e (w0 rfl) rfl (eff_assign rfl rfl) ?_
            refine aops_nil ?_
            refine awp_ret ?_
            exact retq rfl (res_cell 0 rfl rfl rfl (ld_agg (Nat.le_of_ble_eq_true rfl)) (res_tmp rfl (res_tmp rfl res_nil))) (gsome (⟨_, _⟩, _, _) (by simp <;> omega) rfl)
        · intro hc
          refine awp_seq ?_
          refine awp_region ?_
          refine aops_e (w0 rfl) rfl (eff_icmp rfl rfl rfl rfl) ?_
          refine aops_e (w0 rfl) rfl (eff_assign rfl rfl) ?_
          refine aops_nil ?_
          refine awp_cond rfl ?_ ?_
          · intro hc
            have h76 : byteAt u a1 = 76 := by simpa using hc
            refine awp_seq ?_
            refine awp_region ?_
            refine aops_e (w0 rfl) rfl (eff_move rfl rfl) ?_
            refine aops_e (w0 rfl) rfl (eff_assign rfl rfl) ?_
            refine aops_nil ?_
            refine awp_seq ?_
            refine awp_block ?_
            refine awp_loopJ (α := Int) (fun x => ⟨[(8, iA x), (1, iA a1), (0, sA u), (7, bA arr), (4, .ptr id1 2 0 0)], [(id1, .rows 48 2 [Ty.cells ⟨0, zS⟩])], [], 88⟩) (fun x => a1 ≤ x ∧ x ≤ u.size) (fun x => (u.size - x).toNat) a1 ⟨by omega, by omega⟩ ?_ ?_
            · exact weak_pick [0] ⟨rfl, rfl, rfl, rfl, rfl, trivial⟩ rfl (by decide) rfl rfl
            rintro x hJ
            refine awp_seq ?_
            refine awp_seq ?_
            refine awp_region ?_
            refine aops_e (w0 rfl) rfl (eff_move rfl rfl) ?_
            refine aops_e (w0 rfl) rfl (eff_move rfl rfl) ?_
            refine aops_e (w0 rfl) rfl (eff_len rfl rfl rfl rfl) ?_
            refine aops_e (w0 rfl) rfl (eff_icmp rfl rfl rfl rfl) ?_
            refine aops_e (w0 rfl) rfl (eff_move rfl rfl) ?_
            refine aops_g (wT rfl rfl rfl rfl) rfl (fun hg => (eff_move rfl rfl)) ?_
            refine aops_g (wT rfl rfl rfl rfl) rfl (fun hg => (eff_move rfl rfl)) ?_
            refine aops_g (wT rfl rfl rfl rfl) rfl (fun hg => (eff_sidx rfl (ev_g hg rfl) (ev_g hg rfl) (by (try simp at hg) <;> first | omega | (simp only [List.length_map]; omega)) (by (try simp at hg) <;> first | omega | (simp only [List.length_map]; omega)))) ?_
            refine aops_g (wT rfl rfl rfl rfl) rfl (fun hg => (eff_icmp rfl (ev_g hg rfl) rfl rfl)) ?_
            refine aops_e (w0 rfl) rfl (eff_and rfl rfl rfl (fun h => h)) ?_
            refine aops_nil ?_
            refine awp_cond rfl ?_ ?_
            · intro hc
              have ht : x < u.size := by simp at hc; omega
              refine awp_skip ?_
              refine awp_block ?_
              refine awp_region ?_
              refine aops_e (w0 rfl) rfl (eff_move rfl rfl) ?_
              refine aops_e (w0 rfl) rfl (eff_arith rfl rfl rfl (arith_add (by first | omega | (simp only [List.length_map]; omega)))) ?_
              refine aops_e (w0 rfl) rfl (eff_assign rfl rfl) ?_
              refine aops_nil ?_
              refine ⟨x + 1, ⟨by omega, by omega⟩, (by omega), ?_⟩
              exact weak_pick [0] ⟨rfl, rfl, rfl, rfl, rfl, trivial⟩ rfl (by decide) rfl rfl
            · intro hc
              have h59 : x < u.size → byteAt u x = 59 := by simpa using hc
              have hx : x < u.size → a1 < x := fun hlt => by have := h59 hlt; by_cases h : x = a1; subst h; omega; omega
              refine awp_exit ?_
              refine awp_seq ?_
              refine awp_seq ?_
              refine awp_region ?_
              refine aops_e (w0 rfl) rfl (eff_move rfl rfl) ?_
              refine aops_e (w0 rfl) rfl (eff_move rfl rfl) ?_
              refine aops_e (w0 rfl) rfl (eff_len rfl rfl rfl rfl) ?_
              refine aops_e (w0 rfl) rfl (eff_icmp rfl rfl rfl rfl) ?_
              refine aops_e (w0 rfl) rfl (eff_move rfl rfl) ?_
              refine aops_g (wF rfl rfl rfl rfl) rfl (fun hg => (eff_move rfl rfl)) ?_
              refine aops_g (wF rfl rfl rfl rfl) rfl (fun hg => (eff_move rfl rfl)) ?_
              refine aops_g (wF rfl rfl rfl rfl) rfl (fun hg => (eff_arith rfl (ev_g hg rfl) rfl (arith_add (by first | omega | (simp only [List.length_map]; omega))))) ?_
              refine aops_g (wF rfl rfl rfl rfl) rfl (fun hg => (eff_move rfl rfl)) ?_
              refine aops_g (wF rfl rfl rfl rfl) rfl (fun hg => (eff_sslice rfl (ev_g hg rfl) (ev_g hg rfl) (ev_g hg rfl) (by (try simp at hg) <;> first | omega | (simp only [List.length_map]; omega)) (by (try simp at hg) <;> first | omega | (simp only [List.length_map]; omega)) (by (try simp at hg) <;> first | omega | (simp only [List.length_map]; omega)))) ?_
              refine aops_gcallS (wF rfl rfl rfl rfl) rfl rfl (fun hg => rfl) (fun hg => (evs_cons (ev_g hg rfl) evs_nil)) (fun hg => (w_class _)) (fun v4 hv4 => ?_)
              refine aops_g (wF rfl rfl rfl rfl) rfl (fun hg => (eff_not rfl (ev_g hg rfl))) ?_
              refine aops_e (w0 rfl) rfl (eff_or rfl rfl rfl (fun h => by rw [h]; rfl)) ?_
              refine aops_nil ?_
              refine awp_cond rfl ?_ ?_
              · intro hc
                refine awp_seq ?_
                refine awp_region ?_
                refine aops_e (w0 rfl) rfl (eff_build rfl rfl rfl) ?_
                refine aops_store 0 (w0 rfl) rfl rfl rfl rfl rfl rfl rfl rfl rfl ?_
                refine aops_e (w0 rfl) rfl (eff_assign rfl rfl) ?_
                refine aops_e (w0 rfl) rfl (eff_assign rfl rfl) ?_
                refine aops_nil ?_
                refine awp_ret ?_
                exact retq rfl (res_cell 0 rfl rfl rfl (ld_agg (Nat.le_of_ble_eq_true rfl)) (res_tmp rfl (res_tmp rfl res_nil))) (gsome (⟨_, _⟩, _, _) (by simp <;> omega) rfl)
              · intro hc
                have ht : x < u.size := by simp at hc; omega
                have hx := hx ht
                refine awp_skip ?_
                refine awp_seq ?_
                refine awp_region ?_
                refine aops_e (w0 rfl) rfl (eff_move rfl rfl) ?_
                refine aops_e (w0 rfl) rfl (eff_move rfl rfl) ?_
                refine aops_e (w0 rfl) rfl (eff_arith rfl rfl rfl (arith_add (by first | omega | (simp only [List.length_map]; omega)))) ?_
                refine aops_e (w0 rfl) rfl (eff_move rfl rfl) ?_
                refine aops_e (w0 rfl) rfl (eff_sslice rfl rfl rfl rfl (by first | omega | (simp only [List.length_map]; omega)) (by first | omega | (simp only [List.length_map]; omega)) (by first | omega | (simp only [List.length_map]; omega))) ?_
                refine aops_e (w0 rfl) rfl (eff_build rfl rfl rfl) ?_
                refine aops_n (w0 rfl) rfl (fun id => eff_alloc id rfl rfl rfl) (fun id5 => ?_)
                refine aops_store 0 (w0 rfl) rfl rfl rfl rfl rfl rfl rfl rfl rfl ?_
                refine aops_nil ?_
                refine awp_seq ?_
                refine awp_seq ?_
                refine awp_region ?_
                refine aops_e (w0 rfl) rfl (eff_move rfl rfl) ?_
                refine aops_nil ?_
                refine awp_cond rfl ?_ ?_
                · intro hc
                  refine awp_region ?_
                  refine aops_e (w0 rfl) rfl (eff_fieldAddr rfl rfl rfl) ?_
                  refine aops_store 0 (w0 rfl) rfl rfl rfl rfl rfl rfl rfl rfl rfl ?_
                  refine aops_nil ?_
                  refine awp_seq ?_
                  refine awp_region ?_
                  refine aops_load_ptr 0 (w0 rfl) rfl rfl rfl rfl rfl (ld_agg (Nat.le_of_ble_eq_true rfl)) ?_
                  refine aops_e (w0 rfl) rfl (eff_move rfl rfl) ?_
                  refine aops_e (w0 rfl) rfl (eff_arith rfl rfl rfl (arith_add (by first | omega | (simp only [List.length_map]; omega)))) ?_
                  refine aops_store 1 (w0 rfl) rfl rfl rfl rfl rfl rfl rfl rfl rfl ?_
                  refine aops_e (w0 rfl) rfl (eff_assign rfl rfl) ?_
                  refine aops_e (w0 rfl) rfl (eff_assign rfl rfl) ?_
                  refine aops_nil ?_
                  refine awp_ret ?_
                  exact retq rfl (res_cell 1 rfl rfl rfl (ld_agg (Nat.le_of_ble_eq_true rfl)) (res_tmp rfl (res_tmp rfl res_nil))) (gsome (⟨_, _⟩, _, _) (by simp <;> omega) rfl)
                · intro hc
                  refine awp_skip ?_
                  refine awp_seq ?_
                  refine awp_region ?_
                  refine aops_load_ptr 0 (w0 rfl) rfl rfl rfl rfl rfl (ld_agg (Nat.le_of_ble_eq_true rfl)) ?_
                  refine aops_e (w0 rfl) rfl (eff_move rfl rfl) ?_
                  refine aops_e (w0 rfl) rfl (eff_arith rfl rfl rfl (arith_add (by first | omega | (simp only [List.length_map]; omega)))) ?_
                  refine aops_store 1 (w0 rfl) rfl rfl rfl rfl rfl rfl rfl rfl rfl ?_
                  refine aops_e (w0 rfl) rfl (eff_assign rfl rfl) ?_
                  refine aops_e (w0 rfl) rfl (eff_assign rfl rfl) ?_
                  refine aops_nil ?_
                  refine awp_ret ?_
                  exact retq rfl (res_cell 1 rfl rfl rfl (ld_agg (Nat.le_of_ble_eq_true rfl)) (res_tmp rfl (res_tmp rfl res_nil))) (gsome (⟨_, _⟩, _, _) (by simp <;> omega) rfl)
          · intro hc
            refine awp_seq ?_
            refine awp_region ?_
            refine aops_e (w0 rfl) rfl (eff_build rfl rfl rfl) ?_
            refine aops_store 0 (w0 rfl) rfl rfl rfl rfl rfl rfl rfl rfl rfl ?_
            refine aops_e (w0 rfl) rfl (eff_assign rfl rfl) ?_
            refine aops_e (w0 rfl) rfl (eff_assign rfl rfl) ?_
            refine aops_nil ?_
            refine awp_ret ?_
            exact retq rfl (res_cell 0 rfl rfl rfl (ld_agg (Nat.le_of_ble_eq_true rfl)) (res_tmp rfl (res_tmp rfl res_nil))) (gsome (⟨_, _⟩, _, _) (by simp <;> omega) rfl)

theorem w_parse (u : Str) (hs : small u.size) : ACalls Try.prog 66 [sA u] [] (GSome (fun r : Ty × Int => .tup [r.1.av, iA r.2]) (fun _ => True)) := by
  refine acalls_of (n := 23) Try.func66 rfl (by decide +kernel) rfl rfl ?_
  refine awp_seq ?_
  refine awp_region ?_
  refine aops_n (w0 rfl) rfl (fun id => eff_alloc id rfl rfl rfl) (fun id1 => ?_)
  refine aops_e (w0 rfl) rfl (eff_assign rfl rfl) ?_
  refine aops_nil ?_
  refine awp_seq ?_
  refine awp_region ?_
  refine aops_e (w0 rfl) rfl (eff_move rfl rfl) ?_
  refine aops_callS (w0 rfl) rfl rfl rfl rfl (w_next _ _ hs (by omega) (by omega)) (fun v2 hv2 => ?_)
  obtain ⟨⟨tk, tc⟩, to, ok⟩ := v2
  refine aops_e (w0 rfl) rfl (eff_move rfl rfl) ?_
  refine aops_e (w0 rfl) rfl (eff_extract rfl rfl rfl) ?_
  refine aops_e (w0 rfl) rfl (eff_extract rfl rfl rfl) ?_
  refine aops_e (w0 rfl) rfl (eff_extract rfl rfl rfl) ?_
  refine aops_n (w0 rfl) rfl (fun id => eff_alloc id rfl rfl rfl) (fun id3 => ?_)
  refine aops_store 0 (w0 rfl) rfl rfl rfl rfl rfl rfl rfl rfl rfl ?_
  refine aops_e (w0 rfl) rfl (eff_assign rfl rfl) ?_
  refine aops_e (w0 rfl) rfl (eff_assign rfl rfl) ?_
  refine aops_nil ?_
  refine awp_seq ?_
  refine awp_seq ?_
  refine awp_region ?_
  refine aops_e (w0 rfl) rfl (eff_move rfl rfl) ?_
  refine aops_e (w0 rfl) rfl (eff_not rfl rfl) ?_
  refine aops_e (w0 rfl) rfl (eff_move rfl rfl) ?_
  refine aops_g (wF rfl rfl rfl rfl) rfl (fun hg => (eff_move rfl rfl)) ?_
  refine aops_g (wF rfl rfl rfl rfl) rfl (fun hg => (eff_move rfl rfl)) ?_
  refine aops_g (wF rfl rfl rfl rfl) rfl (fun hg => (eff_len rfl (ev_g hg rfl) rfl rfl)) ?_
  refine aops_g (wF rfl rfl rfl rfl) rfl (fun hg => (eff_icmp rfl (ev_g hg rfl) (ev_g hg rfl) rfl)) ?_
  refine aops_e (w0 rfl) rfl (eff_or rfl rfl rfl (fun h => by rw [h]; rfl)) ?_
  refine aops_nil ?_
  refine awp_cond rfl ?_ ?_
  · intro hc
    refine awp_seq ?_
    refine awp_region ?_
    refine aops_e (w0 rfl) rfl (eff_build rfl rfl rfl) ?_
    refine aops_store 1 (w0 rfl) rfl rfl rfl rfl rfl rfl rfl rfl rfl ?_
    refine aops_e (w0 rfl) rfl (eff_assign rfl rfl) ?_
    refine aops_nil ?_
    refine awp_ret ?_
    exact retq rfl (res_cell 1 rfl rfl rfl (ld_agg (Nat.le_of_ble_eq_true rfl)) (res_tmp rfl res_nil)) (gsome (⟨_, _⟩, _) trivial rfl)
  · intro hc
    refine awp_skip ?_
    refine awp_seq ?_
    refine awp_region ?_
    refine aops_load_ptr 0 (w0 rfl) rfl rfl rfl rfl rfl (ld_agg (Nat.le_of_ble_eq_true rfl)) ?_
    refine aops_store 1 (w0 rfl) rfl rfl rfl rfl rfl rfl rfl rfl rfl ?_
    refine aops_e (w0 rfl) rfl (eff_assign rfl rfl) ?_
    refine aops_nil ?_
    refine awp_ret ?_
    exact retq rfl (res_cell 1 rfl rfl rfl (ld_agg (Nat.le_of_ble_eq_true rfl)) (res_tmp rfl res_nil)) (gsome (⟨_, _⟩, _) trivial rfl)

theorem w_split (u : Str) : ACalls Try.prog 59 [sA u] [] (GSome (fun r : List Ty × Ty × Int => .tup [.lst (r.1.map Ty.cells), r.2.1.av, iA r.2.2]) (fun r => r.1.length ≤ 64)) := by
  refine acalls_of (n := 78) Try.func59 rfl (by decide +kernel) rfl rfl ?_
  refine awp_seq ?_
  refine awp_region ?_
  refine aops_e (w0 rfl) rfl (eff_assign rfl rfl) ?_
  refine aops_n (w0 rfl) rfl (fun id => eff_alloc id rfl rfl rfl) (fun id1 => ?_)
  refine aops_e (w0 rfl) rfl (eff_assign rfl rfl) ?_
  refine aops_nil ?_
  refine awp_seq ?_
  refine awp_seq ?_
  refine awp_region ?_
  refine aops_e (w0 rfl) rfl (eff_move rfl rfl) ?_
  refine aops_e (w0 rfl) rfl (eff_len rfl rfl rfl rfl) ?_
  refine aops_e (w0 rfl) rfl (eff_icmp rfl rfl rfl rfl) ?_
  refine aops_nil ?_
  refine awp_cond rfl ?_ ?_
  · intro hc
    refine awp_seq ?_
    refine awp_region ?_
    refine aops_e (w0 rfl) rfl (eff_build rfl rfl rfl) ?_
    refine aops_e (w0 rfl) rfl (eff_sub (y := .lst []) (eff_assign rfl rfl) .z) ?_
    refine aops_store 0 (w0 rfl) rfl rfl rfl rfl rfl rfl rfl rfl rfl ?_
    refine aops_e (w0 rfl) rfl (eff_assign rfl rfl) ?_
    refine aops_nil ?_
    refine awp_ret ?_
    exact retq rfl (res_tmp rfl (res_cell 0 rfl rfl rfl (ld_agg (Nat.le_of_ble_eq_true rfl)) (res_tmp rfl res_nil))) (gsome ([], ⟨_, _⟩, _) (by simp) rfl)
  · intro hc
    have h64 : u.size ≤ 64 := by simp at hc; omega
    have hs : small u.size := by unfold small; omega
    refine awp_skip ?_
    refine awp_seq ?_
    refine awp_seq ?_
    refine awp_region ?_
    refine aops_e (w0 rfl) rfl (eff_move rfl rfl) ?_
    refine aops_e (w0 rfl) rfl (eff_len rfl rfl rfl rfl) ?_
    refine aops_e (w0 rfl) rfl (eff_icmp rfl rfl rfl rfl) ?_
    refine aops_e (w0 rfl) rfl (eff_move rfl rfl) ?_
    refine aops_g (wF rfl rfl rfl rfl) rfl (fun hg => (eff_move rfl rfl)) ?_
    refine aops_g (wF rfl rfl rfl rfl) rfl (fun hg => (eff_sidx rfl (ev_g hg rfl) rfl (by (by_cases h : u.size = 0; simp [h] at hg; omega)) (by (by_cases h : u.size = 0; simp [h] at hg; omega)))) ?_
    refine aops_g (wF rfl rfl rfl rfl) rfl (fun hg => (eff_icmp rfl (ev_g hg rfl) rfl rfl)) ?_
    refine aops_e (w0 rfl) rfl (eff_or rfl rfl rfl (fun h => by rw [h]; rfl)) ?_
    refine aops_nil ?_
    refine awp_cond rfl ?_ ?_
    · intro hc
      refine awp_seq ?_
      refine awp_region ?_
      refine aops_e (w0 rfl) rfl (eff_build rfl rfl rfl) ?_
      refine aops_e (w0 rfl) rfl (eff_sub (y := .lst []) (eff_assign rfl rfl) .z) ?_
      refine aops_store 0 (w0 rfl) rfl rfl rfl rfl rfl rfl rfl rfl rfl ?_
      refine aops_e (w0 rfl) rfl (eff_assign rfl rfl) ?_
      refine aops_nil ?_
      refine awp_ret ?_
      exact retq rfl (res_tmp rfl (res_cell 0 rfl rfl rfl (ld_agg (Nat.le_of_ble_eq_true rfl)) (res_tmp rfl res_nil))) (gsome ([], ⟨_, _⟩, _) (by simp) rfl)
    · intro hc
      have hz : 0 < u.size := by by_cases h : u.size = 0; simp [h] at hc; omega
      refine awp_skip ?_
      refine awp_seq ?_
      refine awp_region ?_
      refine aops_n (w0 rfl) rfl (fun id => eff_nil id 48 2 (.inl rfl) rfl) (fun id2 => ?_)
      refine aops_nil ?_
      refine awp_seq ?_
      refine awp_region ?_
      refine aops_e (w0 rfl) rfl (eff_assign rfl rfl) ?_
      refine aops_nil ?_
      refine awp_seq ?_
      refine awp_block ?_
      refine awp_loopJ (α := Nat × List Ty × Int) (fun x => ⟨[(6, iA x.2.2), (5, .own x.1 2 0 x.2.1.length), (0, sA u), (3, .ptr id1 2 0 0)], [(x.1, .rows 48 2 (x.2.1.map Ty.cells)), (id1, .rows 48 2 [Ty.cells ⟨0, zS⟩])], [], 78⟩) (fun x => 1 ≤ x.2.2 ∧ x.2.2 ≤ u.size ∧ x.2.1.length ≤ x.2.2) (fun x => (u.size - x.2.2).toNat) (id2, [], 1) ⟨by simp, by simp; omega, by simp⟩ ?_ ?_
      · exact weak_pick [0, 1] ⟨rfl, rfl, rfl, rfl, trivial⟩ rfl (by decide) rfl rfl
      rintro x hJ
      refine awp_seq ?_
      refine awp_seq ?_
      refine awp_region ?_
      refine aops_e (w0 rfl) rfl (eff_move rfl rfl) ?_
      refine aops_e (w0 rfl) rfl (eff_move rfl rfl) ?_
      refine aops_e (w0 rfl) rfl (eff_len rfl rfl rfl rfl) ?_
      refine aops_e (w0 rfl) rfl (eff_icmp rfl rfl rfl rfl) ?_
      refine aops_e (w0 rfl) rfl (eff_move rfl rfl) ?_
      refine aops_g (wT rfl rfl rfl rfl) rfl (fun hg => (eff_move rfl rfl)) ?_
      refine aops_g (wT rfl rfl rfl rfl) rfl (fun hg => (eff_move rfl rfl)) ?_
      refine aops_g (wT rfl rfl rfl rfl) rfl (fun hg => (eff_sidx rfl (ev_g hg rfl) (ev_g hg rfl) (by (try simp at hg) <;> first | omega | (simp only [List.length_map]; omega)) (by (try simp at hg) <;> first | omega | (simp only [List.length_map]; omega)))) ?_
      refine aops_g (wT rfl rfl rfl rfl) rfl (fun hg => (eff_icmp rfl (ev_g hg rfl) rfl rfl)) ?_
      refine aops_e (w0 rfl) rfl (eff_and rfl rfl rfl (fun h => h)) ?_
      refine aops_nil ?_
      refine awp_cond rfl ?_ ?_
      · intro hc
        have ht : x.2.2 < u.size := by simp at hc; omega
        refine awp_skip ?_
        refine awp_block ?_
        refine awp_seq ?_
        refine awp_region ?_
        refine aops_e (w0 rfl) rfl (eff_move rfl rfl) ?_
        refine aops_e (w0 rfl) rfl (eff_move rfl rfl) ?_
        refine aops_callS (w0 rfl) rfl rfl rfl rfl (w_next _ _ hs (by omega) (by omega)) (fun v3 hv3 => ?_)
        obtain ⟨⟨tk, tc⟩, to, ok⟩ := v3
        refine aops_e (w0 rfl) rfl (eff_move rfl rfl) ?_
        refine aops_e (w0 rfl) rfl (eff_extract rfl rfl rfl) ?_
        refine aops_e (w0 rfl) rfl (eff_extract rfl rfl rfl) ?_
        refine aops_e (w0 rfl) rfl (eff_extract rfl rfl rfl) ?_
        refine aops_n (w0 rfl) rfl (fun id => eff_alloc id rfl rfl rfl) (fun id4 => ?_)
        refine aops_store 0 (w0 rfl) rfl rfl rfl rfl rfl rfl rfl rfl rfl ?_
        refine aops_e (w0 rfl) rfl (eff_assign rfl rfl) ?_
        refine aops_e (w0 rfl) rfl (eff_assign rfl rfl) ?_
        refine aops_nil ?_
        refine awp_seq ?_
        refine awp_seq ?_
        refine awp_region ?_
        refine aops_e (w0 rfl) rfl (eff_move rfl rfl) ?_
        refine aops_e (w0 rfl) rfl (eff_not rfl rfl) ?_
        refine aops_e (w0 rfl) rfl (eff_move rfl rfl) ?_
        refine aops_g (wF rfl rfl rfl rfl) rfl (fun hg => (eff_fieldAddr rfl rfl rfl)) ?_
        refine aops_gload 0 (wF rfl rfl rfl rfl) rfl rfl (fun hg => (ev_g hg rfl)) rfl rfl ld_one ?_
        refine aops_g (wF rfl rfl rfl rfl) rfl (fun hg => (eff_icmp rfl (ev_g hg rfl) rfl rfl)) ?_
        refine aops_e (w0 rfl) rfl (eff_or rfl rfl rfl (fun h => by rw [h]; rfl)) ?_
        refine aops_nil ?_
        refine awp_cond rfl ?_ ?_
        · intro hc
          refine awp_seq ?_
          refine awp_region ?_
          refine aops_e (w0 rfl) rfl (eff_build rfl rfl rfl) ?_
          refine aops_e (w0 rfl) rfl (eff_sub (y := .lst []) (eff_assign rfl rfl) .z) ?_
          refine aops_store 2 (w0 rfl) rfl rfl rfl rfl rfl rfl rfl rfl rfl ?_
          refine aops_e (w0 rfl) rfl (eff_assign rfl rfl) ?_
          refine aops_nil ?_
          refine awp_ret ?_
          exact retq rfl (res_tmp rfl (res_cell 2 rfl rfl rfl (ld_agg (Nat.le_of_ble_eq_true rfl)) (res_tmp rfl res_nil))) (gsome ([], ⟨_, _⟩, _) (by simp) rfl)
        · intro hc
          have hto := hv3 (by simp at hc; simp [hc])
          simp only at hto
          refine awp_skip ?_
          refine awp_seq ?_
          refine awp_region ?_
          refine aops_e (w0 rfl) rfl (eff_move rfl rfl) ?_
          refine aops_load_ptr 0 (w0 rfl) rfl rfl rfl rfl rfl (ld_agg (Nat.le_of_ble_eq_true rfl)) ?_
          refine aops_n (w0 rfl) rfl (fun id => eff_buildSlice id (ps := [(0, .tmp 51)]) rfl rfl rfl rfl rfl rfl rfl rfl) (fun id5 => ?_)
          refine aops_append 2 (w0 rfl) rfl rfl rfl rfl (by simp) rfl ⟨rfl, _, _, List.mem_of_getElem? (i := 0) rfl, by simp, rfl⟩ (by first | omega | (simp; omega) | (simp [maxLen]; omega) | (simp; done) | (simp [maxLen]; done)) (by first | omega | (simp; omega) | (simp [maxLen]; omega) | (simp; done) | (simp [maxLen]; done)) (fun id6 => ?_)
          refine aops_e (w0 rfl) rfl (eff_assign rfl rfl) ?_
          refine aops_nil ?_
          refine awp_region ?_
          refine aops_e (w0 rfl) rfl (eff_move rfl rfl) ?_
          refine aops_e (w0 rfl) rfl (eff_assign rfl rfl) ?_
          refine aops_nil ?_
          refine ⟨(id6, x.2.1 ++ [⟨tk, tc⟩], to), ⟨by simp; omega, by simp; omega, by simp; omega⟩, (by simp; omega), ?_⟩
          exact weak_pick [2, 3] ⟨rfl, (by show some (AV.own _ _ _ _) = some (AV.own _ _ _ _); simp), rfl, rfl, trivial⟩ (by show some [(_, AObj.rows _ _ _), _] = some [(_, AObj.rows _ _ _), _]; simp [cellsA, Ty.av, Ty.cells]) (by decide) rfl rfl
      · intro hc
        refine awp_exit ?_
        refine awp_seq ?_
        refine awp_seq ?_
        refine awp_region ?_
        refine aops_e (w0 rfl) rfl (eff_move rfl rfl) ?_
        refine aops_e (w0 rfl) rfl (eff_move rfl rfl) ?_
        refine aops_e (w0 rfl) rfl (eff_len rfl rfl rfl rfl) ?_
        refine aops_e (w0 rfl) rfl (eff_icmp rfl rfl rfl rfl) ?_
        refine aops_nil ?_
        refine awp_cond rfl ?_ ?_
        · intro hc
          refine awp_seq ?_
          refine awp_region ?_
          refine aops_e (w0 rfl) rfl (eff_build rfl rfl rfl) ?_
          refine aops_e (w0 rfl) rfl (eff_sub (y := .lst []) (eff_assign rfl rfl) .z) ?_
          refine aops_store 1 (w0 rfl) rfl rfl rfl rfl rfl rfl rfl rfl rfl ?_
          refine aops_e (w0 rfl) rfl (eff_assign rfl rfl) ?_
          refine aops_nil ?_
          refine awp_ret ?_
          exact retq rfl (res_tmp rfl (res_cell 1 rfl rfl rfl (ld_agg (Nat.le_of_ble_eq_true rfl)) (res_tmp rfl res_nil))) (gsome ([], ⟨_, _⟩, _) (by simp) rfl)
        · intro hc
          have ht : x.2.2 < u.size := by simpa using hc
          refine awp_skip ?_
          refine awp_seq ?_
          refine awp_region ?_
          refine aops_e (w0 rfl) rfl (eff_move rfl rfl) ?_
          refine aops_e (w0 rfl) rfl (eff_move rfl rfl) ?_
          refine aops_e (w0 rfl) rfl (eff_arith rfl rfl rfl (arith_add (by first | omega | (simp only [List.length_map]; omega)))) ?_
          refine aops_e (w0 rfl) rfl (eff_ssliceFrom rfl rfl rfl (by first | omega | (simp only [List.length_map]; omega)) (by first | omega | (simp only [List.length_map]; omega))) ?_
          refine aops_callS (w0 rfl) rfl rfl rfl rfl (w_parse _ (by have := extract_le u (x.2.2 + 1).toNat u.size; unfold small; omega)) (fun v7 hv7 => ?_)
          obtain ⟨⟨tk, tc⟩, er⟩ := v7
          refine aops_e (w0 rfl) rfl (eff_move rfl rfl) ?_
          refine aops_e (w0 rfl) rfl (eff_extract rfl rfl rfl) ?_
          refine aops_e (w0 rfl) rfl (eff_extract rfl rfl rfl) ?_
          refine aops_n (w0 rfl) rfl (fun id => eff_alloc id rfl rfl rfl) (fun id8 => ?_)
          refine aops_store 0 (w0 rfl) rfl rfl rfl rfl rfl rfl rfl rfl rfl ?_
          refine aops_e (w0 rfl) rfl (eff_assign rfl rfl) ?_
          refine aops_nil ?_
          refine awp_seq ?_
          refine awp_seq ?_
          refine awp_region ?_
          refine aops_e (w0 rfl) rfl (eff_move rfl rfl) ?_
          refine aops_e (w0 rfl) rfl (eff_icmp rfl rfl rfl rfl) ?_
          refine aops_nil ?_
          refine awp_cond rfl ?_ ?_
          · intro hc
            refine awp_seq ?_
            refine awp_region ?_
            refine aops_e (w0 rfl) rfl (eff_build rfl rfl rfl) ?_
            refine aops_e (w0 rfl) rfl (eff_move rfl rfl) ?_
            refine aops_e (w0 rfl) rfl (eff_sub (y := .lst []) (eff_assign rfl rfl) .z) ?_
            refine aops_store 2 (w0 rfl) rfl rfl rfl rfl rfl rfl rfl rfl rfl ?_
            refine aops_e (w0 rfl) rfl (eff_assign rfl rfl) ?_
            refine aops_nil ?_
            refine awp_ret ?_
            exact retq rfl (res_tmp rfl (res_cell 2 rfl rfl rfl (ld_agg (Nat.le_of_ble_eq_true rfl)) (res_tmp rfl res_nil))) (gsome ([], ⟨_, _⟩, _) (by simp) rfl)
          · intro hc
            refine awp_skip ?_
            refine awp_seq ?_
            refine awp_seq ?_
            refine awp_region ?_
            refine aops_e (w0 rfl) rfl (eff_move rfl rfl) ?_
            refine aops_e (w0 rfl) rfl (eff_len rfl rfl rfl rfl) ?_
            refine aops_e (w0 rfl) rfl (eff_icmp rfl rfl rfl rfl) ?_
            refine aops_nil ?_
            refine awp_cond rfl ?_ ?_
            · intro hc
              refine awp_seq ?_
              refine awp_region ?_
              refine aops_e (w0 rfl) rfl (eff_build rfl rfl rfl) ?_
              refine aops_e (w0 rfl) rfl (eff_sub (y := .lst []) (eff_assign rfl rfl) .z) ?_
              refine aops_store 2 (w0 rfl) rfl rfl rfl rfl rfl rfl rfl rfl rfl ?_
              refine aops_e (w0 rfl) rfl (eff_assign rfl rfl) ?_
              refine aops_nil ?_
              refine awp_ret ?_
              exact retq rfl (res_tmp rfl (res_cell 2 rfl rfl rfl (ld_agg (Nat.le_of_ble_eq_true rfl)) (res_tmp rfl res_nil))) (gsome ([], ⟨_, _⟩, _) (by simp) rfl)
            · intro hc
              refine awp_skip ?_
              refine awp_seq ?_
              refine awp_weak (weak_frz 1 5 (T' := [(3, .ptr _ _ _ _), (10, .ptr _ _ _ _), (11, _)]) rfl rfl (by simp) ⟨rfl, rfl, rfl, trivial⟩) ?_
              refine awp_drawN 3 rfl (by kernel_rfl) ?_
              refine calm_e (w0 rfl) rfl (eff_move rfl rfl) ?_
              refine calm_load_ptr 0 (w0 rfl) rfl rfl rfl rfl rfl (ld_agg (Nat.le_of_ble_eq_true rfl)) ?_
              refine calm_e (w0 rfl) rfl (eff_assign rfl rfl) ?_
              refine .done ?_
              refine aops_store 1 (w0 rfl) rfl rfl rfl rfl rfl rfl rfl rfl rfl ?_
              refine aops_e (w0 rfl) rfl (eff_assign rfl rfl) ?_
              refine aops_nil ?_
              refine awp_ret ?_
              exact retq rfl (res_tmp rfl (res_cell 1 rfl rfl rfl (ld_agg (Nat.le_of_ble_eq_true rfl)) (res_tmp rfl res_nil))) (gsome (x.2.1, ⟨tk, tc⟩, 0) (by simp only; omega) rfl)

theorem w_empty (x : Instr) (u : Str) (hs : small u.size) : ACalls Try.prog 68 [.agg x.cells, sA u] [] (SomeB) := by
  refine acalls_of (n := 102) Try.func68 rfl (by decide +kernel) rfl rfl ?_
  refine awp_seq ?_
  refine awp_region ?_
  refine aops_n (w0 rfl) rfl (fun id => eff_box id rfl rfl rfl rfl rfl) (fun id1 => ?_)
  refine aops_e (w0 rfl) rfl (eff_assign rfl rfl) ?_
  refine aops_nil ?_
  refine awp_seq ?_
  refine awp_region ?_
  refine aops_e (w0 rfl) rfl (eff_move rfl rfl) ?_
  refine aops_callS (w0 rfl) rfl rfl rfl rfl (w_has _ _ hs) (fun v2 hv2 => ?_)
  refine aops_e (w0 rfl) rfl (eff_move rfl rfl) ?_
  refine aops_g (wF rfl rfl rfl rfl) rfl (fun hg => (eff_move rfl rfl)) ?_
  refine aops_gcallS (wF rfl rfl rfl rfl) rfl rfl (fun hg => rfl) (fun hg => (evs_cons (ev_g hg rfl) (evs_cons rfl evs_nil))) (fun hg => (w_has _ _ hs)) (fun v3 hv3 => ?_)
  refine aops_e (w0 rfl) rfl (eff_or rfl rfl rfl (fun h => by rw [h]; rfl)) ?_
  refine aops_e (w0 rfl) rfl (eff_move rfl rfl) ?_
  refine aops_g (wF rfl rfl rfl rfl) rfl (fun hg => (eff_move rfl rfl)) ?_
  refine aops_gcallS (wF rfl rfl rfl rfl) rfl rfl (fun hg => rfl) (fun hg => (evs_cons (ev_g hg rfl) (evs_cons rfl evs_nil))) (fun hg => (w_has _ _ hs)) (fun v4 hv4 => ?_)
  refine aops_e (w0 rfl) rfl (eff_or rfl rfl rfl (fun h => by rw [h]; rfl)) ?_
  refine aops_e (w0 rfl) rfl (eff_assign rfl rfl) ?_
  refine aops_nil ?_
  refine awp_seq ?_
  refine awp_region ?_
  refine aops_e (w0 rfl) rfl (eff_move rfl rfl) ?_
  refine aops_callS (w0 rfl) rfl rfl rfl rfl (w_has _ _ hs) (fun v5 hv5 => ?_)
  refine aops_e (w0 rfl) rfl (eff_move rfl rfl) ?_
  refine aops_g (wF rfl rfl rfl rfl) rfl (fun hg => (eff_move rfl rfl)) ?_
  refine aops_gcallS (wF rfl rfl rfl rfl) rfl rfl (fun hg => rfl) (fun hg => (evs_cons (ev_g hg rfl) (evs_cons rfl evs_nil))) (fun hg => (w_has _ _ hs)) (fun v6 hv6 => ?_)
  refine aops_e (w0 rfl) rfl (eff_or rfl rfl rfl (fun h => by rw [h]; rfl)) ?_
  refine aops_e (w0 rfl) rfl (eff_assign rfl rfl) ?_
  refine aops_nil ?_
  refine awp_seq ?_
  refine awp_region ?_
  refine aops_e (w0 rfl) rfl (eff_move rfl rfl) ?_
  refine aops_callS (w0 rfl) rfl rfl rfl rfl (w_has _ _ hs) (fun v7 hv7 => ?_)
  refine aops_e (w0 rfl) rfl (eff_move rfl rfl) ?_
  refine aops_g (wF rfl rfl rfl rfl) rfl (fun hg => (eff_move rfl rfl)) ?_
  refine aops_gcallS (wF rfl rfl rfl rfl) rfl rfl (fun hg => rfl) (fun hg => (evs_cons (ev_g hg rfl) (evs_cons rfl evs_nil))) (fun hg => (w_has _ _ hs)) (fun v8 hv8 => ?_)
  refine aops_e (w0 rfl) rfl (eff_or rfl rfl rfl (fun h => by rw [h]; rfl)) ?_
  refine aops_e (w0 rfl) rfl (eff_move rfl rfl) ?_
  refine aops_g (wF rfl rfl rfl rfl) rfl (fun hg => (eff_move rfl rfl)) ?_
  refine aops_gcallS (wF rfl rfl rfl rfl) rfl rfl (fun hg => rfl) (fun hg => (evs_cons (ev_g hg rfl) (evs_cons rfl evs_nil))) (fun hg => (w_has _ _ hs)) (fun v9 hv9 => ?_)
  refine aops_e (w0 rfl) rfl (eff_or rfl rfl rfl (fun h => by rw [h]; rfl)) ?_
  refine aops_e (w0 rfl) rfl (eff_assign rfl rfl) ?_
  refine aops_nil ?_
  refine awp_seq ?_
  refine awp_region ?_
  refine aops_e (w0 rfl) rfl (eff_move rfl rfl) ?_
  refine aops_callS (w0 rfl) rfl rfl rfl rfl (w_has _ _ hs) (fun v10 hv10 => ?_)
  refine aops_e (w0 rfl) rfl (eff_move rfl rfl) ?_
  refine aops_g (wF rfl rfl rfl rfl) rfl (fun hg => (eff_fieldAddr rfl rfl rfl)) ?_
  refine aops_gload 0 (wF rfl rfl rfl rfl) rfl rfl (fun hg => (ev_g hg rfl)) rfl rfl ld_one ?_
  refine aops_g (wF rfl rfl rfl rfl) rfl (fun hg => (eff_icmp rfl (ev_g hg rfl) rfl rfl)) ?_
  refine aops_e (w0 rfl) rfl (eff_or rfl rfl rfl (fun h => by rw [h]; rfl)) ?_
  refine aops_e (w0 rfl) rfl (eff_move rfl rfl) ?_
  refine aops_g (wT rfl rfl rfl rfl) rfl (fun hg => (eff_move rfl rfl)) ?_
  refine aops_gcallS (wT rfl rfl rfl rfl) rfl rfl (fun hg => rfl) (fun hg => (evs_cons (ev_g hg rfl) (evs_cons rfl evs_nil))) (fun hg => (w_has _ _ hs)) (fun v11 hv11 => ?_)
  refine aops_g (wT rfl rfl rfl rfl) rfl (fun hg => (eff_move rfl (ev_g hg rfl))) ?_
  refine aops_g (wFg rfl rfl rfl rfl) rfl (fun hg => (eff_fieldAddr rfl rfl rfl)) ?_
  refine aops_gload 0 (wFg rfl rfl rfl rfl) rfl rfl (fun hg => (ev_g hg rfl)) rfl rfl ld_one ?_
  refine aops_g (wFg rfl rfl rfl rfl) rfl (fun hg => (eff_icmp rfl (ev_g hg rfl) rfl rfl)) ?_
  refine aops_g (wT rfl rfl rfl rfl) rfl (fun hg => (eff_or rfl (ev_g hg rfl) rfl (fun h => by first | (simp [h, hg]; done) | (simp_all; done)))) ?_
  refine aops_e (w0 rfl) rfl (eff_and rfl rfl rfl (fun h => h)) ?_
  refine aops_e (w0 rfl) rfl (eff_move rfl rfl) ?_
  refine aops_g (wT rfl rfl rfl rfl) rfl (fun hg => (eff_move rfl rfl)) ?_
  refine aops_gcallS (wT rfl rfl rfl rfl) rfl rfl (fun hg => rfl) (fun hg => (evs_cons (ev_g hg rfl) (evs_cons rfl evs_nil))) (fun hg => (w_has _ _ hs)) (fun v12 hv12 => ?_)
  refine aops_g (wT rfl rfl rfl rfl) rfl (fun hg => (eff_move rfl (ev_g hg rfl))) ?_
  refine aops_g (wFg rfl rfl rfl rfl) rfl (fun hg => (eff_fieldAddr rfl rfl rfl)) ?_
  refine aops_gload 0 (wFg rfl rfl rfl rfl) rfl rfl (fun hg => (ev_g hg rfl)) rfl rfl ld_one ?_
  refine aops_g (wFg rfl rfl rfl rfl) rfl (fun hg => (eff_icmp rfl (ev_g hg rfl) rfl rfl)) ?_
  refine aops_g (wT rfl rfl rfl rfl) rfl (fun hg => (eff_or rfl (ev_g hg rfl) rfl (fun h => by first | (simp [h, hg]; done) | (simp_all; done)))) ?_
  refine aops_e (w0 rfl) rfl (eff_and rfl rfl rfl (fun h => h)) ?_
  refine aops_e (w0 rfl) rfl (eff_move rfl rfl) ?_
  refine aops_g (wT rfl rfl rfl rfl) rfl (fun hg => (eff_move rfl rfl)) ?_
  refine aops_g (wT rfl rfl rfl rfl) rfl (fun hg => (eff_move rfl (ev_g hg rfl))) ?_
  refine aops_g (wFg rfl rfl rfl rfl) rfl (fun hg => (eff_fieldAddr rfl rfl rfl)) ?_
  refine aops_gload 0 (wFg rfl rfl rfl rfl) rfl rfl (fun hg => (ev_g hg rfl)) rfl rfl ld_one ?_
  refine aops_g (wFg rfl rfl rfl rfl) rfl (fun hg => (eff_icmp rfl (ev_g hg rfl) rfl rfl)) ?_
  refine aops_g (wT rfl rfl rfl rfl) rfl (fun hg => (eff_or rfl (ev_g hg rfl) rfl (fun h => by first | (simp [h, hg]; done) | (simp_all; done)))) ?_
  refine aops_e (w0 rfl) rfl (eff_and rfl rfl rfl (fun h => h)) ?_
  refine aops_e (w0 rfl) rfl (eff_move rfl rfl) ?_
  refine aops_g (wT rfl rfl rfl rfl) rfl (fun hg => (eff_move rfl rfl)) ?_
  refine aops_g (wT rfl rfl rfl rfl) rfl (fun hg => (eff_move rfl (ev_g hg rfl))) ?_
  refine aops_g (wFg rfl rfl rfl rfl) rfl (fun hg => (eff_fieldAddr rfl rfl rfl)) ?_
  refine aops_gload 0 (wFg rfl rfl rfl rfl) rfl rfl (fun hg => (ev_g hg rfl)) rfl rfl ld_one ?_
  refine aops_g (wFg rfl rfl rfl rfl) rfl (fun hg => (eff_scmp rfl (ev_g hg rfl) rfl rfl)) ?_
  refine aops_g (wT rfl rfl rfl rfl) rfl (fun hg => (eff_or rfl (ev_g hg rfl) rfl (fun h => by first | (simp [h, hg]; done) | (simp_all; done)))) ?_
  refine aops_e (w0 rfl) rfl (eff_and rfl rfl rfl (fun h => h)) ?_
  refine aops_e (w0 rfl) rfl (eff_move rfl rfl) ?_
  refine aops_g (wT rfl rfl rfl rfl) rfl (fun hg => (eff_move rfl rfl)) ?_
  refine aops_g (wT rfl rfl rfl rfl) rfl (fun hg => (eff_move rfl (ev_g hg rfl))) ?_
  refine aops_g (wFg rfl rfl rfl rfl) rfl (fun hg => (eff_fieldAddr rfl rfl rfl)) ?_
  refine aops_gload 0 (wFg rfl rfl rfl rfl) rfl rfl (fun hg => (ev_g hg rfl)) rfl rfl ld_one ?_
  refine aops_g (wFg rfl rfl rfl rfl) rfl (fun hg => (eff_scmp rfl (ev_g hg rfl) rfl rfl)) ?_
  refine aops_g (wT rfl rfl rfl rfl) rfl (fun hg => (eff_or rfl (ev_g hg rfl) rfl (fun h => by first | (simp [h, hg]; done) | (simp_all; done)))) ?_
  refine aops_e (w0 rfl) rfl (eff_and rfl rfl rfl (fun h => h)) ?_
  refine aops_e (w0 rfl) rfl (eff_move rfl rfl) ?_
  refine aops_g (wT rfl rfl rfl rfl) rfl (fun hg => (eff_move rfl rfl)) ?_
  refine aops_gcallS (wT rfl rfl rfl rfl) rfl rfl (fun hg => rfl) (fun hg => (evs_cons (ev_g hg rfl) (evs_cons rfl evs_nil))) (fun hg => (w_has _ _ hs)) (fun v13 hv13 => ?_)
  refine aops_g (wT rfl rfl rfl rfl) rfl (fun hg => (eff_move rfl (ev_g hg rfl))) ?_
  refine aops_g (wFg rfl rfl rfl rfl) rfl (fun hg => (eff_fieldAddr rfl rfl rfl)) ?_
  refine aops_gload 0 (wFg rfl rfl rfl rfl) rfl rfl (fun hg => (ev_g hg rfl)) rfl rfl ld_one ?_
  refine aops_g (wFg rfl rfl rfl rfl) rfl (fun hg => (eff_scmp rfl (ev_g hg rfl) rfl rfl)) ?_
  refine aops_g (wT rfl rfl rfl rfl) rfl (fun hg => (eff_or rfl (ev_g hg rfl) rfl (fun h => by first | (simp [h, hg]; done) | (simp_all; done)))) ?_
  refine aops_e (w0 rfl) rfl (eff_and rfl rfl rfl (fun h => h)) ?_
  refine aops_e (w0 rfl) rfl (eff_move rfl rfl) ?_
  refine aops_g (wT rfl rfl rfl rfl) rfl (fun hg => (eff_move rfl rfl)) ?_
  refine aops_gcallS (wT rfl rfl rfl rfl) rfl rfl (fun hg => rfl) (fun hg => (evs_cons (ev_g hg rfl) (evs_cons rfl evs_nil))) (fun hg => (w_has _ _ hs)) (fun v14 hv14 => ?_)
  refine aops_g (wT rfl rfl rfl rfl) rfl (fun hg => (eff_move rfl (ev_g hg rfl))) ?_
  refine aops_g (wFg rfl rfl rfl rfl) rfl (fun hg => (eff_fieldAddr rfl rfl rfl)) ?_
  refine aops_gload 0 (wFg rfl rfl rfl rfl) rfl rfl (fun hg => (ev_g hg rfl)) rfl rfl ld_one ?_
  refine aops_g (wFg rfl rfl rfl rfl) rfl (fun hg => (eff_len rfl (ev_g hg rfl) rfl rfl)) ?_
  refine aops_g (wFg rfl rfl rfl rfl) rfl (fun hg => (eff_icmp rfl (ev_g hg rfl) rfl rfl)) ?_
  refine aops_g (wT rfl rfl rfl rfl) rfl (fun hg => (eff_or rfl (ev_g hg rfl) rfl (fun h => by first | (simp [h, hg]; done) | (simp_all; done)))) ?_
  refine aops_e (w0 rfl) rfl (eff_and rfl rfl rfl (fun h => h)) ?_
  refine aops_e (w0 rfl) rfl (eff_assign rfl rfl) ?_
  refine aops_nil ?_
  refine awp_ret ?_
  exact retq rfl (res_tmp rfl res_nil) gsomeB

theorem w_named (x : Instr) (u : Str) (hs : small u.size) : ACalls Try.prog 69 [.agg x.cells, sA u] [] (SomeB) := by
  refine acalls_of (n := 50) Try.func69 rfl (by decide +kernel) rfl rfl ?_
  refine awp_seq ?_
  refine awp_region ?_
  refine aops_n (w0 rfl) rfl (fun id => eff_box id rfl rfl rfl rfl rfl) (fun id1 => ?_)
  refine aops_e (w0 rfl) rfl (eff_assign rfl rfl) ?_
  refine aops_nil ?_
  refine awp_seq ?_
  refine awp_seq ?_
  refine awp_region ?_
  refine aops_e (w0 rfl) rfl (eff_move rfl rfl) ?_
  refine aops_callS (w0 rfl) rfl rfl rfl rfl (w_has _ _ hs) (fun v2 hv2 => ?_)
  refine aops_e (w0 rfl) rfl (eff_move rfl rfl) ?_
  refine aops_g (wF rfl rfl rfl rfl) rfl (fun hg => (eff_move rfl rfl)) ?_
  refine aops_gcallS (wF rfl rfl rfl rfl) rfl rfl (fun hg => rfl) (fun hg => (evs_cons (ev_g hg rfl) (evs_cons rfl evs_nil))) (fun hg => (w_has _ _ hs)) (fun v3 hv3 => ?_)
  refine aops_e (w0 rfl) rfl (eff_or rfl rfl rfl (fun h => by rw [h]; rfl)) ?_
  refine aops_e (w0 rfl) rfl (eff_move rfl rfl) ?_
  refine aops_g (wF rfl rfl rfl rfl) rfl (fun hg => (eff_move rfl rfl)) ?_
  refine aops_gcallS (wF rfl rfl rfl rfl) rfl rfl (fun hg => rfl) (fun hg => (evs_cons (ev_g hg rfl) (evs_cons rfl evs_nil))) (fun hg => (w_has _ _ hs)) (fun v4 hv4 => ?_)
  refine aops_e (w0 rfl) rfl (eff_or rfl rfl rfl (fun h => by rw [h]; rfl)) ?_
  refine aops_e (w0 rfl) rfl (eff_move rfl rfl) ?_
  refine aops_g (wT rfl rfl rfl rfl) rfl (fun hg => (eff_fieldAddr rfl rfl rfl)) ?_
  refine aops_gload 0 (wT rfl rfl rfl rfl) rfl rfl (fun hg => (ev_g hg rfl)) rfl rfl ld_one ?_
  refine aops_gcallS (wT rfl rfl rfl rfl) rfl rfl (fun hg => rfl) (fun hg => (evs_cons (ev_g hg rfl) evs_nil)) (fun hg => (w_class _)) (fun v5 hv5 => ?_)
  refine aops_g (wT rfl rfl rfl rfl) rfl (fun hg => (eff_not rfl (ev_g hg rfl))) ?_
  refine aops_e (w0 rfl) rfl (eff_and rfl rfl rfl (fun h => h)) ?_
  refine aops_nil ?_
  refine awp_cond rfl ?_ ?_
  · intro hc
    refine awp_seq ?_
    refine awp_region ?_
    refine aops_e (w0 rfl) rfl (eff_assign rfl rfl) ?_
    refine aops_nil ?_
    refine awp_ret ?_
    exact retq rfl (res_tmp rfl res_nil) gsomeB
  · intro hc
    refine awp_skip ?_
    refine awp_seq ?_
    refine awp_seq ?_
    refine awp_region ?_
    refine aops_e (w0 rfl) rfl (eff_move rfl rfl) ?_
    refine aops_callS (w0 rfl) rfl rfl rfl rfl (w_has _ _ hs) (fun v6 hv6 => ?_)
    refine aops_e (w0 rfl) rfl (eff_move rfl rfl) ?_
    refine aops_g (wF rfl rfl rfl rfl) rfl (fun hg => (eff_move rfl rfl)) ?_
    refine aops_gcallS (wF rfl rfl rfl rfl) rfl rfl (fun hg => rfl) (fun hg => (evs_cons (ev_g hg rfl) (evs_cons rfl evs_nil))) (fun hg => (w_has _ _ hs)) (fun v7 hv7 => ?_)
    refine aops_e (w0 rfl) rfl (eff_or rfl rfl rfl (fun h => by rw [h]; rfl)) ?_
    refine aops_e (w0 rfl) rfl (eff_move rfl rfl) ?_
    refine aops_g (wT rfl rfl rfl rfl) rfl (fun hg => (eff_fieldAddr rfl rfl rfl)) ?_
    refine aops_gload 0 (wT rfl rfl rfl rfl) rfl rfl (fun hg => (ev_g hg rfl)) rfl rfl ld_one ?_
    refine aops_gcallS (wT rfl rfl rfl rfl) rfl rfl (fun hg => rfl) (fun hg => (evs_cons (ev_g hg rfl) evs_nil)) (fun hg => (w_name _)) (fun v8 hv8 => ?_)
    refine aops_g (wT rfl rfl rfl rfl) rfl (fun hg => (eff_not rfl (ev_g hg rfl))) ?_
    refine aops_e (w0 rfl) rfl (eff_and rfl rfl rfl (fun h => h)) ?_
    refine aops_nil ?_
    refine awp_cond rfl ?_ ?_
    · intro hc
      refine awp_seq ?_
      refine awp_region ?_
      refine aops_e (w0 rfl) rfl (eff_assign rfl rfl) ?_
      refine aops_nil ?_
      refine awp_ret ?_
      exact retq rfl (res_tmp rfl res_nil) gsomeB
    · intro hc
      refine awp_skip ?_
      refine awp_seq ?_
      refine awp_region ?_
      refine aops_e (w0 rfl) rfl (eff_fieldAddr rfl rfl rfl) ?_
      refine aops_load_ptr 0 (w0 rfl) rfl rfl rfl rfl rfl ld_one ?_
      refine aops_callS (w0 rfl) rfl rfl rfl rfl (w_split _) (fun v9 hv9 => ?_)
      obtain ⟨ps, ⟨tk, tc⟩, er⟩ := v9
      have hps : ps.length ≤ 64 := hv9
      refine aops_e (w0 rfl) rfl (eff_move rfl rfl) ?_
      refine aops_e (w0 rfl) rfl (eff_extract rfl rfl rfl) ?_
      refine aops_e (w0 rfl) rfl (eff_extract rfl rfl rfl) ?_
      refine aops_e (w0 rfl) rfl (eff_extract rfl rfl rfl) ?_
      refine aops_n (w0 rfl) rfl (fun id => eff_alloc id rfl rfl rfl) (fun id10 => ?_)
      refine aops_e (w0 rfl) rfl (eff_assign rfl rfl) ?_
      refine aops_store 0 (w0 rfl) rfl rfl rfl rfl rfl rfl rfl rfl rfl ?_
      refine aops_e (w0 rfl) rfl (eff_assign rfl rfl) ?_
      refine aops_nil ?_
      refine awp_seq ?_
      refine awp_region ?_
      refine aops_e (w0 rfl) rfl (eff_move rfl rfl) ?_
      refine aops_callS (w0 rfl) rfl rfl rfl rfl (w_has _ _ hs) (fun v11 hv11 => ?_)
      refine aops_e (w0 rfl) rfl (eff_not rfl rfl) ?_
      refine aops_e (w0 rfl) rfl (eff_move rfl rfl) ?_
      refine aops_g (wF rfl rfl rfl rfl) rfl (fun hg => (eff_move rfl rfl)) ?_
      refine aops_g (wF rfl rfl rfl rfl) rfl (fun hg => (eff_icmp rfl (ev_g hg rfl) rfl rfl)) ?_
      refine aops_e (w0 rfl) rfl (eff_or rfl rfl rfl (fun h => by rw [h]; rfl)) ?_
      refine aops_e (w0 rfl) rfl (eff_assign rfl rfl) ?_
      refine aops_nil ?_
      refine awp_ret ?_
      exact retq rfl (res_tmp rfl res_nil) gsomeB

theorem w_fits (x : Instr) (hx : x.ok) (n m : Int) : ACalls Try.prog 60 [.agg x.cells, iA n, iA m] [] (SomeI) := by
  have ha := hx.args.1
  simp only [small] at ha
  refine acalls_of (n := 143) Try.func60 rfl (by decide +kernel) rfl rfl ?_
  refine awp_seq ?_
  refine awp_region ?_
  refine aops_n (w0 rfl) rfl (fun id => eff_box id rfl rfl rfl rfl rfl) (fun id1 => ?_)
  refine aops_e (w0 rfl) rfl (eff_assign rfl rfl) ?_
  refine aops_nil ?_
  refine awp_seq ?_
  refine awp_region ?_
  refine aops_e (w0 rfl) rfl (eff_fieldAddr rfl rfl rfl) ?_
  refine aops_load_ptr 0 (w0 rfl) rfl rfl rfl rfl rfl ld_one ?_
  refine aops_callS (w0 rfl) rfl rfl rfl rfl (w_shape _) (fun v2 hv2 => ?_)
  have hs : small v2.size := by unfold small; omega
  refine aops_e (w0 rfl) rfl (eff_assign rfl rfl) ?_
  refine aops_nil ?_
  refine awp_seq ?_
  refine awp_seq ?_
  refine awp_region ?_
  refine aops_e (w0 rfl) rfl (eff_fieldAddr rfl rfl rfl) ?_
  refine aops_load_ptr 0 (w0 rfl) rfl rfl rfl rfl rfl ld_one ?_
  refine aops_e (w0 rfl) rfl (eff_icmp rfl rfl rfl rfl) ?_
  refine aops_e (w0 rfl) rfl (eff_move rfl rfl) ?_
  refine aops_g (wF rfl rfl rfl rfl) rfl (fun hg => (eff_fieldAddr rfl rfl rfl)) ?_
  refine aops_gload 0 (wF rfl rfl rfl rfl) rfl rfl (fun hg => (ev_g hg rfl)) rfl rfl ld_one ?_
  refine aops_g (wF rfl rfl rfl rfl) rfl (fun hg => (eff_icmp rfl (ev_g hg rfl) rfl rfl)) ?_
  refine aops_e (w0 rfl) rfl (eff_or rfl rfl rfl (fun h => by rw [h]; rfl)) ?_
  refine aops_e (w0 rfl) rfl (eff_move rfl rfl) ?_
  refine aops_gload 0 (wF rfl rfl rfl rfl) rfl rfl (fun hg => rfl) rfl rfl (ld_agg (Nat.le_of_ble_eq_true rfl)) ?_
  refine aops_g (wF rfl rfl rfl rfl) rfl (fun hg => (eff_move rfl rfl)) ?_
  refine aops_gcallS (wF rfl rfl rfl rfl) rfl rfl (fun hg => rfl) (fun hg => (evs_cons (ev_g hg rfl) (evs_cons (ev_g hg rfl) evs_nil))) (fun hg => (w_empty _ _ hs)) (fun v3 hv3 => ?_)
  refine aops_g (wF rfl rfl rfl rfl) rfl (fun hg => (eff_not rfl (ev_g hg rfl))) ?_
  refine aops_e (w0 rfl) rfl (eff_or rfl rfl rfl (fun h => by rw [h]; rfl)) ?_
  refine aops_e (w0 rfl) rfl (eff_move rfl rfl) ?_
  refine aops_gload 0 (wF rfl rfl rfl rfl) rfl rfl (fun hg => rfl) rfl rfl (ld_agg (Nat.le_of_ble_eq_true rfl)) ?_
  refine aops_g (wF rfl rfl rfl rfl) rfl (fun hg => (eff_move rfl rfl)) ?_
  refine aops_gcallS (wF rfl rfl rfl rfl) rfl rfl (fun hg => rfl) (fun hg => (evs_cons (ev_g hg rfl) (evs_cons (ev_g hg rfl) evs_nil))) (fun hg => (w_named _ _ hs)) (fun v4 hv4 => ?_)
  refine aops_g (wF rfl rfl rfl rfl) rfl (fun hg => (eff_not rfl (ev_g hg rfl))) ?_
  refine aops_e (w0 rfl) rfl (eff_or rfl rfl rfl (fun h => by rw [h]; rfl)) ?_
  refine aops_nil ?_
  refine awp_cond rfl ?_ ?_
  · intro hc
    refine awp_seq ?_
    refine awp_region ?_
    refine aops_e (w0 rfl) rfl (eff_assign rfl rfl) ?_
    refine aops_nil ?_
    refine awp_ret ?_
    exact retq rfl (res_tmp rfl res_nil) gsomeI
  · intro hc
    refine awp_skip ?_
    refine awp_seq ?_
    refine awp_region ?_
    refine aops_e (w0 rfl) rfl (eff_assign rfl rfl) ?_
    refine aops_nil ?_
    refine awp_seq ?_
    refine awp_seq ?_
    refine awp_region ?_
    refine aops_e (w0 rfl) rfl (eff_fieldAddr rfl rfl rfl) ?_
    refine aops_load_ptr 0 (w0 rfl) rfl rfl rfl rfl rfl ld_one ?_
    refine aops_callS (w0 rfl) rfl rfl rfl rfl (w_isCall _) (fun v5 hv5 => ?_)
    refine aops_nil ?_
    refine awp_cond rfl ?_ ?_
    · intro hc
      refine awp_seq ?_
      refine awp_region ?_
      refine aops_e (w0 rfl) rfl (eff_fieldAddr rfl rfl rfl) ?_
      refine aops_load_ptr 0 (w0 rfl) rfl rfl rfl rfl rfl ld_one ?_
      refine aops_callS (w0 rfl) rfl rfl rfl rfl (w_split _) (fun v6 hv6 => ?_)
      obtain ⟨ps, ⟨tk, tc⟩, er⟩ := v6
      have hps : ps.length ≤ 64 := hv6
      refine aops_e (w0 rfl) rfl (eff_move rfl rfl) ?_
      refine aops_e (w0 rfl) rfl (eff_extract rfl rfl rfl) ?_
      refine aops_e (w0 rfl) rfl (eff_extract rfl rfl rfl) ?_
      refine aops_e (w0 rfl) rfl (eff_extract rfl rfl rfl) ?_
      refine aops_n (w0 rfl) rfl (fun id => eff_alloc id rfl rfl rfl) (fun id7 => ?_)
      refine aops_e (w0 rfl) rfl (eff_assign rfl rfl) ?_
      refine aops_store 0 (w0 rfl) rfl rfl rfl rfl rfl rfl rfl rfl rfl ?_
      refine aops_e (w0 rfl) rfl (eff_assign rfl rfl) ?_
      refine aops_nil ?_
      refine awp_seq ?_
      refine awp_region ?_
      refine aops_e (w0 rfl) rfl (eff_move rfl rfl) ?_
      refine aops_e (w0 rfl) rfl (eff_len rfl rfl rfl rfl) ?_
      refine aops_e (w0 rfl) rfl (eff_assign rfl rfl) ?_
      refine aops_nil ?_
      refine awp_seq ?_
      refine awp_seq ?_
      refine awp_region ?_
      refine aops_e (w0 rfl) rfl (eff_fieldAddr rfl rfl rfl) ?_
      refine aops_load_ptr 1 (w0 rfl) rfl rfl rfl rfl rfl ld_one ?_
      refine aops_e (w0 rfl) rfl (eff_icmp rfl rfl rfl rfl) ?_
      refine aops_nil ?_
      refine awp_cond rfl ?_ ?_
      · intro hc
        refine awp_region ?_
        refine aops_e (w0 rfl) rfl (eff_move rfl rfl) ?_
        refine aops_e (w0 rfl) rfl (eff_arith rfl rfl rfl (arith_add (by first | omega | (simp only [List.length_map]; omega)))) ?_
        refine aops_e (w0 rfl) rfl (eff_assign rfl rfl) ?_
        refine aops_nil ?_
        refine awp_seq ?_
        refine awp_seq ?_
        refine awp_region ?_
        refine aops_e (w0 rfl) rfl (eff_fieldAddr rfl rfl rfl) ?_
        refine aops_load_ptr 1 (w0 rfl) rfl rfl rfl rfl rfl ld_one ?_
        refine aops_e (w0 rfl) rfl (eff_len rfl rfl rfl rfl) ?_
        refine aops_e (w0 rfl) rfl (eff_move rfl rfl) ?_
        refine aops_e (w0 rfl) rfl (eff_icmp rfl rfl rfl rfl) ?_
        refine aops_nil ?_
        refine awp_cond rfl ?_ ?_
        · intro hc
          refine awp_seq ?_
          refine awp_region ?_
          refine aops_e (w0 rfl) rfl (eff_assign rfl rfl) ?_
          refine aops_nil ?_
          refine awp_ret ?_
          exact retq rfl (res_tmp rfl res_nil) gsomeI
        · intro hc
          refine awp_skip ?_
          refine awp_region ?_
          refine aops_e (w0 rfl) rfl (eff_fieldAddr rfl rfl rfl) ?_
          refine aops_load_ptr 0 (w0 rfl) rfl rfl rfl rfl rfl ld_one ?_
          refine aops_e (w0 rfl) rfl (eff_icmp rfl rfl rfl rfl) ?_
          refine aops_e (w0 rfl) rfl (eff_assign rfl rfl) ?_
          refine aops_nil ?_
          refine awp_seq ?_
          refine awp_seq ?_
          refine awp_region ?_
          refine aops_e (w0 rfl) rfl (eff_move rfl rfl) ?_
          refine aops_callS (w0 rfl) rfl rfl rfl rfl (w_has _ _ hs) (fun v8 hv8 => ?_)
          refine aops_e (w0 rfl) rfl (eff_move rfl rfl) ?_
          refine aops_g (wT rfl rfl rfl rfl) rfl (fun hg => (eff_fieldAddr rfl rfl rfl)) ?_
          refine aops_gload 1 (wT rfl rfl rfl rfl) rfl rfl (fun hg => (ev_g hg rfl)) rfl rfl ld_one ?_
          refine aops_g (wT rfl rfl rfl rfl) rfl (fun hg => (eff_move rfl rfl)) ?_
          refine aops_gcallS (wT rfl rfl rfl rfl) rfl rfl (fun hg => rfl) (fun hg => (evs_cons (ev_g hg rfl) (evs_cons (ev_g hg rfl) evs_nil))) (fun hg => (w_within _ _)) (fun v9 hv9 => ?_)
          refine aops_g (wT rfl rfl rfl rfl) rfl (fun hg => (eff_not rfl (ev_g hg rfl))) ?_
          refine aops_e (w0 rfl) rfl (eff_and rfl rfl rfl (fun h => h)) ?_
          refine aops_e (w0 rfl) rfl (eff_move rfl rfl) ?_
          refine aops_g (wF rfl rfl rfl rfl) rfl (fun hg => (eff_move rfl rfl)) ?_
          refine aops_gcallS (wF rfl rfl rfl rfl) rfl rfl (fun hg => rfl) (fun hg => (evs_cons (ev_g hg rfl) (evs_cons rfl evs_nil))) (fun hg => (w_has _ _ hs)) (fun v10 hv10 => ?_)
          refine aops_g (wF rfl rfl rfl rfl) rfl (fun hg => (eff_move rfl (ev_g hg rfl))) ?_
          refine aops_g (wTg rfl rfl rfl rfl) rfl (fun hg => (eff_fieldAddr rfl rfl rfl)) ?_
          refine aops_gload 1 (wTg rfl rfl rfl rfl) rfl rfl (fun hg => (ev_g hg rfl)) rfl rfl ld_one ?_
          refine aops_g (wTg rfl rfl rfl rfl) rfl (fun hg => (eff_move rfl rfl)) ?_
          refine aops_gcallS (wTg rfl rfl rfl rfl) rfl rfl (fun hg => rfl) (fun hg => (evs_cons (ev_g hg rfl) (evs_cons (ev_g hg rfl) evs_nil))) (fun hg => (w_within _ _)) (fun v11 hv11 => ?_)
          refine aops_g (wTg rfl rfl rfl rfl) rfl (fun hg => (eff_not rfl (ev_g hg rfl))) ?_
          refine aops_g (wF rfl rfl rfl rfl) rfl (fun hg => (eff_and rfl (ev_g hg rfl) rfl (fun h => by first | (simp [h, hg]; done) | (simp_all; done)))) ?_
          refine aops_e (w0 rfl) rfl (eff_or rfl rfl rfl (fun h => by rw [h]; rfl)) ?_
          refine aops_e (w0 rfl) rfl (eff_move rfl rfl) ?_
          refine aops_g (wF rfl rfl rfl rfl) rfl (fun hg => (eff_move rfl rfl)) ?_
          refine aops_gcallS (wF rfl rfl rfl rfl) rfl rfl (fun hg => rfl) (fun hg => (evs_cons (ev_g hg rfl) (evs_cons rfl evs_nil))) (fun hg => (w_has _ _ hs)) (fun v12 hv12 => ?_)
          refine aops_g (wF rfl rfl rfl rfl) rfl (fun hg => (eff_move rfl (ev_g hg rfl))) ?_
          refine aops_g (wTg rfl rfl rfl rfl) rfl (fun hg => (eff_fieldAddr rfl rfl rfl)) ?_
          refine aops_gload 1 (wTg rfl rfl rfl rfl) rfl rfl (fun hg => (ev_g hg rfl)) rfl rfl ld_one ?_
          refine aops_g (wTg rfl rfl rfl rfl) rfl (fun hg => (eff_move rfl rfl)) ?_
          refine aops_gcallS (wTg rfl rfl rfl rfl) rfl rfl (fun hg => rfl) (fun hg => (evs_cons (ev_g hg rfl) (evs_cons (ev_g hg rfl) evs_nil))) (fun hg => (w_within _ _)) (fun v13 hv13 => ?_)
          refine aops_g (wTg rfl rfl rfl rfl) rfl (fun hg => (eff_not rfl (ev_g hg rfl))) ?_
          refine aops_g (wF rfl rfl rfl rfl) rfl (fun hg => (eff_and rfl (ev_g hg rfl) rfl (fun h => by first | (simp [h, hg]; done) | (simp_all; done)))) ?_
          refine aops_e (w0 rfl) rfl (eff_or rfl rfl rfl (fun h => by rw [h]; rfl)) ?_
          refine aops_e (w0 rfl) rfl (eff_move rfl rfl) ?_
          refine aops_g (wF rfl rfl rfl rfl) rfl (fun hg => (eff_move rfl rfl)) ?_
          refine aops_g (wF rfl rfl rfl rfl) rfl (fun hg => (eff_move rfl (ev_g hg rfl))) ?_
          refine aops_g (wTg rfl rfl rfl rfl) rfl (fun hg => (eff_fieldAddr rfl rfl rfl)) ?_
          refine aops_gload 1 (wTg rfl rfl rfl rfl) rfl rfl (fun hg => (ev_g hg rfl)) rfl rfl ld_one ?_
          refine aops_g (wTg rfl rfl rfl rfl) rfl (fun hg => (eff_icmp rfl (ev_g hg rfl) rfl rfl)) ?_
          refine aops_g (wF rfl rfl rfl rfl) rfl (fun hg => (eff_and rfl (ev_g hg rfl) rfl (fun h => by first | (simp [h, hg]; done) | (simp_all; done)))) ?_
          refine aops_e (w0 rfl) rfl (eff_or rfl rfl rfl (fun h => by rw [h]; rfl)) ?_
          refine aops_nil ?_
          refine awp_cond rfl ?_ ?_
          · intro hc
            refine awp_seq ?_
            refine awp_region ?_
            refine aops_e (w0 rfl) rfl (eff_assign rfl rfl) ?_
            refine aops_nil ?_
            refine awp_ret ?_
            exact retq rfl (res_tmp rfl res_nil) gsomeI
          · intro hc
            refine awp_skip ?_
            refine awp_seq ?_
            refine awp_seq ?_
            refine awp_region ?_
            refine aops_e (w0 rfl) rfl (eff_assign rfl rfl) ?_
            refine aops_nil ?_
            refine awp_block ?_
            refine awp_loopJ (α := Nat) (fun i => ⟨[(13, iA i), (3, .ptr id1 9 0 0), (1, iA n), (2, iA m), (7, sA v2)], [(id1, .rows 63 9 [x.cells])], [], 143⟩) (fun i => True) (fun i => x.args.length - i) 0 trivial ?_ ?_
            · exact weak_pick [1] ⟨rfl, rfl, rfl, rfl, rfl, trivial⟩ rfl (by decide) rfl rfl
            rintro i hJ
            refine awp_seq ?_
            refine awp_seq ?_
            refine awp_region ?_
            refine aops_e (w0 rfl) rfl (eff_move rfl rfl) ?_
            refine aops_e (w0 rfl) rfl (eff_fieldAddr rfl rfl rfl) ?_
            refine aops_load_ptr 0 (w0 rfl) rfl rfl rfl rfl rfl ld_one ?_
            refine aops_e (w0 rfl) rfl (eff_len rfl rfl rfl rfl) ?_
            refine aops_e (w0 rfl) rfl (eff_icmp rfl rfl rfl rfl) ?_
            refine aops_nil ?_
            refine awp_cond rfl ?_ ?_
            · intro hc
              have hi : i < x.args.length := by simpa using hc
              refine awp_skip ?_
              refine awp_seq ?_
              refine awp_block ?_
              refine awp_seq ?_
              refine awp_region ?_
              refine aops_e (w0 rfl) rfl (eff_fieldAddr rfl rfl rfl) ?_
              refine aops_load_ptr 0 (w0 rfl) rfl rfl rfl rfl rfl ld_one ?_
              refine aops_e (w0 rfl) rfl (eff_move rfl rfl) ?_
              refine aops_e (w0 rfl) rfl (eff_indexAddr_lst rfl rfl rfl (len_map (fun _ => rfl)) (by first | omega | (simp only [List.length_map]; omega)) (by first | omega | (simp only [List.length_map]; omega))) ?_
              refine aops_e (w0 rfl) rfl (eff_loadE rfl rfl (map_get (by first | assumption | omega)) ld_one) ?_
              refine aops_e (w0 rfl) rfl (eff_move rfl rfl) ?_
              refine aops_callS (w0 rfl) rfl rfl rfl rfl (w_within _ _) (fun v14 hv14 => ?_)
              refine aops_e (w0 rfl) rfl (eff_not rfl rfl) ?_
              refine aops_nil ?_
              refine awp_cond rfl ?_ ?_
              · intro hc
                refine awp_seq ?_
                refine awp_region ?_
                refine aops_e (w0 rfl) rfl (eff_assign rfl rfl) ?_
                refine aops_nil ?_
                refine awp_ret ?_
                exact retq rfl (res_tmp rfl res_nil) gsomeI
              · intro hc
                refine awp_skip ?_
                refine awp_region ?_
                refine aops_e (w0 rfl) rfl (eff_move rfl rfl) ?_
                refine aops_e (w0 rfl) rfl (eff_arith rfl rfl rfl (arith_add (by first | omega | (simp only [List.length_map]; omega)))) ?_
                refine aops_e (w0 rfl) rfl (eff_assign rfl rfl) ?_
                refine aops_nil ?_
                refine ⟨i + 1, trivial, (by omega), ?_⟩
                exact weak_pick [0] ⟨rfl, rfl, rfl, rfl, rfl, trivial⟩ rfl (by decide) rfl rfl
            · intro hc
              have hi : ¬ i < x.args.length := by simpa using hc
              refine awp_exit ?_
              refine awp_seq ?_
              refine awp_seq ?_
              refine awp_region ?_
              refine aops_e (w0 rfl) rfl (eff_move rfl rfl) ?_
              refine aops_callS (w0 rfl) rfl rfl rfl rfl (w_has _ _ hs) (fun v15 hv15 => ?_)
              refine aops_e (w0 rfl) rfl (eff_move rfl rfl) ?_
              refine aops_g (wT rfl rfl rfl rfl) rfl (fun hg => (eff_fieldAddr rfl rfl rfl)) ?_
              refine aops_gload 0 (wT rfl rfl rfl rfl) rfl rfl (fun hg => (ev_g hg rfl)) rfl rfl ld_one ?_
              refine aops_g (wT rfl rfl rfl rfl) rfl (fun hg => (eff_icmp rfl (ev_g hg rfl) rfl rfl)) ?_
              refine aops_g (wT rfl rfl rfl rfl) rfl (fun hg => (eff_move rfl (ev_g hg rfl))) ?_
              refine aops_g (wFg rfl rfl rfl rfl) rfl (fun hg => (eff_fieldAddr rfl rfl rfl)) ?_
              refine aops_gload 0 (wFg rfl rfl rfl rfl) rfl rfl (fun hg => (ev_g hg rfl)) rfl rfl ld_one ?_
              refine aops_g (wFg rfl rfl rfl rfl) rfl (fun hg => (eff_move rfl rfl)) ?_
              refine aops_g (wFg rfl rfl rfl rfl) rfl (fun hg => (eff_icmp rfl (ev_g hg rfl) (ev_g hg rfl) rfl)) ?_
              refine aops_g (wT rfl rfl rfl rfl) rfl (fun hg => (eff_or rfl (ev_g hg rfl) rfl (fun h => by first | (simp [h, hg]; done) | (simp_all; done)))) ?_
              refine aops_e (w0 rfl) rfl (eff_and rfl rfl rfl (fun h => h)) ?_
              refine aops_e (w0 rfl) rfl (eff_move rfl rfl) ?_
              refine aops_g (wF rfl rfl rfl rfl) rfl (fun hg => (eff_move rfl rfl)) ?_
              refine aops_gcallS (wF rfl rfl rfl rfl) rfl rfl (fun hg => rfl) (fun hg => (evs_cons (ev_g hg rfl) (evs_cons rfl evs_nil))) (fun hg => (w_has _ _ hs)) (fun v16 hv16 => ?_)
              refine aops_g (wF rfl rfl rfl rfl) rfl (fun hg => (eff_move rfl (ev_g hg rfl))) ?_
              refine aops_g (wTg rfl rfl rfl rfl) rfl (fun hg => (eff_fieldAddr rfl rfl rfl)) ?_
              refine aops_gload 0 (wTg rfl rfl rfl rfl) rfl rfl (fun hg => (ev_g hg rfl)) rfl rfl ld_one ?_
              refine aops_g (wTg rfl rfl rfl rfl) rfl (fun hg => (eff_icmp rfl (ev_g hg rfl) rfl rfl)) ?_
              refine aops_g (wTg rfl rfl rfl rfl) rfl (fun hg => (eff_move rfl (ev_g hg rfl))) ?_
              refine aops_g (wFg rfl rfl rfl rfl) rfl (fun hg => (eff_fieldAddr rfl rfl rfl)) ?_
              refine aops_gload 0 (wFg rfl rfl rfl rfl) rfl rfl (fun hg => (ev_g hg rfl)) rfl rfl ld_one ?_
              refine aops_g (wFg rfl rfl rfl rfl) rfl (fun hg => (eff_icmp rfl (ev_g hg rfl) rfl rfl)) ?_
              refine aops_g (wTg rfl rfl rfl rfl) rfl (fun hg => (eff_or rfl (ev_g hg rfl) rfl (fun h => by first | (simp [h, hg]; done) | (simp_all; done)))) ?_
              refine aops_g (wF rfl rfl rfl rfl) rfl (fun hg => (eff_and rfl (ev_g hg rfl) rfl (fun h => by first | (simp [h, hg]; done) | (simp_all; done)))) ?_
              refine aops_e (w0 rfl) rfl (eff_or rfl rfl rfl (fun h => by rw [h]; rfl)) ?_
              refine aops_nil ?_
              refine awp_cond rfl ?_ ?_
              · intro hc
                refine awp_seq ?_
                refine awp_region ?_
                refine aops_e (w0 rfl) rfl (eff_assign rfl rfl) ?_
                refine aops_nil ?_
                refine awp_ret ?_
                exact retq rfl (res_tmp rfl res_nil) gsomeI
              · intro hc
                refine awp_skip ?_
                refine awp_seq ?_
                refine awp_region ?_
                refine aops_e (w0 rfl) rfl (eff_assign rfl rfl) ?_
                refine aops_nil ?_
                refine awp_ret ?_
                exact retq rfl (res_tmp rfl res_nil) gsomeI
      · intro hc
        refine awp_skip ?_
        refine awp_seq ?_
        refine awp_seq ?_
        refine awp_region ?_
        refine aops_e (w0 rfl) rfl (eff_fieldAddr rfl rfl rfl) ?_
        refine aops_load_ptr 1 (w0 rfl) rfl rfl rfl rfl rfl ld_one ?_
        refine aops_e (w0 rfl) rfl (eff_len rfl rfl rfl rfl) ?_
        refine aops_e (w0 rfl) rfl (eff_move rfl rfl) ?_
        refine aops_e (w0 rfl) rfl (eff_icmp rfl rfl rfl rfl) ?_
        refine aops_nil ?_
        refine awp_cond rfl ?_ ?_
        · intro hc
          refine awp_seq ?_
          refine awp_region ?_
          refine aops_e (w0 rfl) rfl (eff_assign rfl rfl) ?_
          refine aops_nil ?_
          refine awp_ret ?_
          exact retq rfl (res_tmp rfl res_nil) gsomeI
        · intro hc
          refine awp_skip ?_
          refine awp_region ?_
          refine aops_e (w0 rfl) rfl (eff_fieldAddr rfl rfl rfl) ?_
          refine aops_load_ptr 0 (w0 rfl) rfl rfl rfl rfl rfl ld_one ?_
          refine aops_e (w0 rfl) rfl (eff_icmp rfl rfl rfl rfl) ?_
          refine aops_e (w0 rfl) rfl (eff_assign rfl rfl) ?_
          refine aops_nil ?_
          refine awp_seq ?_
          refine awp_seq ?_
          refine awp_region ?_
          refine aops_e (w0 rfl) rfl (eff_move rfl rfl) ?_
          refine aops_callS (w0 rfl) rfl rfl rfl rfl (w_has _ _ hs) (fun v17 hv17 => ?_)
          refine aops_e (w0 rfl) rfl (eff_move rfl rfl) ?_
          refine aops_g (wT rfl rfl rfl rfl) rfl (fun hg => (eff_fieldAddr rfl rfl rfl)) ?_
          refine aops_gload 1 (wT rfl rfl rfl rfl) rfl rfl (fun hg => (ev_g hg rfl)) rfl rfl ld_one ?_
          refine aops_g (wT rfl rfl rfl rfl) rfl (fun hg => (eff_move rfl rfl)) ?_
          refine aops_gcallS (wT rfl rfl rfl rfl) rfl rfl (fun hg => rfl) (fun hg => (evs_cons (ev_g hg rfl) (evs_cons (ev_g hg rfl) evs_nil))) (fun hg => (w_within _ _)) (fun v18 hv18 => ?_)
          refine aops_g (wT rfl rfl rfl rfl) rfl (fun hg => (eff_not rfl (ev_g hg rfl))) ?_
          refine aops_e (w0 rfl) rfl (eff_and rfl rfl rfl (fun h => h)) ?_
          refine aops_e (w0 rfl) rfl (eff_move rfl rfl) ?_
          refine aops_g (wF rfl rfl rfl rfl) rfl (fun hg => (eff_move rfl rfl)) ?_
          refine aops_gcallS (wF rfl rfl rfl rfl) rfl rfl (fun hg => rfl) (fun hg => (evs_cons (ev_g hg rfl) (evs_cons rfl evs_nil))) (fun hg => (w_has _ _ hs)) (fun v19 hv19 => ?_)
          refine aops_g (wF rfl rfl rfl rfl) rfl (fun hg => (eff_move rfl (ev_g hg rfl))) ?_
          refine aops_g (wTg rfl rfl rfl rfl) rfl (fun hg => (eff_fieldAddr rfl rfl rfl)) ?_
          refine aops_gload 1 (wTg rfl rfl rfl rfl) rfl rfl (fun hg => (ev_g hg rfl)) rfl rfl ld_one ?_
          refine aops_g (wTg rfl rfl rfl rfl) rfl (fun hg => (eff_move rfl rfl)) ?_
          refine aops_gcallS (wTg rfl rfl rfl rfl) rfl rfl (fun hg => rfl) (fun hg => (evs_cons (ev_g hg rfl) (evs_cons (ev_g hg rfl) evs_nil))) (fun hg => (w_within _ _)) (fun v20 hv20 => ?_)
          refine aops_g (wTg rfl rfl rfl rfl) rfl (fun hg => (eff_not rfl (ev_g hg rfl))) ?_
          refine aops_g (wF rfl rfl rfl rfl) rfl (fun hg => (eff_and rfl (ev_g hg rfl) rfl (fun h => by first | (simp [h, hg]; done) | (simp_all; done)))) ?_
          refine aops_e (w0 rfl) rfl (eff_or rfl rfl rfl (fun h => by rw [h]; rfl)) ?_
          refine aops_e (w0 rfl) rfl (eff_move rfl rfl) ?_
          refine aops_g (wF rfl rfl rfl rfl) rfl (fun hg => (eff_move rfl rfl)) ?_
          refine aops_gcallS (wF rfl rfl rfl rfl) rfl rfl (fun hg => rfl) (fun hg => (evs_cons (ev_g hg rfl) (evs_cons rfl evs_nil))) (fun hg => (w_has _ _ hs)) (fun v21 hv21 => ?_)
          refine aops_g (wF rfl rfl rfl rfl) rfl (fun hg => (eff_move rfl (ev_g hg rfl))) ?_
          refine aops_g (wTg rfl rfl rfl rfl) rfl (fun hg => (eff_fieldAddr rfl rfl rfl)) ?_
          refine aops_gload 1 (wTg rfl rfl rfl rfl) rfl rfl (fun hg => (ev_g hg rfl)) rfl rfl ld_one ?_
          refine aops_g (wTg rfl rfl rfl rfl) rfl (fun hg => (eff_move rfl rfl)) ?_
          refine aops_gcallS (wTg rfl rfl rfl rfl) rfl rfl (fun hg => rfl) (fun hg => (evs_cons (ev_g hg rfl) (evs_cons (ev_g hg rfl) evs_nil))) (fun hg => (w_within _ _)) (fun v22 hv22 => ?_)
          refine aops_g (wTg rfl rfl rfl rfl) rfl (fun hg => (eff_not rfl (ev_g hg rfl))) ?_
          refine aops_g (wF rfl rfl rfl rfl) rfl (fun hg => (eff_and rfl (ev_g hg rfl) rfl (fun h => by first | (simp [h, hg]; done) | (simp_all; done)))) ?_
          refine aops_e (w0 rfl) rfl (eff_or rfl rfl rfl (fun h => by rw [h]; rfl)) ?_
          refine aops_e (w0 rfl) rfl (eff_move rfl rfl) ?_
          refine aops_g (wF rfl rfl rfl rfl) rfl (fun hg => (eff_move rfl rfl)) ?_
          refine aops_g (wF rfl rfl rfl rfl) rfl (fun hg => (eff_move rfl (ev_g hg rfl))) ?_
          refine aops_g (wTg rfl rfl rfl rfl) rfl (fun hg => (eff_fieldAddr rfl rfl rfl)) ?_
          refine aops_gload 1 (wTg rfl rfl rfl rfl) rfl rfl (fun hg => (ev_g hg rfl)) rfl rfl ld_one ?_
          refine aops_g (wTg rfl rfl rfl rfl) rfl (fun hg => (eff_icmp rfl (ev_g hg rfl) rfl rfl)) ?_
          refine aops_g (wF rfl rfl rfl rfl) rfl (fun hg => (eff_and rfl (ev_g hg rfl) rfl (fun h => by first | (simp [h, hg]; done) | (simp_all; done)))) ?_
          refine aops_e (w0 rfl) rfl (eff_or rfl rfl rfl (fun h => by rw [h]; rfl)) ?_
          refine aops_nil ?_
          refine awp_cond rfl ?_ ?_
          · intro hc
            refine awp_seq ?_
            refine awp_region ?_
            refine aops_e (w0 rfl) rfl (eff_assign rfl rfl) ?_
            refine aops_nil ?_
            refine awp_ret ?_
            exact retq rfl (res_tmp rfl res_nil) gsomeI
          · intro hc
            refine awp_skip ?_
            refine awp_seq ?_
            refine awp_seq ?_
            refine awp_region ?_
            refine aops_e (w0 rfl) rfl (eff_assign rfl rfl) ?_
            refine aops_nil ?_
            refine awp_block ?_
            refine awp_loopJ (α := Nat) (fun i => ⟨[(13, iA i), (3, .ptr id1 9 0 0), (1, iA n), (2, iA m), (7, sA v2)], [(id1, .rows 63 9 [x.cells])], [], 143⟩) (fun i => True) (fun i => x.args.length - i) 0 trivial ?_ ?_
            · exact weak_pick [1] ⟨rfl, rfl, rfl, rfl, rfl, trivial⟩ rfl (by decide) rfl rfl
            rintro i hJ
            refine awp_seq ?_
            refine awp_seq ?_
            refine awp_region ?_
            refine aops_e (w0 rfl) rfl (eff_move rfl rfl) ?_
            refine aops_e (w0 rfl) rfl (eff_fieldAddr rfl rfl rfl) ?_
            refine aops_load_ptr 0 (w0 rfl) rfl rfl rfl rfl rfl ld_one ?_
            refine aops_e (w0 rfl) rfl (eff_len rfl rfl rfl rfl) ?_
            refine aops_e (w0 rfl) rfl (eff_icmp rfl rfl rfl rfl) ?_
            refine aops_nil ?_
            refine awp_cond rfl ?_ ?_
            · intro hc
              have hi : i < x.args.length := by simpa using hc
              refine awp_skip ?_
              refine awp_seq ?_
              refine awp_block ?_
              refine awp_seq ?_
              refine awp_region ?_
              refine aops_e (w0 rfl) rfl (eff_fieldAddr rfl rfl rfl) ?_
              refine aops_load_ptr 0 (w0 rfl) rfl rfl rfl rfl rfl ld_one ?_
              refine aops_e (w0 rfl) rfl (eff_move rfl rfl) ?_
              refine aops_e (w0 rfl) rfl (eff_indexAddr_lst rfl rfl rfl (len_map (fun _ => rfl)) (by first | omega | (simp only [List.length_map]; omega)) (by first | omega | (simp only [List.length_map]; omega))) ?_
              refine aops_e (w0 rfl) rfl (eff_loadE rfl rfl (map_get (by first | assumption | omega)) ld_one) ?_
              refine aops_e (w0 rfl) rfl (eff_move rfl rfl) ?_
              refine aops_callS (w0 rfl) rfl rfl rfl rfl (w_within _ _) (fun v23 hv23 => ?_)
              refine aops_e (w0 rfl) rfl (eff_not rfl rfl) ?_
              refine aops_nil ?_
              refine awp_cond rfl ?_ ?_
              · intro hc
                refine awp_seq ?_
                refine awp_region ?_
                refine aops_e (w0 rfl) rfl (eff_assign rfl rfl) ?_
                refine aops_nil ?_
                refine awp_ret ?_
                exact retq rfl (res_tmp rfl res_nil) gsomeI
              · intro hc
                refine awp_skip ?_
                refine awp_region ?_
                refine aops_e (w0 rfl) rfl (eff_move rfl rfl) ?_
                refine aops_e (w0 rfl) rfl (eff_arith rfl rfl rfl (arith_add (by first | omega | (simp only [List.length_map]; omega)))) ?_
                refine aops_e (w0 rfl) rfl (eff_assign rfl rfl) ?_
                refine aops_nil ?_
                refine ⟨i + 1, trivial, (by omega), ?_⟩
                exact weak_pick [0] ⟨rfl, rfl, rfl, rfl, rfl, trivial⟩ rfl (by decide) rfl rfl
            · intro hc
              have hi : ¬ i < x.args.length := by simpa using hc
              refine awp_exit ?_
              refine awp_seq ?_
              refine awp_seq ?_
              refine awp_region ?_
              refine aops_e (w0 rfl) rfl (eff_move rfl rfl) ?_
              refine aops_callS (w0 rfl) rfl rfl rfl rfl (w_has _ _ hs) (fun v24 hv24 => ?_)
              refine aops_e (w0 rfl) rfl (eff_move rfl rfl) ?_
              refine aops_g (wT rfl rfl rfl rfl) rfl (fun hg => (eff_fieldAddr rfl rfl rfl)) ?_
              refine aops_gload 0 (wT rfl rfl rfl rfl) rfl rfl (fun hg => (ev_g hg rfl)) rfl rfl ld_one ?_
              refine aops_g (wT rfl rfl rfl rfl) rfl (fun hg => (eff_icmp rfl (ev_g hg rfl) rfl rfl)) ?_
              refine aops_g (wT rfl rfl rfl rfl) rfl (fun hg => (eff_move rfl (ev_g hg rfl))) ?_
              refine aops_g (wFg rfl rfl rfl rfl) rfl (fun hg => (eff_fieldAddr rfl rfl rfl)) ?_
              refine aops_gload 0 (wFg rfl rfl rfl rfl) rfl rfl (fun hg => (ev_g hg rfl)) rfl rfl ld_one ?_
              refine aops_g (wFg rfl rfl rfl rfl) rfl (fun hg => (eff_move rfl rfl)) ?_
              refine aops_g (wFg rfl rfl rfl rfl) rfl (fun hg => (eff_icmp rfl (ev_g hg rfl) (ev_g hg rfl) rfl)) ?_
              refine aops_g (wT rfl rfl rfl rfl) rfl (fun hg => (eff_or rfl (ev_g hg rfl) rfl (fun h => by first | (simp [h, hg]; done) | (simp_all; done)))) ?_
              refine aops_e (w0 rfl) rfl (eff_and rfl rfl rfl (fun h => h)) ?_
              refine aops_e (w0 rfl) rfl (eff_move rfl rfl) ?_
              refine aops_g (wF rfl rfl rfl rfl) rfl (fun hg => (eff_move rfl rfl)) ?_
              refine aops_gcallS (wF rfl rfl rfl rfl) rfl rfl (fun hg => rfl) (fun hg => (evs_cons (ev_g hg rfl) (evs_cons rfl evs_nil))) (fun hg => (w_has _ _ hs)) (fun v25 hv25 => ?_)
              refine aops_g (wF rfl rfl rfl rfl) rfl (fun hg => (eff_move rfl (ev_g hg rfl))) ?_
              refine aops_g (wTg rfl rfl rfl rfl) rfl (fun hg => (eff_fieldAddr rfl rfl rfl)) ?_
              refine aops_gload 0 (wTg rfl rfl rfl rfl) rfl rfl (fun hg => (ev_g hg rfl)) rfl rfl ld_one ?_
              refine aops_g (wTg rfl rfl rfl rfl) rfl (fun hg => (eff_icmp rfl (ev_g hg rfl) rfl rfl)) ?_
              refine aops_g (wTg rfl rfl rfl rfl) rfl (fun hg => (eff_move rfl (ev_g hg rfl))) ?_
              refine aops_g (wFg rfl rfl rfl rfl) rfl (fun hg => (eff_fieldAddr rfl rfl rfl)) ?_
              refine aops_gload 0 (wFg rfl rfl rfl rfl) rfl rfl (fun hg => (ev_g hg rfl)) rfl rfl ld_one ?_
              refine aops_g (wFg rfl rfl rfl rfl) rfl (fun hg => (eff_icmp rfl (ev_g hg rfl) rfl rfl)) ?_
              refine aops_g (wTg rfl rfl rfl rfl) rfl (fun hg => (eff_or rfl (ev_g hg rfl) rfl (fun h => by first | (simp [h, hg]; done) | (simp_all; done)))) ?_
              refine aops_g (wF rfl rfl rfl rfl) rfl (fun hg => (eff_and rfl (ev_g hg rfl) rfl (fun h => by first | (simp [h, hg]; done) | (simp_all; done)))) ?_
              refine aops_e (w0 rfl) rfl (eff_or rfl rfl rfl (fun h => by rw [h]; rfl)) ?_
              refine aops_nil ?_
              refine awp_cond rfl ?_ ?_
              · intro hc
                refine awp_seq ?_
                refine awp_region ?_
                refine aops_e (w0 rfl) rfl (eff_assign rfl rfl) ?_
                refine aops_nil ?_
                refine awp_ret ?_
                exact retq rfl (res_tmp rfl res_nil) gsomeI
              · intro hc
                refine awp_skip ?_
                refine awp_seq ?_
                refine awp_region ?_
                refine aops_e (w0 rfl) rfl (eff_assign rfl rfl) ?_
                refine aops_nil ?_
                refine awp_ret ?_
                exact retq rfl (res_tmp rfl res_nil) gsomeI
    · intro hc
      refine awp_skip ?_
      refine awp_seq ?_
      refine awp_seq ?_
      refine awp_region ?_
      refine aops_e (w0 rfl) rfl (eff_move rfl rfl) ?_
      refine aops_callS (w0 rfl) rfl rfl rfl rfl (w_has _ _ hs) (fun v26 hv26 => ?_)
      refine aops_e (w0 rfl) rfl (eff_move rfl rfl) ?_
      refine aops_g (wT rfl rfl rfl rfl) rfl (fun hg => (eff_fieldAddr rfl rfl rfl)) ?_
      refine aops_gload 0 (wT rfl rfl rfl rfl) rfl rfl (fun hg => (ev_g hg rfl)) rfl rfl ld_one ?_
      refine aops_g (wT rfl rfl rfl rfl) rfl (fun hg => (eff_move rfl rfl)) ?_
      refine aops_gcallS (wT rfl rfl rfl rfl) rfl rfl (fun hg => rfl) (fun hg => (evs_cons (ev_g hg rfl) (evs_cons (ev_g hg rfl) evs_nil))) (fun hg => (w_within _ _)) (fun v27 hv27 => ?_)
      refine aops_g (wT rfl rfl rfl rfl) rfl (fun hg => (eff_not rfl (ev_g hg rfl))) ?_
      refine aops_e (w0 rfl) rfl (eff_and rfl rfl rfl (fun h => h)) ?_
      refine aops_e (w0 rfl) rfl (eff_move rfl rfl) ?_
      refine aops_g (wF rfl rfl rfl rfl) rfl (fun hg => (eff_move rfl rfl)) ?_
      refine aops_gcallS (wF rfl rfl rfl rfl) rfl rfl (fun hg => rfl) (fun hg => (evs_cons (ev_g hg rfl) (evs_cons rfl evs_nil))) (fun hg => (w_has _ _ hs)) (fun v28 hv28 => ?_)
      refine aops_g (wF rfl rfl rfl rfl) rfl (fun hg => (eff_move rfl (ev_g hg rfl))) ?_
      refine aops_g (wTg rfl rfl rfl rfl) rfl (fun hg => (eff_fieldAddr rfl rfl rfl)) ?_
      refine aops_gload 0 (wTg rfl rfl rfl rfl) rfl rfl (fun hg => (ev_g hg rfl)) rfl rfl ld_one ?_
      refine aops_g (wTg rfl rfl rfl rfl) rfl (fun hg => (eff_move rfl rfl)) ?_
      refine aops_gcallS (wTg rfl rfl rfl rfl) rfl rfl (fun hg => rfl) (fun hg => (evs_cons (ev_g hg rfl) (evs_cons (ev_g hg rfl) evs_nil))) (fun hg => (w_within _ _)) (fun v29 hv29 => ?_)
      refine aops_g (wTg rfl rfl rfl rfl) rfl (fun hg => (eff_not rfl (ev_g hg rfl))) ?_
      refine aops_g (wF rfl rfl rfl rfl) rfl (fun hg => (eff_and rfl (ev_g hg rfl) rfl (fun h => by first | (simp [h, hg]; done) | (simp_all; done)))) ?_
      refine aops_e (w0 rfl) rfl (eff_or rfl rfl rfl (fun h => by rw [h]; rfl)) ?_
      refine aops_e (w0 rfl) rfl (eff_move rfl rfl) ?_
      refine aops_g (wF rfl rfl rfl rfl) rfl (fun hg => (eff_move rfl rfl)) ?_
      refine aops_gcallS (wF rfl rfl rfl rfl) rfl rfl (fun hg => rfl) (fun hg => (evs_cons (ev_g hg rfl) (evs_cons rfl evs_nil))) (fun hg => (w_has _ _ hs)) (fun v30 hv30 => ?_)
      refine aops_g (wF rfl rfl rfl rfl) rfl (fun hg => (eff_move rfl (ev_g hg rfl))) ?_
      refine aops_g (wTg rfl rfl rfl rfl) rfl (fun hg => (eff_fieldAddr rfl rfl rfl)) ?_
      refine aops_gload 0 (wTg rfl rfl rfl rfl) rfl rfl (fun hg => (ev_g hg rfl)) rfl rfl ld_one ?_
      refine aops_g (wTg rfl rfl rfl rfl) rfl (fun hg => (eff_move rfl rfl)) ?_
      refine aops_gcallS (wTg rfl rfl rfl rfl) rfl rfl (fun hg => rfl) (fun hg => (evs_cons (ev_g hg rfl) (evs_cons (ev_g hg rfl) evs_nil))) (fun hg => (w_within _ _)) (fun v31 hv31 => ?_)
      refine aops_g (wTg rfl rfl rfl rfl) rfl (fun hg => (eff_not rfl (ev_g hg rfl))) ?_
      refine aops_g (wF rfl rfl rfl rfl) rfl (fun hg => (eff_and rfl (ev_g hg rfl) rfl (fun h => by first | (simp [h, hg]; done) | (simp_all; done)))) ?_
      refine aops_e (w0 rfl) rfl (eff_or rfl rfl rfl (fun h => by rw [h]; rfl)) ?_
      refine aops_e (w0 rfl) rfl (eff_move rfl rfl) ?_
      refine aops_g (wF rfl rfl rfl rfl) rfl (fun hg => (eff_move rfl rfl)) ?_
      refine aops_g (wF rfl rfl rfl rfl) rfl (fun hg => (eff_move rfl (ev_g hg rfl))) ?_
      refine aops_g (wTg rfl rfl rfl rfl) rfl (fun hg => (eff_fieldAddr rfl rfl rfl)) ?_
      refine aops_gload 0 (wTg rfl rfl rfl rfl) rfl rfl (fun hg => (ev_g hg rfl)) rfl rfl ld_one ?_
      refine aops_g (wTg rfl rfl rfl rfl) rfl (fun hg => (eff_icmp rfl (ev_g hg rfl) rfl rfl)) ?_
      refine aops_g (wF rfl rfl rfl rfl) rfl (fun hg => (eff_and rfl (ev_g hg rfl) rfl (fun h => by first | (simp [h, hg]; done) | (simp_all; done)))) ?_
      refine aops_e (w0 rfl) rfl (eff_or rfl rfl rfl (fun h => by rw [h]; rfl)) ?_
      refine aops_nil ?_
      refine awp_cond rfl ?_ ?_
      · intro hc
        refine awp_seq ?_
        refine awp_region ?_
        refine aops_e (w0 rfl) rfl (eff_assign rfl rfl) ?_
        refine aops_nil ?_
        refine awp_ret ?_
        exact retq rfl (res_tmp rfl res_nil) gsomeI
      · intro hc
        refine awp_skip ?_
        refine awp_seq ?_
        refine awp_seq ?_
        refine awp_region ?_
        refine aops_e (w0 rfl) rfl (eff_assign rfl rfl) ?_
        refine aops_nil ?_
        refine awp_block ?_
        refine awp_loopJ (α := Nat) (fun i => ⟨[(13, iA i), (3, .ptr id1 9 0 0), (1, iA n), (2, iA m), (7, sA v2)], [(id1, .rows 63 9 [x.cells])], [], 143⟩) (fun i => True) (fun i => x.args.length - i) 0 trivial ?_ ?_
        · exact weak_pick [0] ⟨rfl, rfl, rfl, rfl, rfl, trivial⟩ rfl (by decide) rfl rfl
        rintro i hJ
        refine awp_seq ?_
        refine awp_seq ?_
        refine awp_region ?_
        refine aops_e (w0 rfl) rfl (eff_move rfl rfl) ?_
        refine aops_e (w0 rfl) rfl (eff_fieldAddr rfl rfl rfl) ?_
        refine aops_load_ptr 0 (w0 rfl) rfl rfl rfl rfl rfl ld_one ?_
        refine aops_e (w0 rfl) rfl (eff_len rfl rfl rfl rfl) ?_
        refine aops_e (w0 rfl) rfl (eff_icmp rfl rfl rfl rfl) ?_
        refine aops_nil ?_
        refine awp_cond rfl ?_ ?_
        · intro hc
          have hi : i < x.args.length := by simpa using hc
          refine awp_skip ?_
          refine awp_seq ?_
          refine awp_block ?_
          refine awp_seq ?_
          refine awp_region ?_
          refine aops_e (w0 rfl) rfl (eff_fieldAddr rfl rfl rfl) ?_
          refine aops_load_ptr 0 (w0 rfl) rfl rfl rfl rfl rfl ld_one ?_
          refine aops_e (w0 rfl) rfl (eff_move rfl rfl) ?_
          refine aops_e (w0 rfl) rfl (eff_indexAddr_lst rfl rfl rfl (len_map (fun _ => rfl)) (by first | omega | (simp only [List.length_map]; omega)) (by first | omega | (simp only [List.length_map]; omega))) ?_
          refine aops_e (w0 rfl) rfl (eff_loadE rfl rfl (map_get (by first | assumption | omega)) ld_one) ?_
          refine aops_e (w0 rfl) rfl (eff_move rfl rfl) ?_
          refine aops_callS (w0 rfl) rfl rfl rfl rfl (w_within _ _) (fun v32 hv32 => ?_)
          refine aops_e (w0 rfl) rfl (eff_not rfl rfl) ?_
          refine aops_nil ?_
          refine awp_cond rfl ?_ ?_
          · intro hc
            refine awp_seq ?_
            refine awp_region ?_
            refine aops_e (w0 rfl) rfl (eff_assign rfl rfl) ?_
            refine aops_nil ?_
            refine awp_ret ?_
            exact retq rfl (res_tmp rfl res_nil) gsomeI
          · intro hc
            refine awp_skip ?_
            refine awp_region ?_
            refine aops_e (w0 rfl) rfl (eff_move rfl rfl) ?_
            refine aops_e (w0 rfl) rfl (eff_arith rfl rfl rfl (arith_add (by first | omega | (simp only [List.length_map]; omega)))) ?_
            refine aops_e (w0 rfl) rfl (eff_assign rfl rfl) ?_
            refine aops_nil ?_
            refine ⟨i + 1, trivial, (by omega), ?_⟩
            exact weak_pick [0] ⟨rfl, rfl, rfl, rfl, rfl, trivial⟩ rfl (by decide) rfl rfl
        · intro hc
          have hi : ¬ i < x.args.length := by simpa using hc
          refine awp_exit ?_
          refine awp_seq ?_
          refine awp_seq ?_
          refine awp_region ?_
          refine aops_e (w0 rfl) rfl (eff_move rfl rfl) ?_
          refine aops_callS (w0 rfl) rfl rfl rfl rfl (w_has _ _ hs) (fun v33 hv33 => ?_)
          refine aops_e (w0 rfl) rfl (eff_move rfl rfl) ?_
          refine aops_g (wT rfl rfl rfl rfl) rfl (fun hg => (eff_fieldAddr rfl rfl rfl)) ?_
          refine aops_gload 0 (wT rfl rfl rfl rfl) rfl rfl (fun hg => (ev_g hg rfl)) rfl rfl ld_one ?_
          refine aops_g (wT rfl rfl rfl rfl) rfl (fun hg => (eff_icmp rfl (ev_g hg rfl) rfl rfl)) ?_
          refine aops_g (wT rfl rfl rfl rfl) rfl (fun hg => (eff_move rfl (ev_g hg rfl))) ?_
          refine aops_g (wFg rfl rfl rfl rfl) rfl (fun hg => (eff_fieldAddr rfl rfl rfl)) ?_
          refine aops_gload 0 (wFg rfl rfl rfl rfl) rfl rfl (fun hg => (ev_g hg rfl)) rfl rfl ld_one ?_
          refine aops_g (wFg rfl rfl rfl rfl) rfl (fun hg => (eff_move rfl rfl)) ?_
          refine aops_g (wFg rfl rfl rfl rfl) rfl (fun hg => (eff_icmp rfl (ev_g hg rfl) (ev_g hg rfl) rfl)) ?_
          refine aops_g (wT rfl rfl rfl rfl) rfl (fun hg => (eff_or rfl (ev_g hg rfl) rfl (fun h => by first | (simp [h, hg]; done) | (simp_all; done)))) ?_
          refine aops_e (w0 rfl) rfl (eff_and rfl rfl rfl (fun h => h)) ?_
          refine aops_e (w0 rfl) rfl (eff_move rfl rfl) ?_
          refine aops_g (wF rfl rfl rfl rfl) rfl (fun hg => (eff_move rfl rfl)) ?_
          refine aops_gcallS (wF rfl rfl rfl rfl) rfl rfl (fun hg => rfl) (fun hg => (evs_cons (ev_g hg rfl) (evs_cons rfl evs_nil))) (fun hg => (w_has _ _ hs)) (fun v34 hv34 => ?_)
          refine aops_g (wF rfl rfl rfl rfl) rfl (fun hg => (eff_move rfl (ev_g hg rfl))) ?_
          refine aops_g (wTg rfl rfl rfl rfl) rfl (fun hg => (eff_fieldAddr rfl rfl rfl)) ?_
          refine aops_gload 0 (wTg rfl rfl rfl rfl) rfl rfl (fun hg => (ev_g hg rfl)) rfl rfl ld_one ?_
          refine aops_g (wTg rfl rfl rfl rfl) rfl (fun hg => (eff_icmp rfl (ev_g hg rfl) rfl rfl)) ?_
          refine aops_g (wTg rfl rfl rfl rfl) rfl (fun hg => (eff_move rfl (ev_g hg rfl))) ?_
          refine aops_g (wFg rfl rfl rfl rfl) rfl (fun hg => (eff_fieldAddr rfl rfl rfl)) ?_
          refine aops_gload 0 (wFg rfl rfl rfl rfl) rfl rfl (fun hg => (ev_g hg rfl)) rfl rfl ld_one ?_
          refine aops_g (wFg rfl rfl rfl rfl) rfl (fun hg => (eff_icmp rfl (ev_g hg rfl) rfl rfl)) ?_
          refine aops_g (wTg rfl rfl rfl rfl) rfl (fun hg => (eff_or rfl (ev_g hg rfl) rfl (fun h => by first | (simp [h, hg]; done) | (simp_all; done)))) ?_
          refine aops_g (wF rfl rfl rfl rfl) rfl (fun hg => (eff_and rfl (ev_g hg rfl) rfl (fun h => by first | (simp [h, hg]; done) | (simp_all; done)))) ?_
          refine aops_e (w0 rfl) rfl (eff_or rfl rfl rfl (fun h => by rw [h]; rfl)) ?_
          refine aops_nil ?_
          refine awp_cond rfl ?_ ?_
          · intro hc
            refine awp_seq ?_
            refine awp_region ?_
            refine aops_e (w0 rfl) rfl (eff_assign rfl rfl) ?_
            refine aops_nil ?_
            refine awp_ret ?_
            exact retq rfl (res_tmp rfl res_nil) gsomeI
          · intro hc
            refine awp_skip ?_
            refine awp_seq ?_
            refine awp_region ?_
            refine aops_e (w0 rfl) rfl (eff_assign rfl rfl) ?_
            refine aops_nil ?_
            refine awp_ret ?_
            exact retq rfl (res_tmp rfl res_nil) gsomeI

theorem w_method (m : Meth) (hm : m.ok) : ACalls Try.prog 50 [.agg m.cells] [] (SomeB) := by
  have hcl := hm.code.1
  simp only [small] at hcl
  refine acalls_of (n := 108) Try.func50 rfl (by decide +kernel) rfl rfl ?_
  refine awp_seq ?_
  refine awp_region ?_
  refine aops_n (w0 rfl) rfl (fun id => eff_box id rfl rfl rfl rfl rfl) (fun id1 => ?_)
  refine aops_e (w0 rfl) rfl (eff_assign rfl rfl) ?_
  refine aops_nil ?_
  refine awp_seq ?_
  refine awp_region ?_
  refine aops_e (w0 rfl) rfl (eff_fieldAddr rfl rfl rfl) ?_
  refine aops_load_ptr 0 (w0 rfl) rfl rfl rfl rfl rfl ld_one ?_
  refine aops_callS (w0 rfl) rfl rfl rfl rfl (w_split _) (fun v2 hv2 => ?_)
  obtain ⟨ps, ⟨tk, tc⟩, er⟩ := v2
  have hps : ps.length ≤ 64 := hv2
  refine aops_e (w0 rfl) rfl (eff_move rfl rfl) ?_
  refine aops_e (w0 rfl) rfl (eff_extract rfl rfl rfl) ?_
  refine aops_e (w0 rfl) rfl (eff_extract rfl rfl rfl) ?_
  refine aops_e (w0 rfl) rfl (eff_extract rfl rfl rfl) ?_
  refine aops_n (w0 rfl) rfl (fun id => eff_alloc id rfl rfl rfl) (fun id3 => ?_)
  refine aops_e (w0 rfl) rfl (eff_assign rfl rfl) ?_
  refine aops_store 0 (w0 rfl) rfl rfl rfl rfl rfl rfl rfl rfl rfl ?_
  refine aops_e (w0 rfl) rfl (eff_assign rfl rfl) ?_
  refine aops_nil ?_
  refine awp_seq ?_
  refine awp_seq ?_
  refine awp_region ?_
  refine aops_e (w0 rfl) rfl (eff_move rfl rfl) ?_
  refine aops_e (w0 rfl) rfl (eff_icmp rfl rfl rfl rfl) ?_
  refine aops_e (w0 rfl) rfl (eff_move rfl rfl) ?_
  refine aops_g (wF rfl rfl rfl rfl) rfl (fun hg => (eff_fieldAddr rfl rfl rfl)) ?_
  refine aops_gload 1 (wF rfl rfl rfl rfl) rfl rfl (fun hg => (ev_g hg rfl)) rfl rfl ld_one ?_
  refine aops_gcallS (wF rfl rfl rfl rfl) rfl rfl (fun hg => rfl) (fun hg => (evs_cons (ev_g hg rfl) evs_nil)) (fun hg => (w_name _)) (fun v4 hv4 => ?_)
  refine aops_g (wF rfl rfl rfl rfl) rfl (fun hg => (eff_not rfl (ev_g hg rfl))) ?_
  refine aops_e (w0 rfl) rfl (eff_or rfl rfl rfl (fun h => by rw [h]; rfl)) ?_
  refine aops_e (w0 rfl) rfl (eff_move rfl rfl) ?_
  refine aops_g (wF rfl rfl rfl rfl) rfl (fun hg => (eff_fieldAddr rfl rfl rfl)) ?_
  refine aops_gload 1 (wF rfl rfl rfl rfl) rfl rfl (fun hg => (ev_g hg rfl)) rfl rfl ld_one ?_
  refine aops_g (wF rfl rfl rfl rfl) rfl (fun hg => (eff_icmp rfl (ev_g hg rfl) rfl rfl)) ?_
  refine aops_e (w0 rfl) rfl (eff_or rfl rfl rfl (fun h => by rw [h]; rfl)) ?_
  refine aops_e (w0 rfl) rfl (eff_move rfl rfl) ?_
  refine aops_g (wF rfl rfl rfl rfl) rfl (fun hg => (eff_fieldAddr rfl rfl rfl)) ?_
  refine aops_gload 1 (wF rfl rfl rfl rfl) rfl rfl (fun hg => (ev_g hg rfl)) rfl rfl ld_one ?_
  refine aops_g (wF rfl rfl rfl rfl) rfl (fun hg => (eff_icmp rfl (ev_g hg rfl) rfl rfl)) ?_
  refine aops_e (w0 rfl) rfl (eff_or rfl rfl rfl (fun h => by rw [h]; rfl)) ?_
  refine aops_nil ?_
  refine awp_cond rfl ?_ ?_
  · intro hc
    refine awp_seq ?_
    refine awp_region ?_
    refine aops_e (w0 rfl) rfl (eff_assign rfl rfl) ?_
    refine aops_nil ?_
    refine awp_ret ?_
    exact retq rfl (res_tmp rfl res_nil) gsomeB
  · intro hc
    refine awp_skip ?_
    refine awp_seq ?_
    refine awp_seq ?_
    refine awp_region ?_
    refine aops_e (w0 rfl) rfl (eff_fieldAddr rfl rfl rfl) ?_
    refine aops_load_ptr 1 (w0 rfl) rfl rfl rfl rfl rfl ld_one ?_
    refine aops_nil ?_
    refine awp_cond rfl ?_ ?_
    · intro hc
      refine awp_seq ?_
      refine awp_region ?_
      refine aops_e (w0 rfl) rfl (eff_fieldAddr rfl rfl rfl) ?_
      refine aops_load_ptr 1 (w0 rfl) rfl rfl rfl rfl rfl ld_one ?_
      refine aops_e (w0 rfl) rfl (eff_not rfl rfl) ?_
      refine aops_e (w0 rfl) rfl (eff_move rfl rfl) ?_
      refine aops_g (wT rfl rfl rfl rfl) rfl (fun hg => (eff_fieldAddr rfl rfl rfl)) ?_
      refine aops_gload 1 (wT rfl rfl rfl rfl) rfl rfl (fun hg => (ev_g hg rfl)) rfl rfl ld_one ?_
      refine aops_g (wT rfl rfl rfl rfl) rfl (fun hg => (eff_scmp rfl (ev_g hg rfl) rfl rfl)) ?_
      refine aops_e (w0 rfl) rfl (eff_and rfl rfl rfl (fun h => h)) ?_
      refine aops_e (w0 rfl) rfl (eff_move rfl rfl) ?_
      refine aops_g (wT rfl rfl rfl rfl) rfl (fun hg => (eff_fieldAddr rfl rfl rfl)) ?_
      refine aops_gload 1 (wT rfl rfl rfl rfl) rfl rfl (fun hg => (ev_g hg rfl)) rfl rfl ld_one ?_
      refine aops_g (wT rfl rfl rfl rfl) rfl (fun hg => (eff_len rfl (ev_g hg rfl) rfl rfl)) ?_
      refine aops_g (wT rfl rfl rfl rfl) rfl (fun hg => (eff_icmp rfl (ev_g hg rfl) rfl rfl)) ?_
      refine aops_e (w0 rfl) rfl (eff_and rfl rfl rfl (fun h => h)) ?_
      refine aops_e (w0 rfl) rfl (eff_move rfl rfl) ?_
      refine aops_g (wT rfl rfl rfl rfl) rfl (fun hg => (eff_fieldAddr rfl rfl rfl)) ?_
      refine aops_gload 1 (wT rfl rfl rfl rfl) rfl rfl (fun hg => (ev_g hg rfl)) rfl rfl ld_one ?_
      refine aops_g (wT rfl rfl rfl rfl) rfl (fun hg => (eff_icmp rfl (ev_g hg rfl) rfl rfl)) ?_
      refine aops_e (w0 rfl) rfl (eff_and rfl rfl rfl (fun h => h)) ?_
      refine aops_e (w0 rfl) rfl (eff_assign rfl rfl) ?_
      refine aops_nil ?_
      refine awp_ret ?_
      exact retq rfl (res_tmp rfl res_nil) gsomeB
    · intro hc
      refine awp_skip ?_
      refine awp_seq ?_
      refine awp_region ?_
      refine aops_e (w0 rfl) rfl (eff_move rfl rfl) ?_
      refine aops_e (w0 rfl) rfl (eff_len rfl rfl rfl rfl) ?_
      refine aops_e (w0 rfl) rfl (eff_assign rfl rfl) ?_
      refine aops_nil ?_
      refine awp_seq ?_
      refine awp_seq ?_
      refine awp_region ?_
      refine aops_e (w0 rfl) rfl (eff_fieldAddr rfl rfl rfl) ?_
      refine aops_load_ptr 1 (w0 rfl) rfl rfl rfl rfl rfl ld_one ?_
      refine aops_e (w0 rfl) rfl (eff_not rfl rfl) ?_
      refine aops_nil ?_
      refine awp_cond rfl ?_ ?_
      · intro hc
        refine awp_region ?_
        refine aops_e (w0 rfl) rfl (eff_move rfl rfl) ?_
        refine aops_e (w0 rfl) rfl (eff_arith rfl rfl rfl (arith_add (by first | omega | (simp only [List.length_map]; omega)))) ?_
        refine aops_e (w0 rfl) rfl (eff_assign rfl rfl) ?_
        refine aops_nil ?_
        refine awp_seq ?_
        refine awp_seq ?_
        refine awp_region ?_
        refine aops_e (w0 rfl) rfl (eff_fieldAddr rfl rfl rfl) ?_
        refine aops_load_ptr 1 (w0 rfl) rfl rfl rfl rfl rfl ld_one ?_
        refine aops_e (w0 rfl) rfl (eff_len rfl rfl rfl rfl) ?_
        refine aops_e (w0 rfl) rfl (eff_icmp rfl rfl rfl rfl) ?_
        refine aops_e (w0 rfl) rfl (eff_move rfl rfl) ?_
        refine aops_g (wF rfl rfl rfl rfl) rfl (fun hg => (eff_fieldAddr rfl rfl rfl)) ?_
        refine aops_gload 1 (wF rfl rfl rfl rfl) rfl rfl (fun hg => (ev_g hg rfl)) rfl rfl ld_one ?_
        refine aops_g (wF rfl rfl rfl rfl) rfl (fun hg => (eff_len rfl (ev_g hg rfl) rfl rfl)) ?_
        refine aops_g (wF rfl rfl rfl rfl) rfl (fun hg => (eff_icmp rfl (ev_g hg rfl) rfl rfl)) ?_
        refine aops_e (w0 rfl) rfl (eff_or rfl rfl rfl (fun h => by rw [h]; rfl)) ?_
        refine aops_e (w0 rfl) rfl (eff_move rfl rfl) ?_
        refine aops_g (wF rfl rfl rfl rfl) rfl (fun hg => (eff_fieldAddr rfl rfl rfl)) ?_
        refine aops_gload 1 (wF rfl rfl rfl rfl) rfl rfl (fun hg => (ev_g hg rfl)) rfl rfl ld_one ?_
        refine aops_g (wF rfl rfl rfl rfl) rfl (fun hg => (eff_move rfl rfl)) ?_
        refine aops_g (wF rfl rfl rfl rfl) rfl (fun hg => (eff_icmp rfl (ev_g hg rfl) (ev_g hg rfl) rfl)) ?_
        refine aops_e (w0 rfl) rfl (eff_or rfl rfl rfl (fun h => by rw [h]; rfl)) ?_
        refine aops_nil ?_
        refine awp_cond rfl ?_ ?_
        · intro hc
          refine awp_seq ?_
          refine awp_region ?_
          refine aops_e (w0 rfl) rfl (eff_assign rfl rfl) ?_
          refine aops_nil ?_
          refine awp_ret ?_
          exact retq rfl (res_tmp rfl res_nil) gsomeB
        · intro hc
          refine awp_skip ?_
          refine awp_seq ?_
          refine awp_seq ?_
          refine awp_region ?_
          refine aops_e (w0 rfl) rfl (eff_assign rfl rfl) ?_
          refine aops_nil ?_
          refine awp_block ?_
          refine awp_loopJ (α := Nat) (fun i => ⟨[(7, iA i), (1, .ptr id1 6 0 0)], [(id1, .rows 59 6 [m.cells])], [], 108⟩) (fun i => True) (fun i => m.code.length - i) 0 trivial ?_ ?_
          · exact weak_pick [1] ⟨rfl, rfl, trivial⟩ rfl (by decide) rfl rfl
          rintro i hJ
          refine awp_seq ?_
          refine awp_seq ?_
          refine awp_region ?_
          refine aops_e (w0 rfl) rfl (eff_move rfl rfl) ?_
          refine aops_e (w0 rfl) rfl (eff_fieldAddr rfl rfl rfl) ?_
          refine aops_load_ptr 0 (w0 rfl) rfl rfl rfl rfl rfl ld_one ?_
          refine aops_e (w0 rfl) rfl (eff_len rfl rfl rfl rfl) ?_
          refine aops_e (w0 rfl) rfl (eff_icmp rfl rfl rfl rfl) ?_
          refine aops_nil ?_
          refine awp_cond rfl ?_ ?_
          · intro hc
            have hi : i < m.code.length := by simpa using hc
            refine awp_skip ?_
            refine awp_seq ?_
            refine awp_block ?_
            refine awp_seq ?_
            refine awp_drawN 10 rfl (by kernel_rfl) ?_
            refine calm_e (w0 rfl) rfl (eff_fieldAddr rfl rfl rfl) ?_
            refine calm_load_ptr 0 (w0 rfl) rfl rfl rfl rfl rfl ld_one ?_
            refine calm_e (w0 rfl) rfl (eff_move rfl rfl) ?_
            refine calm_e (w0 rfl) rfl (eff_indexAddr_lst rfl rfl rfl (len_map (fun _ => rfl)) (by first | omega | (simp only [List.length_map]; omega)) (by first | omega | (simp only [List.length_map]; omega))) ?_
            refine calm_e (w0 rfl) rfl (eff_loadE rfl rfl (map_get (by first | assumption | omega)) (ld_agg (Nat.le_of_ble_eq_true rfl))) ?_
            refine calm_e (w0 rfl) rfl (eff_fieldAddr rfl rfl rfl) ?_
            refine calm_load_ptr 0 (w0 rfl) rfl rfl rfl rfl rfl ld_one ?_
            refine calm_e (w0 rfl) rfl (eff_fieldAddr rfl rfl rfl) ?_
            refine calm_load_ptr 0 (w0 rfl) rfl rfl rfl rfl rfl ld_one ?_
            refine calm_e (w0 rfl) rfl (eff_len rfl rfl rfl rfl) ?_
            refine .done ?_
            refine aops_callS (w0 rfl) rfl rfl rfl rfl (w_fits _ (hm.code.2 _ (List.getElem_mem hi)) _ _) (fun v5 hv5 => ?_)
            refine aops_e (w0 rfl) rfl (eff_icmp rfl rfl rfl rfl) ?_
            refine aops_nil ?_
            refine awp_cond rfl ?_ ?_
            · intro hc
              refine awp_seq ?_
              refine awp_region ?_
              refine aops_e (w0 rfl) rfl (eff_assign rfl rfl) ?_
              refine aops_nil ?_
              refine awp_ret ?_
              exact retq rfl (res_tmp rfl res_nil) gsomeB
            · intro hc
              refine awp_skip ?_
              refine awp_region ?_
              refine aops_e (w0 rfl) rfl (eff_move rfl rfl) ?_
              refine aops_e (w0 rfl) rfl (eff_arith rfl rfl rfl (arith_add (by first | omega | (simp only [List.length_map]; omega)))) ?_
              refine aops_e (w0 rfl) rfl (eff_assign rfl rfl) ?_
              refine aops_nil ?_
              refine ⟨i + 1, trivial, (by omega), ?_⟩
              exact weak_pick [0] ⟨rfl, rfl, trivial⟩ rfl (by decide) rfl rfl
          · intro hc
            have hi : ¬ i < m.code.length := by simpa using hc
            refine awp_exit ?_
            refine awp_seq ?_
            refine awp_region ?_
            refine aops_e (w0 rfl) rfl (eff_fieldAddr rfl rfl rfl) ?_
            refine aops_load_ptr 0 (w0 rfl) rfl rfl rfl rfl rfl ld_one ?_
            refine aops_e (w0 rfl) rfl (eff_scmp rfl rfl rfl rfl) ?_
            refine aops_e (w0 rfl) rfl (eff_move rfl rfl) ?_
            refine aops_g (wF rfl rfl rfl rfl) rfl (fun hg => (eff_fieldAddr rfl rfl rfl)) ?_
            refine aops_gload 0 (wF rfl rfl rfl rfl) rfl rfl (fun hg => (ev_g hg rfl)) rfl rfl ld_one ?_
            refine aops_g (wF rfl rfl rfl rfl) rfl (fun hg => (eff_move rfl (ev_g hg rfl))) ?_
            refine aops_g (wTg rfl rfl rfl rfl) rfl (fun hg => (eff_fieldAddr rfl rfl rfl)) ?_
            refine aops_gload 0 (wTg rfl rfl rfl rfl) rfl rfl (fun hg => (ev_g hg rfl)) rfl rfl ld_one ?_
            refine aops_g (wTg rfl rfl rfl rfl) rfl (fun hg => (eff_scmp rfl (ev_g hg rfl) rfl rfl)) ?_
            refine aops_g (wF rfl rfl rfl rfl) rfl (fun hg => (eff_and rfl (ev_g hg rfl) rfl (fun h => by first | (simp [h, hg]; done) | (simp_all; done)))) ?_
            refine aops_e (w0 rfl) rfl (eff_or rfl rfl rfl (fun h => by rw [h]; rfl)) ?_
            refine aops_e (w0 rfl) rfl (eff_assign rfl rfl) ?_
            refine aops_nil ?_
            refine awp_ret ?_
            exact retq rfl (res_tmp rfl res_nil) gsomeB
      · intro hc
        refine awp_skip ?_
        refine awp_seq ?_
        refine awp_seq ?_
        refine awp_region ?_
        refine aops_e (w0 rfl) rfl (eff_fieldAddr rfl rfl rfl) ?_
        refine aops_load_ptr 1 (w0 rfl) rfl rfl rfl rfl rfl ld_one ?_
        refine aops_e (w0 rfl) rfl (eff_len rfl rfl rfl rfl) ?_
        refine aops_e (w0 rfl) rfl (eff_icmp rfl rfl rfl rfl) ?_
        refine aops_e (w0 rfl) rfl (eff_move rfl rfl) ?_
        refine aops_g (wF rfl rfl rfl rfl) rfl (fun hg => (eff_fieldAddr rfl rfl rfl)) ?_
        refine aops_gload 1 (wF rfl rfl rfl rfl) rfl rfl (fun hg => (ev_g hg rfl)) rfl rfl ld_one ?_
        refine aops_g (wF rfl rfl rfl rfl) rfl (fun hg => (eff_len rfl (ev_g hg rfl) rfl rfl)) ?_
        refine aops_g (wF rfl rfl rfl rfl) rfl (fun hg => (eff_icmp rfl (ev_g hg rfl) rfl rfl)) ?_
        refine aops_e (w0 rfl) rfl (eff_or rfl rfl rfl (fun h => by rw [h]; rfl)) ?_
        refine aops_e (w0 rfl) rfl (eff_move rfl rfl) ?_
        refine aops_g (wF rfl rfl rfl rfl) rfl (fun hg => (eff_fieldAddr rfl rfl rfl)) ?_
        refine aops_gload 1 (wF rfl rfl rfl rfl) rfl rfl (fun hg => (ev_g hg rfl)) rfl rfl ld_one ?_
        refine aops_g (wF rfl rfl rfl rfl) rfl (fun hg => (eff_move rfl rfl)) ?_
        refine aops_g (wF rfl rfl rfl rfl) rfl (fun hg => (eff_icmp rfl (ev_g hg rfl) (ev_g hg rfl) rfl)) ?_
        refine aops_e (w0 rfl) rfl (eff_or rfl rfl rfl (fun h => by rw [h]; rfl)) ?_
        refine aops_nil ?_
        refine awp_cond rfl ?_ ?_
        · intro hc
          refine awp_seq ?_
          refine awp_region ?_
          refine aops_e (w0 rfl) rfl (eff_assign rfl rfl) ?_
          refine aops_nil ?_
          refine awp_ret ?_
          exact retq rfl (res_tmp rfl res_nil) gsomeB
        · intro hc
          refine awp_skip ?_
          refine awp_seq ?_
          refine awp_seq ?_
          refine awp_region ?_
          refine aops_e (w0 rfl) rfl (eff_assign rfl rfl) ?_
          refine aops_nil ?_
          refine awp_block ?_
          refine awp_loopJ (α := Nat) (fun i => ⟨[(7, iA i), (1, .ptr id1 6 0 0)], [(id1, .rows 59 6 [m.cells])], [], 108⟩) (fun i => True) (fun i => m.code.length - i) 0 trivial ?_ ?_
          · exact weak_pick [1] ⟨rfl, rfl, trivial⟩ rfl (by decide) rfl rfl
          rintro i hJ
          refine awp_seq ?_
          refine awp_seq ?_
          refine awp_region ?_
          refine aops_e (w0 rfl) rfl (eff_move rfl rfl) ?_
          refine aops_e (w0 rfl) rfl (eff_fieldAddr rfl rfl rfl) ?_
          refine aops_load_ptr 0 (w0 rfl) rfl rfl rfl rfl rfl ld_one ?_
          refine aops_e (w0 rfl) rfl (eff_len rfl rfl rfl rfl) ?_
          refine aops_e (w0 rfl) rfl (eff_icmp rfl rfl rfl rfl) ?_
          refine aops_nil ?_
          refine awp_cond rfl ?_ ?_
          · intro hc
            have hi : i < m.code.length := by simpa using hc
            refine awp_skip ?_
            refine awp_seq ?_
            refine awp_block ?_
            refine awp_seq ?_
            refine awp_drawN 10 rfl (by kernel_rfl) ?_
            refine calm_e (w0 rfl) rfl (eff_fieldAddr rfl rfl rfl) ?_
            refine calm_load_ptr 0 (w0 rfl) rfl rfl rfl rfl rfl ld_one ?_
            refine calm_e (w0 rfl) rfl (eff_move rfl rfl) ?_
            refine calm_e (w0 rfl) rfl (eff_indexAddr_lst rfl rfl rfl (len_map (fun _ => rfl)) (by first | omega | (simp only [List.length_map]; omega)) (by first | omega | (simp only [List.length_map]; omega))) ?_
            refine calm_e (w0 rfl) rfl (eff_loadE rfl rfl (map_get (by first | assumption | omega)) (ld_agg (Nat.le_of_ble_eq_true rfl))) ?_
            refine calm_e (w0 rfl) rfl (eff_fieldAddr rfl rfl rfl) ?_
            refine calm_load_ptr 0 (w0 rfl) rfl rfl rfl rfl rfl ld_one ?_
            refine calm_e (w0 rfl) rfl (eff_fieldAddr rfl rfl rfl) ?_
            refine calm_load_ptr 0 (w0 rfl) rfl rfl rfl rfl rfl ld_one ?_
            refine calm_e (w0 rfl) rfl (eff_len rfl rfl rfl rfl) ?_
            refine .done ?_
            refine aops_callS (w0 rfl) rfl rfl rfl rfl (w_fits _ (hm.code.2 _ (List.getElem_mem hi)) _ _) (fun v6 hv6 => ?_)
            refine aops_e (w0 rfl) rfl (eff_icmp rfl rfl rfl rfl) ?_
            refine aops_nil ?_
            refine awp_cond rfl ?_ ?_
            · intro hc
              refine awp_seq ?_
              refine awp_region ?_
              refine aops_e (w0 rfl) rfl (eff_assign rfl rfl) ?_
              refine aops_nil ?_
              refine awp_ret ?_
              exact retq rfl (res_tmp rfl res_nil) gsomeB
            · intro hc
              refine awp_skip ?_
              refine awp_region ?_
              refine aops_e (w0 rfl) rfl (eff_move rfl rfl) ?_
              refine aops_e (w0 rfl) rfl (eff_arith rfl rfl rfl (arith_add (by first | omega | (simp only [List.length_map]; omega)))) ?_
              refine aops_e (w0 rfl) rfl (eff_assign rfl rfl) ?_
              refine aops_nil ?_
              refine ⟨i + 1, trivial, (by omega), ?_⟩
              exact weak_pick [0] ⟨rfl, rfl, trivial⟩ rfl (by decide) rfl rfl
          · intro hc
            have hi : ¬ i < m.code.length := by simpa using hc
            refine awp_exit ?_
            refine awp_seq ?_
            refine awp_region ?_
            refine aops_e (w0 rfl) rfl (eff_fieldAddr rfl rfl rfl) ?_
            refine aops_load_ptr 0 (w0 rfl) rfl rfl rfl rfl rfl ld_one ?_
            refine aops_e (w0 rfl) rfl (eff_scmp rfl rfl rfl rfl) ?_
            refine aops_e (w0 rfl) rfl (eff_move rfl rfl) ?_
            refine aops_g (wF rfl rfl rfl rfl) rfl (fun hg => (eff_fieldAddr rfl rfl rfl)) ?_
            refine aops_gload 0 (wF rfl rfl rfl rfl) rfl rfl (fun hg => (ev_g hg rfl)) rfl rfl ld_one ?_
            refine aops_g (wF rfl rfl rfl rfl) rfl (fun hg => (eff_move rfl (ev_g hg rfl))) ?_
            refine aops_g (wTg rfl rfl rfl rfl) rfl (fun hg => (eff_fieldAddr rfl rfl rfl)) ?_
            refine aops_gload 0 (wTg rfl rfl rfl rfl) rfl rfl (fun hg => (ev_g hg rfl)) rfl rfl ld_one ?_
            refine aops_g (wTg rfl rfl rfl rfl) rfl (fun hg => (eff_scmp rfl (ev_g hg rfl) rfl rfl)) ?_
            refine aops_g (wF rfl rfl rfl rfl) rfl (fun hg => (eff_and rfl (ev_g hg rfl) rfl (fun h => by first | (simp [h, hg]; done) | (simp_all; done)))) ?_
            refine aops_e (w0 rfl) rfl (eff_or rfl rfl rfl (fun h => by rw [h]; rfl)) ?_
            refine aops_e (w0 rfl) rfl (eff_assign rfl rfl) ?_
            refine aops_nil ?_
            refine awp_ret ?_
            exact retq rfl (res_tmp rfl res_nil) gsomeB

theorem w_cls (c : Cls) (hc0 : c.ok) : ACalls Try.prog 36 [c.av] [] (SomeB) := by
  have h1 := hc0.ifaces.1
  have h2 := hc0.fields.1
  have h3 := hc0.methods.1
  simp only [small] at h1 h2 h3
  refine acalls_of (n := 128) Try.func36 rfl (by decide +kernel) rfl rfl ?_
  refine awp_seq ?_
  refine awp_region ?_
  refine aops_n (w0 rfl) rfl (fun id => eff_box id rfl rfl rfl rfl rfl) (fun id1 => ?_)
  refine aops_e (w0 rfl) rfl (eff_assign rfl rfl) ?_
  refine aops_nil ?_
  refine awp_seq ?_
  refine awp_seq ?_
  refine awp_region ?_
  refine aops_e (w0 rfl) rfl (eff_fieldAddr rfl rfl rfl) ?_
  refine aops_load_ptr 0 (w0 rfl) rfl rfl rfl rfl rfl ld_one ?_
  refine aops_callS (w0 rfl) rfl rfl rfl rfl (w_class _) (fun v2 hv2 => ?_)
  refine aops_e (w0 rfl) rfl (eff_not rfl rfl) ?_
  refine aops_e (w0 rfl) rfl (eff_move rfl rfl) ?_
  refine aops_g (wF rfl rfl rfl rfl) rfl (fun hg => (eff_fieldAddr rfl rfl rfl)) ?_
  refine aops_gload 0 (wF rfl rfl rfl rfl) rfl rfl (fun hg => (ev_g hg rfl)) rfl rfl ld_one ?_
  refine aops_g (wF rfl rfl rfl rfl) rfl (fun hg => (eff_scmp rfl (ev_g hg rfl) rfl rfl)) ?_
  refine aops_g (wF rfl rfl rfl rfl) rfl (fun hg => (eff_move rfl (ev_g hg rfl))) ?_
  refine aops_g (wTg rfl rfl rfl rfl) rfl (fun hg => (eff_fieldAddr rfl rfl rfl)) ?_
  refine aops_gload 0 (wTg rfl rfl rfl rfl) rfl rfl (fun hg => (ev_g hg rfl)) rfl rfl ld_one ?_
  refine aops_gcallS (wTg rfl rfl rfl rfl) rfl rfl (fun hg => rfl) (fun hg => (evs_cons (ev_g hg rfl) evs_nil)) (fun hg => (w_class _)) (fun v3 hv3 => ?_)
  refine aops_g (wTg rfl rfl rfl rfl) rfl (fun hg => (eff_not rfl (ev_g hg rfl))) ?_
  refine aops_g (wTg rfl rfl rfl rfl) rfl (fun hg => (eff_move rfl (ev_g hg rfl))) ?_
  refine aops_g (wFg rfl rfl rfl rfl) rfl (fun hg => (eff_fieldAddr rfl rfl rfl)) ?_
  refine aops_gload 0 (wFg rfl rfl rfl rfl) rfl rfl (fun hg => (ev_g hg rfl)) rfl rfl ld_one ?_
  refine aops_g (wFg rfl rfl rfl rfl) rfl (fun hg => (eff_fieldAddr rfl rfl rfl)) ?_
  refine aops_gload 0 (wFg rfl rfl rfl rfl) rfl rfl (fun hg => (ev_g hg rfl)) rfl rfl ld_one ?_
  refine aops_g (wFg rfl rfl rfl rfl) rfl (fun hg => (eff_scmp rfl (ev_g hg rfl) (ev_g hg rfl) rfl)) ?_
  refine aops_g (wTg rfl rfl rfl rfl) rfl (fun hg => (eff_or rfl (ev_g hg rfl) rfl (fun h => by first | (simp [h, hg]; done) | (simp_all; done)))) ?_
  refine aops_g (wF rfl rfl rfl rfl) rfl (fun hg => (eff_and rfl (ev_g hg rfl) rfl (fun h => by first | (simp [h, hg]; done) | (simp_all; done)))) ?_
  refine aops_e (w0 rfl) rfl (eff_or rfl rfl rfl (fun h => by rw [h]; rfl)) ?_
  refine aops_nil ?_
  refine awp_cond rfl ?_ ?_
  · intro hc
    refine awp_seq ?_
    refine awp_region ?_
    refine aops_e (w0 rfl) rfl (eff_assign rfl rfl) ?_
    refine aops_nil ?_
    refine awp_ret ?_
    exact retq rfl (res_tmp rfl res_nil) gsomeB
  · intro hc
    refine awp_skip ?_
    refine awp_seq ?_
    refine awp_seq ?_
    refine awp_region ?_
    refine aops_e (w0 rfl) rfl (eff_fieldAddr rfl rfl rfl) ?_
    refine aops_load_ptr 0 (w0 rfl) rfl rfl rfl rfl rfl ld_one ?_
    refine aops_e (w0 rfl) rfl (eff_move rfl rfl) ?_
    refine aops_g (wT rfl rfl rfl rfl) rfl (fun hg => (eff_fieldAddr rfl rfl rfl)) ?_
    refine aops_gload 0 (wT rfl rfl rfl rfl) rfl rfl (fun hg => (ev_g hg rfl)) rfl rfl ld_one ?_
    refine aops_g (wT rfl rfl rfl rfl) rfl (fun hg => (eff_not rfl (ev_g hg rfl))) ?_
    refine aops_g (wT rfl rfl rfl rfl) rfl (fun hg => (eff_move rfl (ev_g hg rfl))) ?_
    refine aops_g (wFg rfl rfl rfl rfl) rfl (fun hg => (eff_fieldAddr rfl rfl rfl)) ?_
    refine aops_gload 0 (wFg rfl rfl rfl rfl) rfl rfl (fun hg => (ev_g hg rfl)) rfl rfl ld_one ?_
    refine aops_g (wFg rfl rfl rfl rfl) rfl (fun hg => (eff_scmp rfl (ev_g hg rfl) rfl rfl)) ?_
    refine aops_g (wT rfl rfl rfl rfl) rfl (fun hg => (eff_or rfl (ev_g hg rfl) rfl (fun h => by first | (simp [h, hg]; done) | (simp_all; done)))) ?_
    refine aops_g (wT rfl rfl rfl rfl) rfl (fun hg => (eff_move rfl (ev_g hg rfl))) ?_
    refine aops_g (wFg rfl rfl rfl rfl) rfl (fun hg => (eff_fieldAddr rfl rfl rfl)) ?_
    refine aops_gload 0 (wFg rfl rfl rfl rfl) rfl rfl (fun hg => (ev_g hg rfl)) rfl rfl ld_one ?_
    refine aops_g (wFg rfl rfl rfl rfl) rfl (fun hg => (eff_len rfl (ev_g hg rfl) rfl rfl)) ?_
    refine aops_g (wFg rfl rfl rfl rfl) rfl (fun hg => (eff_icmp rfl (ev_g hg rfl) rfl rfl)) ?_
    refine aops_g (wT rfl rfl rfl rfl) rfl (fun hg => (eff_or rfl (ev_g hg rfl) rfl (fun h => by first | (simp [h, hg]; done) | (simp_all; done)))) ?_
    refine aops_e (w0 rfl) rfl (eff_and rfl rfl rfl (fun h => h)) ?_
    refine aops_nil ?_
    refine awp_cond rfl ?_ ?_
    · intro hc
      refine awp_seq ?_
      refine awp_region ?_
      refine aops_e (w0 rfl) rfl (eff_assign rfl rfl) ?_
      refine aops_nil ?_
      refine awp_ret ?_
      exact retq rfl (res_tmp rfl res_nil) gsomeB
    · intro hc
      refine awp_skip ?_
      refine awp_seq ?_
      refine awp_seq ?_
      refine awp_region ?_
      refine aops_e (w0 rfl) rfl (eff_assign rfl rfl) ?_
      refine aops_nil ?_
      refine awp_block ?_
      refine awp_loopJ (α := Nat) (fun i => ⟨[(3, iA i), (1, .ptr id1 7 0 0)], [(id1, .rows 54 7 [c.cells])], [], 128⟩) (fun i => True) (fun i => c.ifaces.length - i) 0 trivial ?_ ?_
      · exact weak_pick [0] ⟨rfl, rfl, trivial⟩ rfl (by decide) rfl rfl
      rintro i hJ
      refine awp_seq ?_
      refine awp_seq ?_
      refine awp_region ?_
      refine aops_e (w0 rfl) rfl (eff_move rfl rfl) ?_
      refine aops_e (w0 rfl) rfl (eff_fieldAddr rfl rfl rfl) ?_
      refine aops_load_ptr 0 (w0 rfl) rfl rfl rfl rfl rfl ld_one ?_
      refine aops_e (w0 rfl) rfl (eff_len rfl rfl rfl rfl) ?_
      refine aops_e (w0 rfl) rfl (eff_icmp rfl rfl rfl rfl) ?_
      refine aops_nil ?_
      refine awp_cond rfl ?_ ?_
      · intro hc
        have hi : i < c.ifaces.length := by simpa using hc
        refine awp_skip ?_
        refine awp_seq ?_
        refine awp_block ?_
        refine awp_seq ?_
        refine awp_region ?_
        refine aops_e (w0 rfl) rfl (eff_fieldAddr rfl rfl rfl) ?_
        refine aops_load_ptr 0 (w0 rfl) rfl rfl rfl rfl rfl ld_one ?_
        refine aops_e (w0 rfl) rfl (eff_move rfl rfl) ?_
        refine aops_e (w0 rfl) rfl (eff_indexAddr_lst rfl rfl rfl (len_map (fun _ => rfl)) (by first | omega | (simp only [List.length_map]; omega)) (by first | omega | (simp only [List.length_map]; omega))) ?_
        refine aops_e (w0 rfl) rfl (eff_loadE rfl rfl (map_get (by first | assumption | omega)) ld_one) ?_
        refine aops_callS (w0 rfl) rfl rfl rfl rfl (w_class _) (fun v4 hv4 => ?_)
        refine aops_e (w0 rfl) rfl (eff_not rfl rfl) ?_
        refine aops_nil ?_
        refine awp_cond rfl ?_ ?_
        · intro hc
          refine awp_seq ?_
          refine awp_region ?_
          refine aops_e (w0 rfl) rfl (eff_assign rfl rfl) ?_
          refine aops_nil ?_
          refine awp_ret ?_
          exact retq rfl (res_tmp rfl res_nil) gsomeB
        · intro hc
          refine awp_skip ?_
          refine awp_region ?_
          refine aops_e (w0 rfl) rfl (eff_move rfl rfl) ?_
          refine aops_e (w0 rfl) rfl (eff_arith rfl rfl rfl (arith_add (by first | omega | (simp only [List.length_map]; omega)))) ?_
          refine aops_e (w0 rfl) rfl (eff_assign rfl rfl) ?_
          refine aops_nil ?_
          refine ⟨i + 1, trivial, (by omega), ?_⟩
          exact weak_pick [0] ⟨rfl, rfl, trivial⟩ rfl (by decide) rfl rfl
      · intro hc
        have hi : ¬ i < c.ifaces.length := by simpa using hc
        refine awp_exit ?_
        refine awp_seq ?_
        refine awp_seq ?_
        refine awp_region ?_
        refine aops_e (w0 rfl) rfl (eff_assign rfl rfl) ?_
        refine aops_nil ?_
        refine awp_block ?_
        refine awp_loopJ (α := Nat) (fun i => ⟨[(4, iA i), (1, .ptr id1 7 0 0)], [(id1, .rows 54 7 [c.cells])], [], 128⟩) (fun i => True) (fun i => c.fields.length - i) 0 trivial ?_ ?_
        · exact weak_pick [0] ⟨rfl, rfl, trivial⟩ rfl (by decide) rfl rfl
        rintro i hJ
        refine awp_seq ?_
        refine awp_seq ?_
        refine awp_region ?_
        refine aops_e (w0 rfl) rfl (eff_move rfl rfl) ?_
        refine aops_e (w0 rfl) rfl (eff_fieldAddr rfl rfl rfl) ?_
        refine aops_load_ptr 0 (w0 rfl) rfl rfl rfl rfl rfl ld_one ?_
        refine aops_e (w0 rfl) rfl (eff_len rfl rfl rfl rfl) ?_
        refine aops_e (w0 rfl) rfl (eff_icmp rfl rfl rfl rfl) ?_
        refine aops_nil ?_
        refine awp_cond rfl ?_ ?_
        · intro hc
          have hi : i < c.fields.length := by simpa using hc
          refine awp_skip ?_
          refine awp_seq ?_
          refine awp_block ?_
          refine awp_seq ?_
          refine awp_region ?_
          refine aops_e (w0 rfl) rfl (eff_fieldAddr rfl rfl rfl) ?_
          refine aops_load_ptr 0 (w0 rfl) rfl rfl rfl rfl rfl ld_one ?_
          refine aops_e (w0 rfl) rfl (eff_move rfl rfl) ?_
          refine aops_e (w0 rfl) rfl (eff_indexAddr_lst rfl rfl rfl (len_map (fun _ => rfl)) (by first | omega | (simp only [List.length_map]; omega)) (by first | omega | (simp only [List.length_map]; omega))) ?_
          refine aops_e (w0 rfl) rfl (eff_loadE rfl rfl (map_get (by first | assumption | omega)) (ld_agg (Nat.le_of_ble_eq_true rfl))) ?_
          refine aops_n (w0 rfl) rfl (fun id => eff_alloc id rfl rfl rfl) (fun id5 => ?_)
          refine aops_store 0 (w0 rfl) rfl rfl rfl rfl rfl rfl rfl rfl rfl ?_
          refine aops_nil ?_
          refine awp_seq ?_
          refine awp_region ?_
          refine aops_e (w0 rfl) rfl (eff_fieldAddr rfl rfl rfl) ?_
          refine aops_load_ptr 0 (w0 rfl) rfl rfl rfl rfl rfl ld_one ?_
          refine aops_callS (w0 rfl) rfl rfl rfl rfl (w_name _) (fun v6 hv6 => ?_)
          refine aops_e (w0 rfl) rfl (eff_not rfl rfl) ?_
          refine aops_e (w0 rfl) rfl (eff_move rfl rfl) ?_
          refine aops_g (wF rfl rfl rfl rfl) rfl (fun hg => (eff_fieldAddr rfl rfl rfl)) ?_
          refine aops_gload 0 (wF rfl rfl rfl rfl) rfl rfl (fun hg => (ev_g hg rfl)) rfl rfl ld_one ?_
          refine aops_g (wF rfl rfl rfl rfl) rfl (fun hg => (eff_scmp rfl (ev_g hg rfl) rfl rfl)) ?_
          refine aops_e (w0 rfl) rfl (eff_or rfl rfl rfl (fun h => by rw [h]; rfl)) ?_
          refine aops_e (w0 rfl) rfl (eff_move rfl rfl) ?_
          refine aops_g (wF rfl rfl rfl rfl) rfl (fun hg => (eff_fieldAddr rfl rfl rfl)) ?_
          refine aops_gload 0 (wF rfl rfl rfl rfl) rfl rfl (fun hg => (ev_g hg rfl)) rfl rfl (ld_agg (Nat.le_of_ble_eq_true rfl)) ?_
          refine aops_gcallS (wF rfl rfl rfl rfl) rfl rfl (fun hg => rfl) (fun hg => (evs_cons (ev_g hg rfl) evs_nil)) (fun hg => (w_rightT (c.fields[i]).type)) (fun v7 hv7 => ?_)
          refine aops_g (wF rfl rfl rfl rfl) rfl (fun hg => (eff_not rfl (ev_g hg rfl))) ?_
          refine aops_e (w0 rfl) rfl (eff_or rfl rfl rfl (fun h => by rw [h]; rfl)) ?_
          refine aops_e (w0 rfl) rfl (eff_move rfl rfl) ?_
          refine aops_g (wF rfl rfl rfl rfl) rfl (fun hg => (eff_fieldAddr rfl rfl rfl)) ?_
          refine aops_g (wF rfl rfl rfl rfl) rfl (fun hg => (eff_fieldAddr rfl (ev_g hg rfl) rfl)) ?_
          refine aops_gload 0 (wF rfl rfl rfl rfl) rfl rfl (fun hg => (ev_g hg rfl)) rfl rfl ld_one ?_
          refine aops_g (wF rfl rfl rfl rfl) rfl (fun hg => (eff_icmp rfl (ev_g hg rfl) rfl rfl)) ?_
          refine aops_e (w0 rfl) rfl (eff_or rfl rfl rfl (fun h => by rw [h]; rfl)) ?_
          refine aops_nil ?_
          refine awp_cond rfl ?_ ?_
          · intro hc
            refine awp_seq ?_
            refine awp_region ?_
            refine aops_e (w0 rfl) rfl (eff_assign rfl rfl) ?_
            refine aops_nil ?_
            refine awp_ret ?_
            exact retq rfl (res_tmp rfl res_nil) gsomeB
          · intro hc
            refine awp_skip ?_
            refine awp_region ?_
            refine aops_e (w0 rfl) rfl (eff_move rfl rfl) ?_
            refine aops_e (w0 rfl) rfl (eff_arith rfl rfl rfl (arith_add (by first | omega | (simp only [List.length_map]; omega)))) ?_
            refine aops_e (w0 rfl) rfl (eff_assign rfl rfl) ?_
            refine aops_nil ?_
            refine ⟨i + 1, trivial, (by omega), ?_⟩
            exact weak_pick [1] ⟨rfl, rfl, trivial⟩ rfl (by decide) rfl rfl
        · intro hc
          have hi : ¬ i < c.fields.length := by simpa using hc
          refine awp_exit ?_
          refine awp_seq ?_
          refine awp_seq ?_
          refine awp_region ?_
          refine aops_e (w0 rfl) rfl (eff_assign rfl rfl) ?_
          refine aops_nil ?_
          refine awp_block ?_
          refine awp_loopJ (α := Nat) (fun i => ⟨[(6, iA i), (1, .ptr id1 7 0 0)], [(id1, .rows 54 7 [c.cells])], [], 128⟩) (fun i => True) (fun i => c.methods.length - i) 0 trivial ?_ ?_
          · exact weak_pick [0] ⟨rfl, rfl, trivial⟩ rfl (by decide) rfl rfl
          rintro i hJ
          refine awp_seq ?_
          refine awp_seq ?_
          refine awp_region ?_
          refine aops_e (w0 rfl) rfl (eff_move rfl rfl) ?_
          refine aops_e (w0 rfl) rfl (eff_fieldAddr rfl rfl rfl) ?_
          refine aops_load_ptr 0 (w0 rfl) rfl rfl rfl rfl rfl ld_one ?_
          refine aops_e (w0 rfl) rfl (eff_len rfl rfl rfl rfl) ?_
          refine aops_e (w0 rfl) rfl (eff_icmp rfl rfl rfl rfl) ?_
          refine aops_nil ?_
          refine awp_cond rfl ?_ ?_
          · intro hc
            have hi : i < c.methods.length := by simpa using hc
            refine awp_skip ?_
            refine awp_seq ?_
            refine awp_block ?_
            refine awp_seq ?_
            refine awp_region ?_
            refine aops_e (w0 rfl) rfl (eff_fieldAddr rfl rfl rfl) ?_
            refine aops_load_ptr 0 (w0 rfl) rfl rfl rfl rfl rfl ld_one ?_
            refine aops_e (w0 rfl) rfl (eff_move rfl rfl) ?_
            refine aops_e (w0 rfl) rfl (eff_indexAddr_lst rfl rfl rfl (len_map (fun _ => rfl)) (by first | omega | (simp only [List.length_map]; omega)) (by first | omega | (simp only [List.length_map]; omega))) ?_
            refine aops_e (w0 rfl) rfl (eff_loadE rfl rfl (map_get (by first | assumption | omega)) (ld_agg (Nat.le_of_ble_eq_true rfl))) ?_
            refine aops_n (w0 rfl) rfl (fun id => eff_alloc id rfl rfl rfl) (fun id8 => ?_)
            refine aops_store 0 (w0 rfl) rfl rfl rfl rfl rfl rfl rfl rfl rfl ?_
            refine aops_nil ?_
            refine awp_seq ?_
            refine awp_region ?_
            refine aops_load_ptr 0 (w0 rfl) rfl rfl rfl rfl rfl (ld_agg (Nat.le_of_ble_eq_true rfl)) ?_
            refine aops_callS (w0 rfl) rfl rfl rfl rfl (w_method _ (hc0.methods.2 _ (List.getElem_mem hi))) (fun v9 hv9 => ?_)
            refine aops_e (w0 rfl) rfl (eff_not rfl rfl) ?_
            refine aops_e (w0 rfl) rfl (eff_move rfl rfl) ?_
            refine aops_g (wF rfl rfl rfl rfl) rfl (fun hg => (eff_fieldAddr rfl rfl rfl)) ?_
            refine aops_gload 1 (wF rfl rfl rfl rfl) rfl rfl (fun hg => (ev_g hg rfl)) rfl rfl ld_one ?_
            refine aops_g (wF rfl rfl rfl rfl) rfl (fun hg => (eff_move rfl (ev_g hg rfl))) ?_
            refine aops_g (wTg rfl rfl rfl rfl) rfl (fun hg => (eff_fieldAddr rfl rfl rfl)) ?_
            refine aops_gload 0 (wTg rfl rfl rfl rfl) rfl rfl (fun hg => (ev_g hg rfl)) rfl rfl ld_one ?_
            refine aops_g (wTg rfl rfl rfl rfl) rfl (fun hg => (eff_not rfl (ev_g hg rfl))) ?_
            refine aops_g (wF rfl rfl rfl rfl) rfl (fun hg => (eff_and rfl (ev_g hg rfl) rfl (fun h => by first | (simp [h, hg]; done) | (simp_all; done)))) ?_
            refine aops_e (w0 rfl) rfl (eff_or rfl rfl rfl (fun h => by rw [h]; rfl)) ?_
            refine aops_e (w0 rfl) rfl (eff_move rfl rfl) ?_
            refine aops_g (wF rfl rfl rfl rfl) rfl (fun hg => (eff_fieldAddr rfl rfl rfl)) ?_
            refine aops_gload 0 (wF rfl rfl rfl rfl) rfl rfl (fun hg => (ev_g hg rfl)) rfl rfl ld_one ?_
            refine aops_g (wF rfl rfl rfl rfl) rfl (fun hg => (eff_move rfl (ev_g hg rfl))) ?_
            refine aops_g (wTg rfl rfl rfl rfl) rfl (fun hg => (eff_fieldAddr rfl rfl rfl)) ?_
            refine aops_gload 1 (wTg rfl rfl rfl rfl) rfl rfl (fun hg => (ev_g hg rfl)) rfl rfl ld_one ?_
            refine aops_g (wTg rfl rfl rfl rfl) rfl (fun hg => (eff_not rfl (ev_g hg rfl))) ?_
            refine aops_g (wF rfl rfl rfl rfl) rfl (fun hg => (eff_and rfl (ev_g hg rfl) rfl (fun h => by first | (simp [h, hg]; done) | (simp_all; done)))) ?_
            refine aops_e (w0 rfl) rfl (eff_or rfl rfl rfl (fun h => by rw [h]; rfl)) ?_
            refine aops_nil ?_
            refine awp_cond rfl ?_ ?_
            · intro hc
              refine awp_seq ?_
              refine awp_region ?_
              refine aops_e (w0 rfl) rfl (eff_assign rfl rfl) ?_
              refine aops_nil ?_
              refine awp_ret ?_
              exact retq rfl (res_tmp rfl res_nil) gsomeB
            · intro hc
              refine awp_skip ?_
              refine awp_region ?_
              refine aops_e (w0 rfl) rfl (eff_move rfl rfl) ?_
              refine aops_e (w0 rfl) rfl (eff_arith rfl rfl rfl (arith_add (by first | omega | (simp only [List.length_map]; omega)))) ?_
              refine aops_e (w0 rfl) rfl (eff_assign rfl rfl) ?_
              refine aops_nil ?_
              refine ⟨i + 1, trivial, (by omega), ?_⟩
              exact weak_pick [1] ⟨rfl, rfl, trivial⟩ rfl (by decide) rfl rfl
          · intro hc
            have hi : ¬ i < c.methods.length := by simpa using hc
            refine awp_exit ?_
            refine awp_seq ?_
            refine awp_region ?_
            refine aops_e (w0 rfl) rfl (eff_assign rfl rfl) ?_
            refine aops_nil ?_
            refine awp_ret ?_
            exact retq rfl (res_tmp rfl res_nil) gsomeB

def allB (g : Nat → Bool) (n : Nat) : Bool := (List.range n).all fun i => Nat.beq i 0 || g i
theorem allB_true {g : Nat → Bool} {n i : Nat} (h : ∀ k, k < i → 0 < k → g k = true) (hi : n ≤ i) : allB g n = true :=
  List.all_eq_true.2 fun k hk => by
    have := List.mem_range.1 hk
    cases k with
    | zero => rfl
    | succ k => simp [h (k + 1) (by omega) (by omega)]
theorem allB_false {g : Nat → Bool} {n i : Nat} (hi : i < n) (h0 : 0 < i) (h : g i = false) : allB g n = false := by
  cases ha : allB g n with
  | false => rfl
  | true =>
    have := List.all_eq_true.1 ha i (List.mem_range.2 hi)
    cases i with
    | zero => omega
    | succ k => simp [h] at this
theorem getD_pred {α : Type} [Inhabited α] {l : List α} {i : Nat} (h0 : 0 < i) (hi : i < l.length) (h : ((i : Int) - 1).toNat < l.length) : l[((i : Int) - 1).toNat]'h = l.getD (i - 1) default := by
  have e : ((i : Int) - 1).toNat = i - 1 := by omega
  simp only [e]; simp [List.getD, List.getElem?_eq_getElem (show i - 1 < l.length by omega)]
theorem getD_at {α : Type} [Inhabited α] {l : List α} {i : Nat} (hi : i < l.length) : l[i] = l.getD i default := by simp [List.getD, List.getElem?_eq_getElem hi]
def gI (c : Cls) (k : Nat) : Bool := ltS (c.ifaces.getD (k - 1) default) (c.ifaces.getD k default)
def gF (c : Cls) (k : Nat) : Bool := ltS (c.fields.getD (k - 1) default).name (c.fields.getD k default).name
def gM (c : Cls) (k : Nat) : Bool := belowM (c.methods.getD (k - 1) default) (c.methods.getD k default)
def orderedC (c : Cls) : Bool := allB (gI c) c.ifaces.length && allB (gF c) c.fields.length && allB (gM c) c.methods.length


theorem c_ordered (c : Cls) (hc0 : c.ok) : ACalls Try.prog 51 [c.av] [] (Gives (bA (orderedC c))) := by
  have h1 := hc0.ifaces.1
  have h2 := hc0.fields.1
  have h3 := hc0.methods.1
  simp only [small] at h1 h2 h3
  refine acalls_of (n := 66) Try.func51 rfl (by decide +kernel) rfl rfl ?_
  refine awp_seq ?_
  refine awp_region ?_
  refine aops_n (w0 rfl) rfl (fun id => eff_box id rfl rfl rfl rfl rfl) (fun id1 => ?_)
  refine aops_e (w0 rfl) rfl (eff_assign rfl rfl) ?_
  refine aops_nil ?_
  refine awp_seq ?_
  refine awp_seq ?_
  refine awp_region ?_
  refine aops_e (w0 rfl) rfl (eff_assign rfl rfl) ?_
  refine aops_nil ?_
  refine awp_block ?_
  refine awp_loopJ (α := Nat) (fun i => ⟨[(3, iA i), (1, .ptr id1 7 0 0)], [(id1, .rows 54 7 [c.cells])], [], 66⟩) (fun i => 0 < i ∧ ∀ k, k < i → 0 < k → gI c k = true) (fun i => c.ifaces.length - i) 1 ⟨by omega, fun k h1 h2 => by omega⟩ ?_ ?_
  · exact weak_pick [0] ⟨rfl, rfl, trivial⟩ rfl (by decide) rfl rfl
  rintro i hJ
  refine awp_seq ?_
  refine awp_seq ?_
  refine awp_region ?_
  refine aops_e (w0 rfl) rfl (eff_move rfl rfl) ?_
  refine aops_e (w0 rfl) rfl (eff_fieldAddr rfl rfl rfl) ?_
  refine aops_load_ptr 0 (w0 rfl) rfl rfl rfl rfl rfl ld_one ?_
  refine aops_e (w0 rfl) rfl (eff_len rfl rfl rfl rfl) ?_
  refine aops_e (w0 rfl) rfl (eff_icmp rfl rfl rfl rfl) ?_
  refine aops_nil ?_
  refine awp_cond rfl ?_ ?_
  · intro hc
    have hi : i < c.ifaces.length := by simpa using hc
    refine awp_skip ?_
    refine awp_seq ?_
    refine awp_block ?_
    refine awp_seq ?_
    refine awp_drawN 12 rfl (by kernel_rfl) ?_
    refine calm_e (w0 rfl) rfl (eff_fieldAddr rfl rfl rfl) ?_
    refine calm_load_ptr 0 (w0 rfl) rfl rfl rfl rfl rfl ld_one ?_
    refine calm_e (w0 rfl) rfl (eff_move rfl rfl) ?_
    refine calm_e (w0 rfl) rfl (eff_arith rfl rfl rfl (arith_sub (by first | omega | (simp only [List.length_map]; omega)))) ?_
    refine calm_e (w0 rfl) rfl (eff_indexAddr_lst rfl rfl rfl (len_map (fun _ => rfl)) (by first | omega | (simp only [List.length_map]; omega)) (by first | omega | (simp only [List.length_map]; omega))) ?_
    refine calm_e (w0 rfl) rfl (eff_loadE rfl rfl (map_get (by first | assumption | omega)) ld_one) ?_
    refine calm_e (w0 rfl) rfl (eff_fieldAddr rfl rfl rfl) ?_
    refine calm_load_ptr 0 (w0 rfl) rfl rfl rfl rfl rfl ld_one ?_
    refine calm_e (w0 rfl) rfl (eff_move rfl rfl) ?_
    refine calm_e (w0 rfl) rfl (eff_indexAddr_lst rfl rfl rfl (len_map (fun _ => rfl)) (by first | omega | (simp only [List.length_map]; omega)) (by first | omega | (simp only [List.length_map]; omega))) ?_
    refine calm_e (w0 rfl) rfl (eff_loadE rfl rfl (map_get (by first | assumption | omega)) ld_one) ?_
    refine calm_e (w0 rfl) rfl (eff_scmp rfl rfl rfl rfl) ?_
    refine .done ?_
    refine aops_nil ?_
    refine awp_cond rfl ?_ ?_
    · intro hc
      have hg : gI c i = false := by rw [gI, ← getD_pred hJ.1 hi (by omega), ← getD_at hi]; exact notT hc
      refine awp_seq ?_
      refine awp_region ?_
      refine aops_e (w0 rfl) rfl (eff_assign rfl rfl) ?_
      refine aops_nil ?_
      refine awp_ret ?_
      exact retq rfl (res_tmp rfl res_nil) (gb (by unfold orderedC; rw [allB_false hi hJ.1 hg]; rfl))
    · intro hc
      have hg : gI c i = true := by rw [gI, ← getD_pred hJ.1 hi (by omega), ← getD_at hi]; exact notF hc
      refine awp_skip ?_
      refine awp_region ?_
      refine aops_e (w0 rfl) rfl (eff_move rfl rfl) ?_
      refine aops_e (w0 rfl) rfl (eff_arith rfl rfl rfl (arith_add (by first | omega | (simp only [List.length_map]; omega)))) ?_
      refine aops_e (w0 rfl) rfl (eff_assign rfl rfl) ?_
      refine aops_nil ?_
      refine ⟨i + 1, ⟨by omega, fun k h1 h2 => by rcases Nat.lt_succ_iff_lt_or_eq.1 h1 with h | h; exact hJ.2 k h h2; rw [h]; exact hg⟩, (by omega), ?_⟩
      exact weak_pick [0] ⟨rfl, rfl, trivial⟩ rfl (by decide) rfl rfl
  · intro hc
    have hi : ¬ i < c.ifaces.length := by simpa using hc
    have all4 := allB_true hJ.2 (by omega : c.ifaces.length ≤ i)
    refine awp_exit ?_
    refine awp_seq ?_
    refine awp_seq ?_
    refine awp_region ?_
    refine aops_e (w0 rfl) rfl (eff_assign rfl rfl) ?_
    refine aops_nil ?_
    refine awp_block ?_
    refine awp_loopJ (α := Nat) (fun i => ⟨[(4, iA i), (1, .ptr id1 7 0 0)], [(id1, .rows 54 7 [c.cells])], [], 66⟩) (fun i => 0 < i ∧ ∀ k, k < i → 0 < k → gF c k = true) (fun i => c.fields.length - i) 1 ⟨by omega, fun k h1 h2 => by omega⟩ ?_ ?_
    · exact weak_pick [0] ⟨rfl, rfl, trivial⟩ rfl (by decide) rfl rfl
    rintro i hJ
    refine awp_seq ?_
    refine awp_seq ?_
    refine awp_region ?_
    refine aops_e (w0 rfl) rfl (eff_move rfl rfl) ?_
    refine aops_e (w0 rfl) rfl (eff_fieldAddr rfl rfl rfl) ?_
    refine aops_load_ptr 0 (w0 rfl) rfl rfl rfl rfl rfl ld_one ?_
    refine aops_e (w0 rfl) rfl (eff_len rfl rfl rfl rfl) ?_
    refine aops_e (w0 rfl) rfl (eff_icmp rfl rfl rfl rfl) ?_
    refine aops_nil ?_
    refine awp_cond rfl ?_ ?_
    · intro hc
      have hi : i < c.fields.length := by simpa using hc
      refine awp_skip ?_
      refine awp_seq ?_
      refine awp_block ?_
      refine awp_seq ?_
      refine awp_drawM [0, 1, 0, 4, 15, 31, 63, 0, 128, 0, 896, 1920, 3968, 8191] 14 rfl (by kernel_rfl) ?_
      refine calm_e (w0 rfl) rfl (eff_fieldAddr rfl rfl rfl) ?_
      refine calm_load_ptr 0 (w0 rfl) rfl rfl rfl rfl rfl ld_one ?_
      refine calm_e (w0 rfl) rfl (eff_move rfl rfl) ?_
      refine calm_e (w0 rfl) rfl (eff_arith rfl rfl rfl (arith_sub (by first | omega | (simp only [List.length_map]; omega)))) ?_
      refine calm_e (w0 rfl) rfl (eff_indexAddr_lst rfl rfl rfl (len_map (fun _ => rfl)) (by first | omega | (simp only [List.length_map]; omega)) (by first | omega | (simp only [List.length_map]; omega))) ?_
      refine calm_e (w0 rfl) rfl (eff_fieldAddr rfl rfl rfl) ?_
      refine calm_e (w0 rfl) rfl (eff_loadE rfl rfl (map_get (by first | assumption | omega)) ld_one) ?_
      refine calm_e (w0 rfl) rfl (eff_fieldAddr rfl rfl rfl) ?_
      refine calm_load_ptr 0 (w0 rfl) rfl rfl rfl rfl rfl ld_one ?_
      refine calm_e (w0 rfl) rfl (eff_move rfl rfl) ?_
      refine calm_e (w0 rfl) rfl (eff_indexAddr_lst rfl rfl rfl (len_map (fun _ => rfl)) (by first | omega | (simp only [List.length_map]; omega)) (by first | omega | (simp only [List.length_map]; omega))) ?_
      refine calm_e (w0 rfl) rfl (eff_fieldAddr rfl rfl rfl) ?_
      refine calm_e (w0 rfl) rfl (eff_loadE rfl rfl (map_get (by first | assumption | omega)) ld_one) ?_
      refine calm_e (w0 rfl) rfl (eff_scmp rfl rfl rfl rfl) ?_
      refine .done ?_
      refine aops_nil ?_
      refine awp_cond rfl ?_ ?_
      · intro hc
        have hg : gF c i = false := by rw [gF, ← getD_pred hJ.1 hi (by omega), ← getD_at hi]; exact notT hc
        refine awp_seq ?_
        refine awp_region ?_
        refine aops_e (w0 rfl) rfl (eff_assign rfl rfl) ?_
        refine aops_nil ?_
        refine awp_ret ?_
        exact retq rfl (res_tmp rfl res_nil) (gb (by unfold orderedC; rw [all4, allB_false hi hJ.1 hg]; rfl))
      · intro hc
        have hg : gF c i = true := by rw [gF, ← getD_pred hJ.1 hi (by omega), ← getD_at hi]; exact notF hc
        refine awp_skip ?_
        refine awp_region ?_
        refine aops_e (w0 rfl) rfl (eff_move rfl rfl) ?_
        refine aops_e (w0 rfl) rfl (eff_arith rfl rfl rfl (arith_add (by first | omega | (simp only [List.length_map]; omega)))) ?_
        refine aops_e (w0 rfl) rfl (eff_assign rfl rfl) ?_
        refine aops_nil ?_
        refine ⟨i + 1, ⟨by omega, fun k h1 h2 => by rcases Nat.lt_succ_iff_lt_or_eq.1 h1 with h | h; exact hJ.2 k h h2; rw [h]; exact hg⟩, (by omega), ?_⟩
        exact weak_pick [0] ⟨rfl, rfl, trivial⟩ rfl (by decide) rfl rfl
    · intro hc
      have hi : ¬ i < c.fields.length := by simpa using hc
      have all9 := allB_true hJ.2 (by omega : c.fields.length ≤ i)
      refine awp_exit ?_
      refine awp_seq ?_
      refine awp_seq ?_
      refine awp_region ?_
      refine aops_e (w0 rfl) rfl (eff_assign rfl rfl) ?_
      refine aops_nil ?_
      refine awp_block ?_
      refine awp_loopJ (α := Nat) (fun i => ⟨[(5, iA i), (1, .ptr id1 7 0 0)], [(id1, .rows 54 7 [c.cells])], [], 66⟩) (fun i => 0 < i ∧ ∀ k, k < i → 0 < k → gM c k = true) (fun i => c.methods.length - i) 1 ⟨by omega, fun k h1 h2 => by omega⟩ ?_ ?_
      · exact weak_pick [0] ⟨rfl, rfl, trivial⟩ rfl (by decide) rfl rfl
      rintro i hJ
      refine awp_seq ?_
      refine awp_seq ?_
      refine awp_region ?_
      refine aops_e (w0 rfl) rfl (eff_move rfl rfl) ?_
      refine aops_e (w0 rfl) rfl (eff_fieldAddr rfl rfl rfl) ?_
      refine aops_load_ptr 0 (w0 rfl) rfl rfl rfl rfl rfl ld_one ?_
      refine aops_e (w0 rfl) rfl (eff_len rfl rfl rfl rfl) ?_
      refine aops_e (w0 rfl) rfl (eff_icmp rfl rfl rfl rfl) ?_
      refine aops_nil ?_
      refine awp_cond rfl ?_ ?_
      · intro hc
        have hi : i < c.methods.length := by simpa using hc
        refine awp_skip ?_
        refine awp_seq ?_
        refine awp_block ?_
        refine awp_seq ?_
        refine awp_drawM [0, 1, 0, 4, 15, 31, 0, 64, 0, 448, 960, 2047, 4095] 13 rfl (by kernel_rfl) ?_
        refine calm_e (w0 rfl) rfl (eff_fieldAddr rfl rfl rfl) ?_
        refine calm_load_ptr 0 (w0 rfl) rfl rfl rfl rfl rfl ld_one ?_
        refine calm_e (w0 rfl) rfl (eff_move rfl rfl) ?_
        refine calm_e (w0 rfl) rfl (eff_arith rfl rfl rfl (arith_sub (by first | omega | (simp only [List.length_map]; omega)))) ?_
        refine calm_e (w0 rfl) rfl (eff_indexAddr_lst rfl rfl rfl (len_map (fun _ => rfl)) (by first | omega | (simp only [List.length_map]; omega)) (by first | omega | (simp only [List.length_map]; omega))) ?_
        refine calm_e (w0 rfl) rfl (eff_loadE rfl rfl (map_get (by first | assumption | omega)) (ld_agg (Nat.le_of_ble_eq_true rfl))) ?_
        refine calm_e (w0 rfl) rfl (eff_fieldAddr rfl rfl rfl) ?_
        refine calm_load_ptr 0 (w0 rfl) rfl rfl rfl rfl rfl ld_one ?_
        refine calm_e (w0 rfl) rfl (eff_move rfl rfl) ?_
        refine calm_e (w0 rfl) rfl (eff_indexAddr_lst rfl rfl rfl (len_map (fun _ => rfl)) (by first | omega | (simp only [List.length_map]; omega)) (by first | omega | (simp only [List.length_map]; omega))) ?_
        refine calm_e (w0 rfl) rfl (eff_loadE rfl rfl (map_get (by first | assumption | omega)) (ld_agg (Nat.le_of_ble_eq_true rfl))) ?_
        refine calm_e (w0 rfl) rfl (eff_call [] rfl rfl rfl (c_below08 _ _) List.nodup_nil) ?_
        refine calm_e (w0 rfl) rfl (eff_not rfl rfl) ?_
        refine .done ?_
        refine aops_nil ?_
        refine awp_cond rfl ?_ ?_
        · intro hc
          have hg : gM c i = false := by rw [gM, ← getD_pred hJ.1 hi (by omega), ← getD_at hi]; exact notT hc
          refine awp_seq ?_
          refine awp_region ?_
          refine aops_e (w0 rfl) rfl (eff_assign rfl rfl) ?_
          refine aops_nil ?_
          refine awp_ret ?_
          exact retq rfl (res_tmp rfl res_nil) (gb (by unfold orderedC; rw [all4, all9, allB_false hi hJ.1 hg]; rfl))
        · intro hc
          have hg : gM c i = true := by rw [gM, ← getD_pred hJ.1 hi (by omega), ← getD_at hi]; exact notF hc
          refine awp_skip ?_
          refine awp_region ?_
          refine aops_e (w0 rfl) rfl (eff_move rfl rfl) ?_
          refine aops_e (w0 rfl) rfl (eff_arith rfl rfl rfl (arith_add (by first | omega | (simp only [List.length_map]; omega)))) ?_
          refine aops_e (w0 rfl) rfl (eff_assign rfl rfl) ?_
          refine aops_nil ?_
          refine ⟨i + 1, ⟨by omega, fun k h1 h2 => by rcases Nat.lt_succ_iff_lt_or_eq.1 h1 with h | h; exact hJ.2 k h h2; rw [h]; exact hg⟩, (by omega), ?_⟩
          exact weak_pick [0] ⟨rfl, rfl, trivial⟩ rfl (by decide) rfl rfl
      · intro hc
        have hi : ¬ i < c.methods.length := by simpa using hc
        have all14 := allB_true hJ.2 (by omega : c.methods.length ≤ i)
        refine awp_exit ?_
        refine awp_seq ?_
        refine awp_region ?_
        refine aops_e (w0 rfl) rfl (eff_assign rfl rfl) ?_
        refine aops_nil ?_
        refine awp_ret ?_
        exact retq rfl (res_tmp rfl res_nil) (gb (by unfold orderedC; rw [all4, all9, all14]; rfl))

theorem w_inOrder (p : Prog) (hp : p.ok) : ACalls Try.prog 38 [p.av] [] (SomeB) := by
  have hb := hp.classes.1
  simp only [small] at hb
  refine acalls_of (n := 38) Try.func38 rfl (by decide +kernel) rfl rfl ?_
  refine awp_seq ?_
  refine awp_region ?_
  refine aops_n (w0 rfl) rfl (fun id => eff_box id rfl rfl rfl rfl rfl) (fun id1 => ?_)
  refine aops_e (w0 rfl) rfl (eff_assign rfl rfl) ?_
  refine aops_nil ?_
  refine awp_seq ?_
  refine awp_seq ?_
  refine awp_region ?_
  refine aops_e (w0 rfl) rfl (eff_assign rfl rfl) ?_
  refine aops_nil ?_
  refine awp_block ?_
  refine awp_loopJ (α := Nat) (fun i => ⟨[(3, iA i), (1, .ptr id1 5 0 0)], [(id1, .rows 27 5 [p.cells])], [], 38⟩) (fun i => True) (fun i => p.classes.length - i) 0 trivial ?_ ?_
  · exact weak_pick [0] ⟨rfl, rfl, trivial⟩ rfl (by decide) rfl rfl
  rintro i hJ
  refine awp_seq ?_
  refine awp_seq ?_
  refine awp_region ?_
  refine aops_e (w0 rfl) rfl (eff_move rfl rfl) ?_
  refine aops_e (w0 rfl) rfl (eff_fieldAddr rfl rfl rfl) ?_
  refine aops_load_ptr 0 (w0 rfl) rfl rfl rfl rfl rfl ld_one ?_
  refine aops_e (w0 rfl) rfl (eff_len rfl rfl rfl rfl) ?_
  refine aops_e (w0 rfl) rfl (eff_icmp rfl rfl rfl rfl) ?_
  refine aops_nil ?_
  refine awp_cond rfl ?_ ?_
  · intro hc
    have hi : i < p.classes.length := by simpa using hc
    refine awp_skip ?_
    refine awp_seq ?_
    refine awp_block ?_
    refine awp_seq ?_
    refine awp_drawM [0, 1, 0, 7, 15, 31, 63, 127, 255, 511, 1023, 2047, 4095, 2047, 10239, 32767, 65535, 131071, 2047, 264191, 2047, 1837055, 3934207, 8128511, 16777215, 33554431, 67108863] 27 rfl (by kernel_rfl) ?_
    refine calm_e (w0 rfl) rfl (eff_fieldAddr rfl rfl rfl) ?_
    refine calm_load_ptr 0 (w0 rfl) rfl rfl rfl rfl rfl ld_one ?_
    refine calm_e (w0 rfl) rfl (eff_move rfl rfl) ?_
    refine calm_e (w0 rfl) rfl (eff_indexAddr_lst rfl rfl rfl (len_map (fun _ => rfl)) (by first | omega | (simp only [List.length_map]; omega)) (by first | omega | (simp only [List.length_map]; omega))) ?_
    refine calm_e (w0 rfl) rfl (eff_loadE rfl rfl (map_get (by first | assumption | omega)) (ld_agg (Nat.le_of_ble_eq_true rfl))) ?_
    refine calm_e (w0 rfl) rfl (eff_call [] rfl rfl rfl (c_ordered _ (hp.classes.2 _ (List.getElem_mem hi))) List.nodup_nil) ?_
    refine calm_e (w0 rfl) rfl (eff_not rfl rfl) ?_
    refine calm_e (w0 rfl) rfl (eff_move rfl rfl) ?_
    refine calm_g (wF rfl rfl rfl rfl) rfl (fun hg => (eff_move rfl rfl)) ?_
    refine calm_g (wF rfl rfl rfl rfl) rfl (fun hg => (eff_icmp rfl (ev_g hg rfl) rfl rfl)) ?_
    refine calm_g (wF rfl rfl rfl rfl) rfl (fun hg => (eff_move rfl (ev_g hg rfl))) ?_
    refine calm_g (wTg rfl rfl rfl rfl) rfl (fun hg => (eff_fieldAddr rfl rfl rfl)) ?_
    refine calm_gload 0 (wTg rfl rfl rfl rfl) rfl rfl (fun hg => (ev_g hg rfl)) rfl rfl ld_one ?_
    refine calm_g (wTg rfl rfl rfl rfl) rfl (fun hg => (eff_move rfl rfl)) ?_
    refine calm_g (wTg rfl rfl rfl rfl) rfl (fun hg => (eff_arith rfl (ev_g hg rfl) rfl (arith_sub (by first | omega | (simp only [List.length_map]; omega))))) ?_
    refine calm_g (wTg rfl rfl rfl rfl) rfl (fun hg => (eff_indexAddr_lst rfl (ev_g hg rfl) (ev_g hg rfl) (len_map (fun _ => rfl)) (by (try simp at hg) <;> first | omega | (simp only [List.length_map]; omega)) (by (try simp at hg) <;> first | omega | (simp only [List.length_map]; omega)))) ?_
    refine calm_g (wTg rfl rfl rfl rfl) rfl (fun hg => (eff_fieldAddr rfl (ev_g hg rfl) rfl)) ?_
    refine calm_g (wTg rfl rfl rfl rfl) rfl (fun hg => (eff_loadE rfl (ev_g hg rfl) (map_getD (by (try simp at hg) <;> first | assumption | omega)) ld_one)) ?_
    refine calm_g (wTg rfl rfl rfl rfl) rfl (fun hg => (eff_fieldAddr rfl rfl rfl)) ?_
    refine calm_gload 0 (wTg rfl rfl rfl rfl) rfl rfl (fun hg => (ev_g hg rfl)) rfl rfl ld_one ?_
    refine calm_g (wTg rfl rfl rfl rfl) rfl (fun hg => (eff_move rfl rfl)) ?_
    refine calm_g (wTg rfl rfl rfl rfl) rfl (fun hg => (eff_indexAddr_lst rfl (ev_g hg rfl) (ev_g hg rfl) (len_map (fun _ => rfl)) (by (try simp at hg) <;> first | omega | (simp only [List.length_map]; omega)) (by (try simp at hg) <;> first | omega | (simp only [List.length_map]; omega)))) ?_
    refine calm_g (wTg rfl rfl rfl rfl) rfl (fun hg => (eff_fieldAddr rfl (ev_g hg rfl) rfl)) ?_
    refine calm_g (wTg rfl rfl rfl rfl) rfl (fun hg => (eff_loadE rfl (ev_g hg rfl) (map_getD (by (try simp at hg) <;> first | assumption | omega)) ld_one)) ?_
    refine calm_g (wTg rfl rfl rfl rfl) rfl (fun hg => (eff_scmp rfl (ev_g hg rfl) (ev_g hg rfl) rfl)) ?_
    refine calm_g (wF rfl rfl rfl rfl) rfl (fun hg => (eff_and rfl (ev_g hg rfl) rfl (fun h => by first | (simp [h, hg]; done) | (simp_all; done)))) ?_
    refine calm_e (w0 rfl) rfl (eff_or rfl rfl rfl (fun h => by rw [h]; rfl)) ?_
    refine .done ?_
    refine aops_nil ?_
    refine awp_cond rfl ?_ ?_
    · intro hc
      refine awp_seq ?_
      refine awp_region ?_
      refine aops_e (w0 rfl) rfl (eff_assign rfl rfl) ?_
      refine aops_nil ?_
      refine awp_ret ?_
      exact retq rfl (res_tmp rfl res_nil) gsomeB
    · intro hc
      refine awp_skip ?_
      refine awp_region ?_
      refine aops_e (w0 rfl) rfl (eff_move rfl rfl) ?_
      refine aops_e (w0 rfl) rfl (eff_arith rfl rfl rfl (arith_add (by first | omega | (simp only [List.length_map]; omega)))) ?_
      refine aops_e (w0 rfl) rfl (eff_assign rfl rfl) ?_
      refine aops_nil ?_
      refine ⟨i + 1, trivial, (by omega), ?_⟩
      exact weak_pick [0] ⟨rfl, rfl, trivial⟩ rfl (by decide) rfl rfl
  · intro hc
    have hi : ¬ i < p.classes.length := by simpa using hc
    refine awp_exit ?_
    refine awp_seq ?_
    refine awp_region ?_
    refine aops_e (w0 rfl) rfl (eff_assign rfl rfl) ?_
    refine aops_nil ?_
    refine awp_ret ?_
    exact retq rfl (res_tmp rfl res_nil) gsomeB

theorem w_right (p : Prog) (hp : p.ok) : ACalls Try.prog 24 [p.av] [] (SomeI) := by
  have hb := hp.classes.1
  simp only [small] at hb
  refine acalls_of (n := 27) Try.func24 rfl (by decide +kernel) rfl rfl ?_
  refine awp_seq ?_
  refine awp_region ?_
  refine aops_n (w0 rfl) rfl (fun id => eff_box id rfl rfl rfl rfl rfl) (fun id1 => ?_)
  refine aops_e (w0 rfl) rfl (eff_assign rfl rfl) ?_
  refine aops_nil ?_
  refine awp_seq ?_
  refine awp_seq ?_
  refine awp_region ?_
  refine aops_load_ptr 0 (w0 rfl) rfl rfl rfl rfl rfl (ld_agg (Nat.le_of_ble_eq_true rfl)) ?_
  refine aops_callS (w0 rfl) rfl rfl rfl rfl (w_long p hp) (fun v2 hv2 => ?_)
  refine aops_nil ?_
  refine awp_cond rfl ?_ ?_
  · intro hc
    refine awp_seq ?_
    refine awp_region ?_
    refine aops_e (w0 rfl) rfl (eff_assign rfl rfl) ?_
    refine aops_nil ?_
    refine awp_ret ?_
    exact retq rfl (res_tmp rfl res_nil) gsomeI
  · intro hc
    refine awp_skip ?_
    refine awp_seq ?_
    refine awp_seq ?_
    refine awp_region ?_
    refine aops_e (w0 rfl) rfl (eff_assign rfl rfl) ?_
    refine aops_nil ?_
    refine awp_block ?_
    refine awp_loopJ (α := Nat) (fun i => ⟨[(3, iA i), (1, .ptr id1 5 0 0)], [(id1, .rows 27 5 [p.cells])], [], 27⟩) (fun i => True) (fun i => p.classes.length - i) 0 trivial ?_ ?_
    · exact weak_pick [0] ⟨rfl, rfl, trivial⟩ rfl (by decide) rfl rfl
    rintro i hJ
    refine awp_seq ?_
    refine awp_seq ?_
    refine awp_region ?_
    refine aops_e (w0 rfl) rfl (eff_move rfl rfl) ?_
    refine aops_e (w0 rfl) rfl (eff_fieldAddr rfl rfl rfl) ?_
    refine aops_load_ptr 0 (w0 rfl) rfl rfl rfl rfl rfl ld_one ?_
    refine aops_e (w0 rfl) rfl (eff_len rfl rfl rfl rfl) ?_
    refine aops_e (w0 rfl) rfl (eff_icmp rfl rfl rfl rfl) ?_
    refine aops_nil ?_
    refine awp_cond rfl ?_ ?_
    · intro hc
      have hi : i < p.classes.length := by simpa using hc
      refine awp_skip ?_
      refine awp_seq ?_
      refine awp_block ?_
      refine awp_seq ?_
      refine awp_region ?_
      refine aops_e (w0 rfl) rfl (eff_fieldAddr rfl rfl rfl) ?_
      refine aops_load_ptr 0 (w0 rfl) rfl rfl rfl rfl rfl ld_one ?_
      refine aops_e (w0 rfl) rfl (eff_move rfl rfl) ?_
      refine aops_e (w0 rfl) rfl (eff_indexAddr_lst rfl rfl rfl (len_map (fun _ => rfl)) (by first | omega | (simp only [List.length_map]; omega)) (by first | omega | (simp only [List.length_map]; omega))) ?_
      refine aops_e (w0 rfl) rfl (eff_loadE rfl rfl (map_get (by first | assumption | omega)) (ld_agg (Nat.le_of_ble_eq_true rfl))) ?_
      refine aops_callS (w0 rfl) rfl rfl rfl rfl (w_cls _ (hp.classes.2 _ (List.getElem_mem hi))) (fun v3 hv3 => ?_)
      refine aops_e (w0 rfl) rfl (eff_not rfl rfl) ?_
      refine aops_nil ?_
      refine awp_cond rfl ?_ ?_
      · intro hc
        refine awp_seq ?_
        refine awp_region ?_
        refine aops_e (w0 rfl) rfl (eff_assign rfl rfl) ?_
        refine aops_nil ?_
        refine awp_ret ?_
        exact retq rfl (res_tmp rfl res_nil) gsomeI
      · intro hc
        refine awp_skip ?_
        refine awp_region ?_
        refine aops_e (w0 rfl) rfl (eff_move rfl rfl) ?_
        refine aops_e (w0 rfl) rfl (eff_arith rfl rfl rfl (arith_add (by first | omega | (simp only [List.length_map]; omega)))) ?_
        refine aops_e (w0 rfl) rfl (eff_assign rfl rfl) ?_
        refine aops_nil ?_
        refine ⟨i + 1, trivial, (by omega), ?_⟩
        exact weak_pick [0] ⟨rfl, rfl, trivial⟩ rfl (by decide) rfl rfl
    · intro hc
      have hi : ¬ i < p.classes.length := by simpa using hc
      refine awp_exit ?_
      refine awp_seq ?_
      refine awp_seq ?_
      refine awp_region ?_
      refine aops_e (w0 rfl) rfl (eff_fieldAddr rfl rfl rfl) ?_
      refine aops_load_ptr 0 (w0 rfl) rfl rfl rfl rfl rfl (ld_agg (Nat.le_of_ble_eq_true rfl)) ?_
      refine aops_callS (w0 rfl) rfl rfl rfl rfl (w_entry p.entry) (fun v4 hv4 => ?_)
      refine aops_e (w0 rfl) rfl (eff_not rfl rfl) ?_
      refine aops_nil ?_
      refine awp_cond rfl ?_ ?_
      · intro hc
        refine awp_seq ?_
        refine awp_region ?_
        refine aops_e (w0 rfl) rfl (eff_assign rfl rfl) ?_
        refine aops_nil ?_
        refine awp_ret ?_
        exact retq rfl (res_tmp rfl res_nil) gsomeI
      · intro hc
        refine awp_skip ?_
        refine awp_seq ?_
        refine awp_seq ?_
        refine awp_region ?_
        refine aops_load_ptr 0 (w0 rfl) rfl rfl rfl rfl rfl (ld_agg (Nat.le_of_ble_eq_true rfl)) ?_
        refine aops_callS (w0 rfl) rfl rfl rfl rfl (w_inOrder p hp) (fun v5 hv5 => ?_)
        refine aops_e (w0 rfl) rfl (eff_not rfl rfl) ?_
        refine aops_nil ?_
        refine awp_cond rfl ?_ ?_
        · intro hc
          refine awp_seq ?_
          refine awp_region ?_
          refine aops_e (w0 rfl) rfl (eff_assign rfl rfl) ?_
          refine aops_nil ?_
          refine awp_ret ?_
          exact retq rfl (res_tmp rfl res_nil) gsomeI
        · intro hc
          refine awp_skip ?_
          refine awp_seq ?_
          refine awp_region ?_
          refine aops_e (w0 rfl) rfl (eff_assign rfl rfl) ?_
          refine aops_nil ?_
          refine awp_ret ?_
          exact retq rfl (res_tmp rfl res_nil) gsomeI

end Go.Sx
