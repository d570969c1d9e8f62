/- YtidniaofdcmpfaaGreatRaB6: texts of this claim, one behind the other. -/
import Derived.Test.YtidniaofdcmpfaaGreatRaB5
set_option linter.unusedVariables false
set_option linter.unusedSimpArgs false
set_option linter.unusedSectionVars false
set_option linter.unnecessarySimpa false
namespace Go.Sx
open Go Go.Proofs
theorem Zf4 (n m : Int) : ACalls Tryz.prog 173 [iA n, iA m] [] (Gives (bA (wthI n m))) := by
 refine Ze (n := 12) Tryz.func173 rfl (by decide +kernel) rfl rfl ?_
 refine qS (qR (qA (qN (qS (qR (qM ?_))))))
 refine qe eI ?_
 refine qM (qTM (qTM ?_))
 refine Z9 (wT rfl rfl rfl rfl) rfl (fun hg => (Zn rfl (Za hg rfl) (Za hg rfl) rfl)) ?_
 refine qe (Zq rfl rfl rfl (fun h => h)) ?_
 refine qA (qN (qE ?_))
 exact Z0k rfl (Z4 rfl Z3) (gb rfl)
theorem Zex (n : Int) : ACalls Tryz.prog 171 [iA n] [] (Gives (bA (isCallO n))) := by
 refine Ze (n := 13) Tryz.func171 rfl (by decide +kernel) rfl rfl ?_
 refine qS (qR (qA (qN (qS (qR (qM ?_))))))
 refine qe eI ?_
 refine qM (qFM ?_)
 refine Z9 (wF rfl rfl rfl rfl) rfl (fun hg => (Zn rfl (Za hg rfl) rfl rfl)) ?_
 refine qe (Z0h rfl rfl rfl (fun h => by rw [h]; rfl)) ?_
 refine qM (qFM ?_)
 refine Z9 (wF rfl rfl rfl rfl) rfl (fun hg => (Zn rfl (Za hg rfl) rfl rfl)) ?_
 refine qe (Z0h rfl rfl rfl (fun h => by rw [h]; rfl)) ?_
 refine qA (qN (qE ?_))
 exact Z0k rfl (Z4 rfl Z3) (gb rfl)
theorem Zha (n : Int) : ACalls Tryz.prog 132 [uA n] [] (Gives (bA (letW n))) := by
 refine Ze (n := 33) Tryz.func132 rfl (by decide +kernel) rfl rfl ?_
 refine qS (qR (qA (qN (qS (qR (qM ?_))))))
 refine qe eI ?_
 refine qM (qTM ?_)
 refine Z9 (wT rfl rfl rfl rfl) rfl (fun hg => (Zn rfl (Za hg rfl) rfl rfl)) ?_
 refine qe (Zq rfl rfl rfl (fun h => h)) ?_
 refine qM (qFM ?_)
 refine Z9 (wF rfl rfl rfl rfl) rfl (fun hg => (Zn rfl (Za hg rfl) rfl rfl)) ?_
 refine Z9 (wF rfl rfl rfl rfl) rfl (fun hg => (Z03 rfl (Za hg rfl))) ?_
 refine Z9 (wTg rfl rfl rfl rfl) rfl (fun hg => (Z03 rfl rfl)) ?_
 refine Z9 (wTg rfl rfl rfl rfl) rfl (fun hg => (Zn rfl (Za hg rfl) rfl rfl)) ?_
 refine Z9 (wF rfl rfl rfl rfl) rfl (fun hg => (Zq rfl (Za hg rfl) rfl (fun h => by first | (simp [h, hg]; done) | (rw [hg, h]; rfl) | (simp_all; done)))) ?_
 refine qe (Z0h rfl rfl rfl (fun h => by rw [h]; rfl)) ?_
 refine qM (qFM ?_)
 refine Z9 (wF rfl rfl rfl rfl) rfl (fun hg => (Zn rfl (Za hg rfl) rfl rfl)) ?_
 refine Z9 (wF rfl rfl rfl rfl) rfl (fun hg => (Z03 rfl (Za hg rfl))) ?_
 refine Z9 (wTg rfl rfl rfl rfl) rfl (fun hg => (Z03 rfl rfl)) ?_
 refine Z9 (wTg rfl rfl rfl rfl) rfl (fun hg => (Zn rfl (Za hg rfl) rfl rfl)) ?_
 refine Z9 (wF rfl rfl rfl rfl) rfl (fun hg => (Zq rfl (Za hg rfl) rfl (fun h => by first | (simp [h, hg]; done) | (rw [hg, h]; rfl) | (simp_all; done)))) ?_
 refine qe (Z0h rfl rfl rfl (fun h => by rw [h]; rfl)) ?_
 refine qM (qFM ?_)
 refine Z9 (wF rfl rfl rfl rfl) rfl (fun hg => (Zn rfl (Za hg rfl) rfl rfl)) ?_
 refine qe (Z0h rfl rfl rfl (fun h => by rw [h]; rfl)) ?_
 refine qM (qFM ?_)
 refine Z9 (wF rfl rfl rfl rfl) rfl (fun hg => (Zn rfl (Za hg rfl) rfl rfl)) ?_
 refine qe (Z0h rfl rfl rfl (fun h => by rw [h]; rfl)) ?_
 refine qA (qN (qE ?_))
 exact Z0k rfl (Z4 rfl Z3) (gb (by unfold letW; ac_rfl))
theorem Z2n (u : Str) (n : Int) (hs : small u.size) : ACalls Tryz.prog 172 [sA u, uA n] [] (Gives (bA (hasL u n))) := by
 unfold small at hs
 refine Ze (n := 17) Tryz.func172 rfl (by decide +kernel) rfl rfl ?_
 refine qS (qR (qA (qN (qS (qS (qR (qA (qN (qB ?_)))))))))
 refine Zk (α := Nat) (fun i => ⟨[(5, iA i), (0, sA u), (1, uA n)], [], [], 17⟩) (fun i => ∀ k, k < i → (byteAt u (k : Nat) == n) = false) (fun i => u.size - i) 0 (fun k h => by omega) ?_ ?_
 ·exact Zi [] ⟨rfl, rfl, rfl, trivial⟩ rfl (by decide) rfl rfl
 rintro i hJ
 refine qS (qS (qR (qM (qM ?_))))
 refine qe (Zs rfl rfl rfl rfl) ?_
 refine qe eI ?_
 refine qN ?_
 refine Z2 rfl ?_ ?_
 ·intro hc
  have hi : i < u.size := by simpa using hc
  refine qK (qS (qB (qS (qR (qM (qM ?_))))))
  refine qe (Z12 rfl rfl rfl (by first | omega | (simp only [List.length_map]; omega) | (simp only [List.length_map, List.length_drop]; omega)) (by first | omega | (simp only [List.length_map]; omega) | (simp only [List.length_map, List.length_drop]; omega))) ?_
  refine qM ?_
  refine qe eI ?_
  refine qN ?_
  refine Z2 rfl ?_ ?_
  ·intro hc
   have hq : (byteAt u (i : Nat) == n) = true := hc
   refine qS (qR (qA (qN (qE ?_))))
   exact Z0k rfl (Z4 rfl Z3) (gb (Zfo hi hq).symm)
  ·intro hc
   have hq : (byteAt u (i : Nat) == n) = false := hc
   refine qK (qR (qM ?_))
   refine qe (Zb rfl rfl rfl (Zp (by first | omega | (simp only [List.length_map]; omega)))) ?_
   refine qA (qN ?_)
   refine ⟨i + 1, (fun k h => by rcases Nat.lt_succ_iff_lt_or_eq.1 h with h | h; exact hJ k h; rw [h]; exact hq), (by omega), ?_⟩
   exact qp [] ⟨rfl, rfl, rfl, trivial⟩
 ·intro hc
  have hi : ¬ i < u.size := by simpa using hc
  refine qX (qS (qR (qA (qN (qE ?_)))))
  exact Z0k rfl (Z4 rfl Z3) (gb (Zhu fun k hk => hJ k (by omega)).symm)
theorem Zbt (u : Str) (n : Int) : ACalls Tryz.prog 106 [sA u, uA n] [] (Gives (bA (allW u n))) := by
 refine Ze (n := 32) Tryz.func106 rfl (by decide +kernel) rfl rfl ?_
 refine qS (qR (qA (qN (qS (qS (qR (qM ?_)))))))
 refine qe (Zs rfl rfl rfl rfl) ?_
 refine qe eI ?_
 refine qM (qFM ?_)
 refine Z9 (wF rfl rfl rfl rfl) rfl (fun hg => (Zs rfl (Za hg rfl) rfl rfl)) ?_
 refine Z9 (wF rfl rfl rfl rfl) rfl (fun hg => (Zn rfl (Za hg rfl) rfl rfl)) ?_
 refine qe (Z0h rfl rfl rfl (fun h => by rw [h]; rfl)) ?_
 refine qN ?_
 refine Z2 rfl ?_ ?_
 ·intro hc
  have hs : u.size < 1 ∨ 32 < u.size := by rcases orT hc with h | h <;> simp at h <;> omega
  refine qS (qR (qA (qN (qE ?_))))
  exact Z0k rfl (Z4 rfl Z3) (gb (Zbm hs).symm)
 ·intro hc
  have hs : ¬ (u.size < 1 ∨ 32 < u.size) := by have h := orF hc; simp at h; omega
  refine qK (qS (qS (qR (qA (qN (qB ?_))))))
  refine Zk (α := Nat) (fun i => ⟨[(5, iA i), (0, sA u), (1, uA n)], [], [], 32⟩) (fun i => ∀ k, k < i → (letW (byteAt u (k : Nat)) || (byteAt u (k : Nat) == n)) = true) (fun i => u.size - i) 0 (fun k h => by omega) ?_ ?_
  ·exact Zi [] ⟨rfl, rfl, rfl, trivial⟩ rfl (by decide) rfl rfl
  rintro i hJ
  refine qS (qS (qR (qM (qM ?_))))
  refine qe (Zs rfl rfl rfl rfl) ?_
  refine qe eI ?_
  refine qN ?_
  refine Z2 rfl ?_ ?_
  ·intro hc
   have hi : i < u.size := by simpa using hc
   refine qK (qS (qB (qS (qR (qM (qM ?_))))))
   refine qe (Z12 rfl rfl rfl (by first | omega | (simp only [List.length_map]; omega) | (simp only [List.length_map, List.length_drop]; omega)) (by first | omega | (simp only [List.length_map]; omega) | (simp only [List.length_map, List.length_drop]; omega))) ?_
   refine qe (Z7 [] rfl rfl rfl (Zha _) List.nodup_nil) ?_
   refine qe (Zy rfl rfl) ?_
   refine qM (qTM (qTM ?_))
   refine Z9 (wT rfl rfl rfl rfl) rfl (fun hg => (Z12 rfl (Za hg rfl) (Za hg rfl) (by (try simp at hg) <;> first | omega | (simp only [List.length_map]; omega) | (simp only [List.length_map, List.length_drop]; omega)) (by (try simp at hg) <;> first | omega | (simp only [List.length_map]; omega) | (simp only [List.length_map, List.length_drop]; omega)))) ?_
   refine qTM ?_
   refine Z9 (wT rfl rfl rfl rfl) rfl (fun hg => (Zn rfl (Za hg rfl) (Za hg rfl) rfl)) ?_
   refine qe (Zq rfl rfl rfl (fun h => h)) ?_
   refine qN ?_
   refine Z2 rfl ?_ ?_
   ·intro hc
    have hq : (letW (byteAt u (i : Nat)) || (byteAt u (i : Nat) == n)) = false := by revert hc; cases letW (byteAt u (i : Nat)) <;> cases h : (byteAt u (i : Nat) == n) <;> simp_all
    refine qS (qR (qA (qN (qE ?_))))
    exact Z0k rfl (Z4 rfl Z3) (gb (Ze2 hi hq).symm)
   ·intro hc
    have hq : (letW (byteAt u (i : Nat)) || (byteAt u (i : Nat) == n)) = true := by revert hc; cases letW (byteAt u (i : Nat)) <;> cases h : (byteAt u (i : Nat) == n) <;> simp_all
    refine qK (qR (qM ?_))
    refine qe (Zb rfl rfl rfl (Zp (by first | omega | (simp only [List.length_map]; omega)))) ?_
    refine qA (qN ?_)
    refine ⟨i + 1, (fun k h => by rcases Nat.lt_succ_iff_lt_or_eq.1 h with h | h; exact hJ k h; rw [h]; exact hq), (by omega), ?_⟩
    exact qp [] ⟨rfl, rfl, rfl, trivial⟩
  ·intro hc
   have hi : ¬ i < u.size := by simpa using hc
   refine qX (qS (qR (qA (qN (qE ?_)))))
   exact Z0k rfl (Z4 rfl Z3) (gb (Ze3 (by omega) (by omega) fun k hk => hJ k (by omega)).symm)
theorem Z3g (u : Str) : ACalls Tryz.prog 62 [sA u] [] (Gives (bA (clsW u))) := by
 refine Ze (n := 5) Tryz.func62 rfl (by decide +kernel) rfl rfl ?_
 refine qS (qR (qA (qN (qS (qR (qM ?_))))))
 refine qe (Z7 [] rfl rfl rfl (Zbt _ _) List.nodup_nil) ?_
 refine qA (qN (qE ?_))
 exact Z0k rfl (Z4 rfl Z3) (gb rfl)
theorem Z6w (u : Str) : ACalls Tryz.prog 63 [sA u] [] (Gives (bA (nameW u))) := by
 refine Ze (n := 9) Tryz.func63 rfl (by decide +kernel) rfl rfl ?_
 refine qS (qR (qA (qN (qS (qR (qM ?_))))))
 refine qe (Z0l rfl rfl rfl rfl) ?_
 refine qM (qFM ?_)
 refine Z9 (wF rfl rfl rfl rfl) rfl (fun hg => (Z7 [] rfl rfl (Zc (Za hg rfl) (Zc rfl Z01)) (Zbt _ _) List.nodup_nil)) ?_
 refine qe (Z0h rfl rfl rfl (fun h => by rw [h]; rfl)) ?_
 refine qA (qN (qE ?_))
 exact Z0k rfl (Z4 rfl Z3) (gb rfl)
theorem Zay (t : Ty) : ACalls Tryz.prog 69 [.agg t.cells] [] (Gives (bA (rightT t))) := by
 refine Ze (n := 18) Tryz.func69 rfl (by decide +kernel) rfl rfl ?_
 refine qS (qR ?_)
 refine Z04 (w0 rfl) rfl (fun id => Z0a id rfl rfl rfl rfl rfl) (fun id1 => ?_)
 refine qA (qN (qS (qR ?_)))
 refine qe (Z0 rfl rfl rfl) ?_
 refine qL 0 Z6 ?_
 refine qN (qB (qS (qS (qR ?_))))
 refine qe eI ?_
 refine qA (qN ?_)
 refine Z2 rfl ?_ ?_
 ·intro hc
  simp at hc
  refine qK ?_
  refine Z2 rfl ?_ ?_
  ·intro hc
   simp at hc
   refine qS (qR ?_)
   refine qe (Z0 rfl rfl rfl) ?_
   refine qL 0 Z6 ?_
   refine qe (Z0l rfl rfl rfl rfl) ?_
   refine qA (qN (qE ?_))
   exact Z0k rfl (Z4 rfl Z3) (gb (by unfold rightT; first | (rw [if_pos (by omega)]; done) | (show beqS t.cls zS = _; rw [if_neg (by omega), decide_eq_true (by omega), decide_eq_true (by omega)]; simp; done) | (rw [if_neg (by omega)]; generalize beqS t.cls zS = b; cases b <;> simp <;> omega)))
  ·intro hd; exfalso; simp_all
 ·intro hc
  simp at hc
  refine qS (qR ?_)
  refine qe eI ?_
  refine qA (qN ?_)
  refine Z2 rfl ?_ ?_
  ·intro hc
   simp at hc
   refine qK ?_
   refine Z2 rfl ?_ ?_
   ·intro hc
    simp at hc
    refine qS (qR ?_)
    refine qe (Z0 rfl rfl rfl) ?_
    refine qL 0 Z6 ?_
    refine qe (Z0l rfl rfl rfl rfl) ?_
    refine qA (qN (qE ?_))
    exact Z0k rfl (Z4 rfl Z3) (gb (by unfold rightT; first | (rw [if_pos (by omega)]; done) | (show beqS t.cls zS = _; rw [if_neg (by omega), decide_eq_true (by omega), decide_eq_true (by omega)]; simp; done) | (rw [if_neg (by omega)]; generalize beqS t.cls zS = b; cases b <;> simp <;> omega)))
   ·intro hd; exfalso; simp_all
  ·intro hc
   simp at hc
   refine qR ?_
   refine qe eI ?_
   refine qA (qN ?_)
   refine Z2 rfl ?_ ?_
   ·intro hc
    simp at hc
    refine qS (qR ?_)
    refine qe (Z0 rfl rfl rfl) ?_
    refine qL 0 Z6 ?_
    refine qe (Z0l rfl rfl rfl rfl) ?_
    refine qA (qN (qE ?_))
    exact Z0k rfl (Z4 rfl Z3) (gb (by unfold rightT; first | (rw [if_pos (by omega)]; done) | (show beqS t.cls zS = _; rw [if_neg (by omega), decide_eq_true (by omega), decide_eq_true (by omega)]; simp; done) | (rw [if_neg (by omega)]; generalize beqS t.cls zS = b; cases b <;> simp <;> omega)))
   ·intro hc
    simp at hc
    refine qS (qS (qR ?_))
    refine qe eI ?_
    refine qA (qN ?_)
    refine Z2 rfl ?_ ?_
    ·intro hc
     simp at hc
     refine qK ?_
     refine Z2 rfl ?_ ?_
     ·intro hc
      simp at hc
      refine qS (qR ?_)
      refine qe (Z0 rfl rfl rfl) ?_
      refine qL 0 Z6 ?_
      refine qe (Z7 [] rfl rfl rfl (Z3g _) List.nodup_nil) ?_
      refine qA (qN (qE ?_))
      exact Z0k rfl (Z4 rfl Z3) (gb (by unfold rightT; first | (rw [if_pos (by omega)]; done) | (show beqS t.cls zS = _; rw [if_neg (by omega), decide_eq_true (by omega), decide_eq_true (by omega)]; simp; done) | (rw [if_neg (by omega)]; generalize beqS t.cls zS = b; cases b <;> simp <;> omega)))
     ·intro hd; exfalso; simp_all
    ·intro hc
     simp at hc
     refine qR ?_
     refine qe eI ?_
     refine qA (qN ?_)
     refine Z2 rfl ?_ ?_
     ·intro hc
      simp at hc
      refine qS (qR ?_)
      refine qe (Z0 rfl rfl rfl) ?_
      refine qL 0 Z6 ?_
      refine qe (Z7 [] rfl rfl rfl (Z3g _) List.nodup_nil) ?_
      refine qA (qN (qE ?_))
      exact Z0k rfl (Z4 rfl Z3) (gb (by unfold rightT; first | (rw [if_pos (by omega)]; done) | (show beqS t.cls zS = _; rw [if_neg (by omega), decide_eq_true (by omega), decide_eq_true (by omega)]; simp; done) | (rw [if_neg (by omega)]; generalize beqS t.cls zS = b; cases b <;> simp <;> omega)))
     ·intro hc
      simp at hc
      refine qS (qR (qA (qN (qE ?_))))
      exact Z0k rfl (Z4 rfl Z3) (gb (by unfold rightT; first | (rw [if_pos (by omega)]; done) | (show beqS t.cls zS = _; rw [if_neg (by omega), decide_eq_true (by omega), decide_eq_true (by omega)]; simp; done) | (rw [if_neg (by omega)]; generalize beqS t.cls zS = b; cases b <;> simp <;> omega)))
theorem Zhd (n : Int) : ACalls Tryz.prog 168 [iA n] [] (GSome sA (fun s => s = shapeS n)) := by
 refine Ze (n := 51) Tryz.func168 rfl (by decide +kernel) rfl rfl ?_
 refine qS (qR (qA (qN (qS (qR (qM (qN (qB (qS (qR ?_))))))))))
 refine qe eI ?_
 refine qA (qN ?_)
 refine Z2 rfl ?_ ?_
 ·intro hc
  refine qS (qR (qA (qN (qE ?_))))
  exact Z0k rfl (Z4 rfl Z3) (Z13 _ (by unfold shapeS; simp_all) rfl)
 ·intro hc
  refine qS (qS (qR ?_))
  refine qe eI ?_
  refine qA (qN ?_)
  refine Z2 rfl ?_ ?_
  ·intro hc
   refine qK ?_
   refine Z2 rfl ?_ ?_
   ·intro hc
    refine qS (qR (qA (qN (qE ?_))))
    exact Z0k rfl (Z4 rfl Z3) (Z13 _ (by unfold shapeS; simp_all) rfl)
   ·intro hd; exfalso; simp_all
  ·intro hc
   refine qR ?_
   refine qe eI ?_
   refine qA (qN ?_)
   refine Z2 rfl ?_ ?_
   ·intro hc
    refine qS (qR (qA (qN (qE ?_))))
    exact Z0k rfl (Z4 rfl Z3) (Z13 _ (by unfold shapeS; simp_all) rfl)
   ·intro hc
    refine qS (qS (qR ?_))
    refine qe eI ?_
    refine qA (qN ?_)
    refine Z2 rfl ?_ ?_
    ·intro hc
     refine qK ?_
     refine Z2 rfl ?_ ?_
     ·intro hc
      refine qS (qR (qA (qN (qE ?_))))
      exact Z0k rfl (Z4 rfl Z3) (Z13 _ (by unfold shapeS; simp_all) rfl)
     ·intro hd; exfalso; simp_all
    ·intro hc
     refine qS (qR ?_)
     refine qe eI ?_
     refine qA (qN ?_)
     refine Z2 rfl ?_ ?_
     ·intro hc
      refine qK ?_
      refine Z2 rfl ?_ ?_
      ·intro hc
       refine qS (qR (qA (qN (qE ?_))))
       exact Z0k rfl (Z4 rfl Z3) (Z13 _ (by unfold shapeS; simp_all) rfl)
      ·intro hd; exfalso; simp_all
     ·intro hc
      refine qS (qR ?_)
      refine qe eI ?_
      refine qA (qN ?_)
      refine Z2 rfl ?_ ?_
      ·intro hc
       refine qK ?_
       refine Z2 rfl ?_ ?_
       ·intro hc
        refine qS (qR (qA (qN (qE ?_))))
        exact Z0k rfl (Z4 rfl Z3) (Z13 _ (by unfold shapeS; simp_all) rfl)
       ·intro hd; exfalso; simp_all
      ·intro hc
       refine qS (qR ?_)
       refine qe eI ?_
       refine qA (qN ?_)
       refine Z2 rfl ?_ ?_
       ·intro hc
        refine qK ?_
        refine Z2 rfl ?_ ?_
        ·intro hc
         refine qS (qR (qA (qN (qE ?_))))
         exact Z0k rfl (Z4 rfl Z3) (Z13 _ (by unfold shapeS; simp_all) rfl)
        ·intro hd; exfalso; simp_all
       ·intro hc
        refine qR ?_
        refine qe eI ?_
        refine qA (qN ?_)
        refine Z2 rfl ?_ ?_
        ·intro hc
         refine qS (qR (qA (qN (qE ?_))))
         exact Z0k rfl (Z4 rfl Z3) (Z13 _ (by unfold shapeS; simp_all) rfl)
        ·intro hc
         refine qS (qR ?_)
         refine qe eI ?_
         refine qA (qN ?_)
         refine Z2 rfl ?_ ?_
         ·intro hc
          refine qS (qR (qA (qN (qE ?_))))
          exact Z0k rfl (Z4 rfl Z3) (Z13 _ (by unfold shapeS; simp_all) rfl)
         ·intro hc
          refine qS (qR ?_)
          refine qe eI ?_
          refine qA (qN ?_)
          refine Z2 rfl ?_ ?_
          ·intro hc
           refine qS (qR (qA (qN (qE ?_))))
           exact Z0k rfl (Z4 rfl Z3) (Z13 _ (by unfold shapeS; simp_all) rfl)
          ·intro hc
           refine qS (qS (qR ?_))
           refine qe eI ?_
           refine qA (qN ?_)
           refine Z2 rfl ?_ ?_
           ·intro hc
            refine qK ?_
            refine Z2 rfl ?_ ?_
            ·intro hc
             refine qS (qR (qA (qN (qE ?_))))
             exact Z0k rfl (Z4 rfl Z3) (Z13 _ (by unfold shapeS; simp_all) rfl)
            ·intro hd; exfalso; simp_all
           ·intro hc
            refine qR ?_
            refine qe eI ?_
            refine qA (qN ?_)
            refine Z2 rfl ?_ ?_
            ·intro hc
             refine qS (qR (qA (qN (qE ?_))))
             exact Z0k rfl (Z4 rfl Z3) (Z13 _ (by unfold shapeS; simp_all) rfl)
            ·intro hc
             refine qS (qR ?_)
             refine qe eI ?_
             refine qA (qN ?_)
             refine Z2 rfl ?_ ?_
             ·intro hc
              refine qS (qR (qA (qN (qE ?_))))
              exact Z0k rfl (Z4 rfl Z3) (Z13 _ (by unfold shapeS; simp_all) rfl)
             ·intro hc
              refine qS (qS (qR ?_))
              refine qe eI ?_
              refine qA (qN ?_)
              refine Z2 rfl ?_ ?_
              ·intro hc
               refine qK ?_
               refine Z2 rfl ?_ ?_
               ·intro hc
                refine qS (qR (qA (qN (qE ?_))))
                exact Z0k rfl (Z4 rfl Z3) (Z13 _ (by unfold shapeS; simp_all) rfl)
               ·intro hd; exfalso; simp_all
              ·intro hc
               refine qS (qR ?_)
               refine qe eI ?_
               refine qA (qN ?_)
               refine Z2 rfl ?_ ?_
               ·intro hc
                refine qK ?_
                refine Z2 rfl ?_ ?_
                ·intro hc
                 refine qS (qR (qA (qN (qE ?_))))
                 exact Z0k rfl (Z4 rfl Z3) (Z13 _ (by unfold shapeS; simp_all) rfl)
                ·intro hd; exfalso; simp_all
               ·intro hc
                refine qR ?_
                refine qe eI ?_
                refine qA (qN ?_)
                refine Z2 rfl ?_ ?_
                ·intro hc
                 refine qS (qR (qA (qN (qE ?_))))
                 exact Z0k rfl (Z4 rfl Z3) (Z13 _ (by unfold shapeS; simp_all) rfl)
                ·intro hc
                 refine qS (qS (qR ?_))
                 refine qe eI ?_
                 refine qA (qN ?_)
                 refine Z2 rfl ?_ ?_
                 ·intro hc
                  refine qK ?_
                  refine Z2 rfl ?_ ?_
                  ·intro hc
                   refine qS (qR (qA (qN (qE ?_))))
                   exact Z0k rfl (Z4 rfl Z3) (Z13 _ (by unfold shapeS; simp_all) rfl)
                  ·intro hd; exfalso; simp_all
                 ·intro hc
                  refine qR ?_
                  refine qe eI ?_
                  refine qA (qN ?_)
                  refine Z2 rfl ?_ ?_
                  ·intro hc
                   refine qS (qR (qA (qN (qE ?_))))
                   exact Z0k rfl (Z4 rfl Z3) (Z13 _ (by unfold shapeS; simp_all) rfl)
                  ·intro hc
                   refine qS (qR ?_)
                   refine qe eI ?_
                   refine qA (qN ?_)
                   refine Z2 rfl ?_ ?_
                   ·intro hc
                    refine qS (qR (qA (qN (qE ?_))))
                    exact Z0k rfl (Z4 rfl Z3) (Z13 _ (by unfold shapeS; simp_all) rfl)
                   ·intro hc
                    refine qS (qR ?_)
                    refine qe eI ?_
                    refine qA (qN ?_)
                    refine Z2 rfl ?_ ?_
                    ·intro hc
                     refine qS (qR (qA (qN (qE ?_))))
                     exact Z0k rfl (Z4 rfl Z3) (Z13 _ (by unfold shapeS; simp_all) rfl)
                    ·intro hc
                     refine qS (qR ?_)
                     refine qe eI ?_
                     refine qA (qN ?_)
                     refine Z2 rfl ?_ ?_
                     ·intro hc
                      refine qS (qR (qA (qN (qE ?_))))
                      exact Z0k rfl (Z4 rfl Z3) (Z13 _ (by unfold shapeS; simp_all) rfl)
                     ·intro hc
                      refine qS (qR ?_)
                      refine qe eI ?_
                      refine qA (qN ?_)
                      refine Z2 rfl ?_ ?_
                      ·intro hc
                       refine qS (qR (qA (qN (qE ?_))))
                       exact Z0k rfl (Z4 rfl Z3) (Z13 _ (by unfold shapeS; simp_all) rfl)
                      ·intro hc
                       refine qS (qS (qR ?_))
                       refine qe eI ?_
                       refine qA (qN ?_)
                       refine Z2 rfl ?_ ?_
                       ·intro hc
                        refine qK ?_
                        refine Z2 rfl ?_ ?_
                        ·intro hc
                         refine qS (qR (qA (qN (qE ?_))))
                         exact Z0k rfl (Z4 rfl Z3) (Z13 _ (by unfold shapeS; simp_all) rfl)
                        ·intro hd; exfalso; simp_all
                       ·intro hc
                        refine qS (qR ?_)
                        refine qe eI ?_
                        refine qA (qN ?_)
                        refine Z2 rfl ?_ ?_
                        ·intro hc
                         refine qK ?_
                         refine Z2 rfl ?_ ?_
                         ·intro hc
                          refine qS (qR (qA (qN (qE ?_))))
                          exact Z0k rfl (Z4 rfl Z3) (Z13 _ (by unfold shapeS; simp_all) rfl)
                         ·intro hd; exfalso; simp_all
                        ·intro hc
                         refine qR ?_
                         refine qe eI ?_
                         refine qA (qN ?_)
                         refine Z2 rfl ?_ ?_
                         ·intro hc
                          refine qS (qR (qA (qN (qE ?_))))
                          exact Z0k rfl (Z4 rfl Z3) (Z13 _ (by unfold shapeS; simp_all) rfl)
                         ·intro hc
                          refine qS (qS (qR ?_))
                          refine qe eI ?_
                          refine qA (qN ?_)
                          refine Z2 rfl ?_ ?_
                          ·intro hc
                           refine qK ?_
                           refine Z2 rfl ?_ ?_
                           ·intro hc
                            refine qS (qR (qA (qN (qE ?_))))
                            exact Z0k rfl (Z4 rfl Z3) (Z13 _ (by unfold shapeS; simp_all) rfl)
                           ·intro hd; exfalso; simp_all
                          ·intro hc
                           refine qS (qR ?_)
                           refine qe eI ?_
                           refine qA (qN ?_)
                           refine Z2 rfl ?_ ?_
                           ·intro hc
                            refine qK ?_
                            refine Z2 rfl ?_ ?_
                            ·intro hc
                             refine qS (qR (qA (qN (qE ?_))))
                             exact Z0k rfl (Z4 rfl Z3) (Z13 _ (by unfold shapeS; simp_all) rfl)
                            ·intro hd; exfalso; simp_all
                           ·intro hc
                            refine qR ?_
                            refine qe eI ?_
                            refine qA (qN ?_)
                            refine Z2 rfl ?_ ?_
                            ·intro hc
                             refine qS (qR (qA (qN (qE ?_))))
                             exact Z0k rfl (Z4 rfl Z3) (Z13 _ (by unfold shapeS; simp_all) rfl)
                            ·intro hc
                             refine qS (qR ?_)
                             refine qe eI ?_
                             refine qA (qN ?_)
                             refine Z2 rfl ?_ ?_
                             ·intro hc
                              refine qS (qR (qA (qN (qE ?_))))
                              exact Z0k rfl (Z4 rfl Z3) (Z13 _ (by unfold shapeS; simp_all) rfl)
                             ·intro hc
                              refine qS (qR ?_)
                              refine qe eI ?_
                              refine qA (qN ?_)
                              refine Z2 rfl ?_ ?_
                              ·intro hc
                               refine qS (qR (qA (qN (qE ?_))))
                               exact Z0k rfl (Z4 rfl Z3) (Z13 _ (by unfold shapeS; simp_all) rfl)
                              ·intro hc
                               refine qS (qR (qA (qN (qE ?_))))
                               exact Z0k rfl (Z4 rfl Z3) (Z13 _ (by unfold shapeS; simp_all) rfl)
theorem Zga (u : Str) (k : Nat) (hs : small u.size) (h1 : k ≤ u.size) : ACalls Tryz.prog 166 [sA u, iA k] [] (GSome nxtA (fun r => r = nextR u k)) := by
 unfold small at hs
 refine Ze (n := 88) Tryz.func166 rfl (by decide +kernel) rfl rfl ?_
 refine qS (qR ?_)
 refine Z04 (w0 rfl) rfl (fun id => Z08 id rfl rfl rfl) (fun id1 => ?_)
 refine qA (qA (qN (qS (qR (qM (qM ?_))))))
 refine qe (Zs rfl rfl rfl rfl) ?_
 refine qe eI ?_
 refine qM (qTM (qTM ?_))
 refine Z9 (wT rfl rfl rfl rfl) rfl (fun hg => (Z12 rfl (Za hg rfl) (Za hg rfl) (by (try simp at hg) <;> first | omega | (simp only [List.length_map]; omega) | (simp only [List.length_map, List.length_drop]; omega)) (by (try simp at hg) <;> first | omega | (simp only [List.length_map]; omega) | (simp only [List.length_map, List.length_drop]; omega)))) ?_
 refine Z9 (wT rfl rfl rfl rfl) rfl (fun hg => (Zn rfl (Za hg rfl) rfl rfl)) ?_
 refine qe (Zq rfl rfl rfl (fun h => h)) ?_
 refine qA (qN ?_)
 refine Z3t (α := Nat × Bool) (fun z => ⟨[(0, sA u), (1, iA z.1), (4, .ptr id1 2 0 0), (7, bA z.2)], [(id1, .rows 68 2 [Ty.cells zTy])], [], 88⟩) (fun z => z.1 = nxA u k ∧ z.2 = arrA u k) ?_ ?_
 ·skip
  refine qS (qR (qM (qN ?_)))
  refine Z2 rfl ?_ ?_
  ·intro hc
   have hn : arrA u k = true := hc
   have hk : k < u.size := by have := Z2b hc; simpa using this
   refine qR (qM ?_)
   refine qe (Zb rfl rfl rfl (Zp (by first | omega | (simp only [List.length_map]; omega)))) ?_
   refine qA (qN ?_)
   refine ⟨(nxA u k, arrA u k), ⟨rfl, rfl⟩, ?_⟩
   exact qp [0] ⟨rfl, (congrArg (fun n : Nat => some (iA n)) (show k + 1 = nxA u k by unfold nxA; rw [hn]; rfl)), rfl, rfl, trivial⟩
  ·intro hc
   have hn : arrA u k = false := hc
   refine qK ?_
   refine ⟨(nxA u k, arrA u k), ⟨rfl, rfl⟩, ?_⟩
   exact qp [0] ⟨rfl, (congrArg (fun n : Nat => some (iA n)) (show k = nxA u k by unfold nxA; rw [hn]; rfl)), rfl, rfl, trivial⟩
 ·rintro ⟨a1, arr⟩ ⟨ha, hb⟩
  simp only at ha hb ⊢
  have hle := Zde u k
  refine qS (qS (qR (qM (qM ?_))))
  refine qe (Zs rfl rfl rfl rfl) ?_
  refine qe eI ?_
  refine qN ?_
  refine Z2 rfl ?_ ?_
  ·intro hc
   have he : u.size ≤ a1 := by simpa using hc
   refine qS (qR ?_)
   refine qe (Z0g rfl rfl rfl) ?_
   refine Zu 0 (w0 rfl) rfl rfl rfl rfl rfl rfl rfl rfl rfl ?_
   refine qA (qA (qN (qE ?_)))
   exact Z0k rfl (Z0v 0 rfl rfl rfl (Z00 (Nat.le_of_ble_eq_true rfl)) (Z4 rfl (Z4 rfl Z3))) (Z13 (nextR u k) rfl (by rw [Zda ha he]; rfl))
  ·intro hc
   have he : ¬ u.size ≤ a1 := by simpa using hc
   refine qK (qS (qR (qM (qM ?_))))
   refine qe (Z12 rfl rfl rfl (by first | omega | (simp only [List.length_map]; omega) | (simp only [List.length_map, List.length_drop]; omega)) (by first | omega | (simp only [List.length_map]; omega) | (simp only [List.length_map, List.length_drop]; omega))) ?_
   refine qN (qB (qS (qR ?_)))
   refine qe eI ?_
   refine qA (qN ?_)
   refine Z2 rfl ?_ ?_
   ·intro hc
    have h86 : byteAt u (a1 : Nat) = 86 := by simpa using hc
    refine qS (qR ?_)
    refine qe (Z0g rfl rfl rfl) ?_
    refine qM ?_
    refine qe (Zb rfl rfl rfl (Zp (by first | omega | (simp only [List.length_map]; omega)))) ?_
    refine qM ?_
    refine qe (Zy rfl rfl) ?_
    refine Zu 0 (w0 rfl) rfl rfl rfl rfl rfl rfl rfl rfl rfl ?_
    refine qA (qA (qN (qE ?_)))
    exact Z0k rfl (Z0v 0 rfl rfl rfl (Z00 (Nat.le_of_ble_eq_true rfl)) (Z4 rfl (Z4 rfl Z3))) (Z13 (nextR u k) rfl (by rw [Zhx ha hb he h86]; rfl))
   ·intro hc
    have h86 : ¬ byteAt u (a1 : Nat) = 86 := by simpa using hc
    refine qS (qR ?_)
    refine qe eI ?_
    refine qA (qN ?_)
    refine Z2 rfl ?_ ?_
    ·intro hc
     have h73 : byteAt u (a1 : Nat) = 73 := by simpa using hc
     refine qS (qS (qR (qM (qN ?_))))
     refine Z2 rfl ?_ ?_
     ·intro hc
      have hr : arr = true := hc
      refine qS (qR ?_)
      refine qe (Z0g rfl rfl rfl) ?_
      refine qM ?_
      refine qe (Zb rfl rfl rfl (Zp (by first | omega | (simp only [List.length_map]; omega)))) ?_
      refine Zu 0 (w0 rfl) rfl rfl rfl rfl rfl rfl rfl rfl rfl ?_
      refine qA (qA (qN (qE ?_)))
      exact Z0k rfl (Z0v 0 rfl rfl rfl (Z00 (Nat.le_of_ble_eq_true rfl)) (Z4 rfl (Z4 rfl Z3))) (Z13 (nextR u k) rfl (by rw [Zd7 ha hb he h86 h73, hr]; rfl))
     ·intro hc
      have hr : arr = false := hc
      refine qK (qS (qR ?_))
      refine qe (Z0g rfl rfl rfl) ?_
      refine qM ?_
      refine qe (Zb rfl rfl rfl (Zp (by first | omega | (simp only [List.length_map]; omega)))) ?_
      refine Zu 0 (w0 rfl) rfl rfl rfl rfl rfl rfl rfl rfl rfl ?_
      refine qA (qA (qN (qE ?_)))
      exact Z0k rfl (Z0v 0 rfl rfl rfl (Z00 (Nat.le_of_ble_eq_true rfl)) (Z4 rfl (Z4 rfl Z3))) (Z13 (nextR u k) rfl (by rw [Zd7 ha hb he h86 h73, hr]; rfl))
    ·intro hc
     have h73 : ¬ byteAt u (a1 : Nat) = 73 := by simpa using hc
     refine qS (qR ?_)
     refine qe eI ?_
     refine qA (qN ?_)
     refine Z2 rfl ?_ ?_
     ·intro hc
      have h76 : byteAt u (a1 : Nat) = 76 := by simpa using hc
      refine qS (qR (qM (qA (qN (qS (qB ?_))))))
      refine Zk (α := Nat) (fun x => ⟨[(8, iA x), (1, iA a1), (0, sA u), (7, bA arr), (4, .ptr id1 2 0 0)], [(id1, .rows 68 2 [Ty.cells zTy])], [], 88⟩) (fun x => a1 ≤ x ∧ x ≤ u.size ∧ semi u x = semi u a1) (fun x => u.size - x) a1 ⟨Nat.le_refl _, by omega, rfl⟩ ?_ ?_
      ·exact Zi [0] ⟨rfl, rfl, rfl, rfl, rfl, trivial⟩ rfl (by decide) rfl rfl
      rintro x hJ
      refine qS (qS (qR (qM (qM ?_))))
      refine qe (Zs rfl rfl rfl rfl) ?_
      refine qe eI ?_
      refine qM (qTM (qTM ?_))
      refine Z9 (wT rfl rfl rfl rfl) rfl (fun hg => (Z12 rfl (Za hg rfl) (Za hg rfl) (by (try simp at hg) <;> first | omega | (simp only [List.length_map]; omega) | (simp only [List.length_map, List.length_drop]; omega)) (by (try simp at hg) <;> first | omega | (simp only [List.length_map]; omega) | (simp only [List.length_map, List.length_drop]; omega)))) ?_
      refine Z9 (wT rfl rfl rfl rfl) rfl (fun hg => (Zn rfl (Za hg rfl) rfl rfl)) ?_
      refine qe (Zq rfl rfl rfl (fun h => h)) ?_
      refine qN ?_
      refine Z2 rfl ?_ ?_
      ·intro hc
       have hx : x < u.size ∧ ¬ byteAt u (x : Nat) = 59 := ⟨by have := Z2b hc; simpa using this, by have := Z2c hc; simpa using this⟩
       refine qK (qB (qR (qM ?_)))
       refine qe (Zb rfl rfl rfl (Zp (by first | omega | (simp only [List.length_map]; omega)))) ?_
       refine qA (qN ?_)
       refine ⟨x + 1, ⟨by omega, by omega, by rw [← Zdt hx.1 hx.2]; exact hJ.2.2⟩, (by omega), ?_⟩
       exact qp [0] ⟨rfl, rfl, rfl, rfl, rfl, trivial⟩
      ·intro hc
       have hx : ¬ (x < u.size ∧ ¬ byteAt u (x : Nat) = 59) := fun h => by simp [h.1, h.2] at hc
       have hsm : semi u a1 = x := by rw [← hJ.2.2]; by_cases h : x < u.size; exact Zg1 (by by_cases h2 : byteAt u (x : Nat) = 59; exact h2; exact absurd ⟨h, h2⟩ hx); exact Zg0 h
       have hgt : x < u.size → a1 < x := fun h => by rcases Nat.lt_or_ge a1 x with h2 | h2; exact h2; exfalso; have e : x = a1 := (by omega); rw [e] at hx h; exact hx ⟨h, by omega⟩
       refine qX (qS (qS (qR (qM (qM ?_)))))
       refine qe (Zs rfl rfl rfl rfl) ?_
       refine qe eI ?_
       refine qM (qFM (qFM ?_))
       refine Z9 (wF rfl rfl rfl rfl) rfl (fun hg => (Zb rfl (Za hg rfl) rfl (Zp (by first | omega | (simp only [List.length_map]; omega))))) ?_
       refine qFM ?_
       refine Z9 (wF rfl rfl rfl rfl) rfl (fun hg => (Z6j rfl (Za hg rfl) (Za hg rfl) (Za hg rfl) (by (try simp at hg) <;> first | omega | (simp only [List.length_map]; omega) | (simp only [List.length_map, List.length_drop]; omega)) (by (try simp at hg) <;> first | omega | (simp only [List.length_map]; omega) | (simp only [List.length_map, List.length_drop]; omega)) (by (try simp at hg) <;> first | omega | (simp only [List.length_map]; omega) | (simp only [List.length_map, List.length_drop]; omega)))) ?_
       refine Z9 (wF rfl rfl rfl rfl) rfl (fun hg => (Z7 [] rfl rfl (Zc (Za hg rfl) Z01) (Z3g _) List.nodup_nil)) ?_
       refine Z9 (wF rfl rfl rfl rfl) rfl (fun hg => (Zy rfl (Za hg rfl))) ?_
       refine qe (Z0h rfl rfl rfl (fun h => by rw [h]; rfl)) ?_
       refine qN ?_
       refine Z2 rfl ?_ ?_
       ·intro hc
        have h18 : u.size ≤ x ∨ clsW (u.extract (a1 + 1) x) = false := by rcases orT hc with h | h; left; simpa using h; right; exact Z1y h
        refine qS (qR ?_)
        refine qe (Z0g rfl rfl rfl) ?_
        refine Zu 0 (w0 rfl) rfl rfl rfl rfl rfl rfl rfl rfl rfl ?_
        refine qA (qA (qN (qE ?_)))
        exact Z0k rfl (Z0v 0 rfl rfl rfl (Z00 (Nat.le_of_ble_eq_true rfl)) (Z4 rfl (Z4 rfl Z3))) (Z13 (nextR u k) rfl (by rw [Zd9 ha he h76 hsm h18]; rfl))
       ·intro hc
        have h18 : ¬ (u.size ≤ x ∨ clsW (u.extract (a1 + 1) x) = false) := by have h := orF hc; intro h2; rcases h2 with h2 | h2; have := h.1; simp at this; omega; have h3 : clsW (u.extract (a1 + 1) x) = true := Z2o h.2; rw [h2] at h3; cases h3
        have hxs : x < u.size := by omega
        have hgt := hgt hxs
        refine qK (qS (qR (qM (qM ?_))))
        refine qe (Zb rfl rfl rfl (Zp (by first | omega | (simp only [List.length_map]; omega)))) ?_
        refine qM ?_
        refine qe (Z6j rfl rfl rfl rfl (by first | omega | (simp only [List.length_map]; omega) | (simp only [List.length_map, List.length_drop]; omega)) (by first | omega | (simp only [List.length_map]; omega) | (simp only [List.length_map, List.length_drop]; omega)) (by first | omega | (simp only [List.length_map]; omega) | (simp only [List.length_map, List.length_drop]; omega))) ?_
        refine qe (Z0g rfl rfl rfl) ?_
        refine Z04 (w0 rfl) rfl (fun id => Z08 id rfl rfl rfl) (fun id2 => ?_)
        refine Zu 0 (w0 rfl) rfl rfl rfl rfl rfl rfl rfl rfl rfl ?_
        refine qN (qS (qS (qR (qM (qN ?_)))))
        refine Z2 rfl ?_ ?_
        ·intro hc
         have hr : arr = true := hc
         refine qR ?_
         refine qe (Z0 rfl rfl rfl) ?_
         refine Zu 0 (w0 rfl) rfl rfl rfl rfl rfl rfl rfl rfl rfl ?_
         refine qN (qS (qR ?_))
         refine qL 0 (Z00 (Nat.le_of_ble_eq_true rfl)) ?_
         refine qM ?_
         refine qe (Zb rfl rfl rfl (Zp (by first | omega | (simp only [List.length_map]; omega)))) ?_
         refine Zu 1 (w0 rfl) rfl rfl rfl rfl rfl rfl rfl rfl rfl ?_
         refine qA (qA (qN (qE ?_)))
         exact Z0k rfl (Z0v 1 rfl rfl rfl (Z00 (Nat.le_of_ble_eq_true rfl)) (Z4 rfl (Z4 rfl Z3))) (Z13 (nextR u k) rfl (by rw [Zd8 ha hb he h76 hsm h18, hr]; rfl))
        ·intro hc
         have hr : arr = false := hc
         refine qK (qS (qR ?_))
         refine qL 0 (Z00 (Nat.le_of_ble_eq_true rfl)) ?_
         refine qM ?_
         refine qe (Zb rfl rfl rfl (Zp (by first | omega | (simp only [List.length_map]; omega)))) ?_
         refine Zu 1 (w0 rfl) rfl rfl rfl rfl rfl rfl rfl rfl rfl ?_
         refine qA (qA (qN (qE ?_)))
         exact Z0k rfl (Z0v 1 rfl rfl rfl (Z00 (Nat.le_of_ble_eq_true rfl)) (Z4 rfl (Z4 rfl Z3))) (Z13 (nextR u k) rfl (by rw [Zd8 ha hb he h76 hsm h18, hr]; rfl))
     ·intro hc
      have h76 : ¬ byteAt u (a1 : Nat) = 76 := by simpa using hc
      refine qS (qR ?_)
      refine qe (Z0g rfl rfl rfl) ?_
      refine Zu 0 (w0 rfl) rfl rfl rfl rfl rfl rfl rfl rfl rfl ?_
      refine qA (qA (qN (qE ?_)))
      exact Z0k rfl (Z0v 0 rfl rfl rfl (Z00 (Nat.le_of_ble_eq_true rfl)) (Z4 rfl (Z4 rfl Z3))) (Z13 (nextR u k) rfl (by rw [Zfr ha he h86 h73 h76]; rfl))
theorem Zc6 (u : Str) (hs : small u.size) : ACalls Tryz.prog 167 [sA u] [] (GSome prsA (fun r => r = parseR u)) := by
 refine Ze (n := 23) Tryz.func167 rfl (by decide +kernel) rfl rfl ?_
 refine qS (qR ?_)
 refine Z04 (w0 rfl) rfl (fun id => Z08 id rfl rfl rfl) (fun id1 => ?_)
 refine qA (qN (qS (qR (qM ?_))))
 refine Z15 (w0 rfl) rfl rfl rfl rfl (Zga _ 0 hs (Nat.zero_le _)) (fun v2 hv2 => ?_)
 obtain ⟨⟨tk, tc⟩, to, ok⟩ := v2
 refine qM ?_
 refine qe (Zh rfl rfl rfl) ?_
 refine qe (Zh rfl rfl rfl) ?_
 refine qe (Zh rfl rfl rfl) ?_
 refine Z04 (w0 rfl) rfl (fun id => Z08 id rfl rfl rfl) (fun id3 => ?_)
 refine Zu 0 (w0 rfl) rfl rfl rfl rfl rfl rfl rfl rfl rfl ?_
 refine qA (qA (qN (qS (qS (qR (qM ?_))))))
 refine qe (Zy rfl rfl) ?_
 refine qM (qFM (qFM ?_))
 refine Z9 (wF rfl rfl rfl rfl) rfl (fun hg => (Zs rfl (Za hg rfl) rfl rfl)) ?_
 refine Z9 (wF rfl rfl rfl rfl) rfl (fun hg => (Zn rfl (Za hg rfl) (Za hg rfl) rfl)) ?_
 refine qe (Z0h rfl rfl rfl (fun h => by rw [h]; rfl)) ?_
 refine qN ?_
 refine Z2 rfl ?_ ?_
 ·intro hc
  have h2 : ok = false ∨ ¬ to = u.size := by rcases orT hc with h | h; left; exact Z1y h; right; simp at h; omega
  refine qS (qR ?_)
  refine qe (Z0g rfl rfl rfl) ?_
  refine Zu 1 (w0 rfl) rfl rfl rfl rfl rfl rfl rfl rfl rfl ?_
  refine qA (qN (qE ?_))
  exact Z0k rfl (Z0v 1 rfl rfl rfl (Z00 (Nat.le_of_ble_eq_true rfl)) (Z4 rfl Z3)) (Z13 (parseR u) rfl (by unfold parseR; rw [← hv2]; rw [if_pos h2]; rfl))
 ·intro hc
  have h2 : ¬ (ok = false ∨ ¬ to = u.size) := by have h := orF hc; intro h2; rcases h2 with h2 | h2; have := Z2o h.1; rw [h2] at this; cases this; apply h2; have := h.2; simp at this; omega
  refine qK (qS (qR ?_))
  refine qL 0 (Z00 (Nat.le_of_ble_eq_true rfl)) ?_
  refine Zu 1 (w0 rfl) rfl rfl rfl rfl rfl rfl rfl rfl rfl ?_
  refine qA (qN (qE ?_))
  exact Z0k rfl (Z0v 1 rfl rfl rfl (Z00 (Nat.le_of_ble_eq_true rfl)) (Z4 rfl Z3)) (Z13 (parseR u) rfl (by unfold parseR; rw [← hv2]; rw [if_neg h2]; rfl))
theorem Z9j {u : Str} (h : 64 < u.size) : splitR u = splitE 3 := by unfold splitR; rw [if_pos h]
theorem Z9i {u : Str} (h : ¬ 64 < u.size) (h2 : u.size = 0 ∨ ¬ byteAt u 0 = 40) : splitR u = splitE 1 := by unfold splitR; rw [if_neg h, if_pos h2]
theorem Z9l {u : Str} (h : ¬ 64 < u.size) (h2 : ¬ (u.size = 0 ∨ ¬ byteAt u 0 = 40)) (h3 : par u 1 [] = none) : splitR u = splitE 1 := by unfold splitR; rw [if_neg h, if_neg h2, h3]
theorem Zbh {u : Str} {o : List Ty} {k : Nat} (h : ¬ 64 < u.size) (h2 : ¬ (u.size = 0 ∨ ¬ byteAt u 0 = 40)) (h3 : par u 1 [] = some (o, k)) (h4 : u.size ≤ k) : splitR u = splitE 1 := by unfold splitR; rw [if_neg h, if_neg h2, h3]; simp only; rw [if_pos h4]
theorem Zbi {u : Str} {o : List Ty} {k : Nat} {r : Ty × Int} (h : ¬ 64 < u.size) (h2 : ¬ (u.size = 0 ∨ ¬ byteAt u 0 = 40)) (h3 : par u 1 [] = some (o, k)) (h4 : ¬ u.size ≤ k) (hr : r = parseR (u.extract (k + 1) u.size)) (h5 : ¬ r.2 = 0) : splitR u = splitE r.2 := by unfold splitR; subst hr; rw [if_neg h, if_neg h2, h3]; simp only; rw [if_neg h4, if_pos h5]
theorem Z9k {u : Str} {o : List Ty} {k : Nat} {r : Ty × Int} (h : ¬ 64 < u.size) (h2 : ¬ (u.size = 0 ∨ ¬ byteAt u 0 = 40)) (h3 : par u 1 [] = some (o, k)) (h4 : ¬ u.size ≤ k) (hr : r = parseR (u.extract (k + 1) u.size)) (h5 : r.2 = 0) (h6 : 8 < o.length) : splitR u = splitE 3 := by unfold splitR; subst hr; rw [if_neg h, if_neg h2, h3]; simp only; rw [if_neg h4, if_neg (by simpa using h5), if_pos h6]
theorem Zdv {u : Str} {o : List Ty} {k : Nat} {r : Ty × Int} (h : ¬ 64 < u.size) (h2 : ¬ (u.size = 0 ∨ ¬ byteAt u 0 = 40)) (h3 : par u 1 [] = some (o, k)) (h4 : ¬ u.size ≤ k) (hr : r = parseR (u.extract (k + 1) u.size)) (h5 : r.2 = 0) (h6 : ¬ 8 < o.length) : splitR u = (o, r.1, 0) := by unfold splitR; subst hr; rw [if_neg h, if_neg h2, h3]; simp only; rw [if_neg h4, if_neg (by simpa using h5), if_neg h6]
theorem Z8x (u : Str) : ACalls Tryz.prog 129 [sA u] [] (GSome splA (fun r => r = splitR u)) := by
 refine Ze (n := 78) Tryz.func129 rfl (by decide +kernel) rfl rfl ?_
 refine qS (qR (qA ?_))
 refine Z04 (w0 rfl) rfl (fun id => Z08 id rfl rfl rfl) (fun id1 => ?_)
 refine qA (qN (qS (qS (qR (qM ?_)))))
 refine qe (Zs rfl rfl rfl rfl) ?_
 refine qe eI ?_
 refine qN ?_
 refine Z2 rfl ?_ ?_
 ·intro hc
  have hl : 64 < u.size := by simp at hc; omega
  refine qS (qR ?_)
  refine qe (Z0g rfl rfl rfl) ?_
  refine qe (Z23 (y := .lst []) (Z0t rfl rfl) .z) ?_
  refine Zu 0 (w0 rfl) rfl rfl rfl rfl rfl rfl rfl rfl rfl ?_
  refine qA (qN (qE ?_))
  exact Z0k rfl (Z4 rfl (Z0v 0 rfl rfl rfl (Z00 (Nat.le_of_ble_eq_true rfl)) (Z4 rfl Z3))) (Z13 (splitR u) rfl (by rw [Z9j hl]; rfl))
 ·intro hc
  have hl : ¬ 64 < u.size := by simp at hc; omega
  have hs : small u.size := by unfold small; omega
  refine qK (qS (qS (qR (qM ?_))))
  refine qe (Zs rfl rfl rfl rfl) ?_
  refine qe eI ?_
  refine qM (qFM ?_)
  refine Z9 (wF rfl rfl rfl rfl) rfl (fun hg => (Z12 rfl (Za hg rfl) rfl (by (by_cases h : u.size = 0; simp [h] at hg; omega)) (by (by_cases h : u.size = 0; simp [h] at hg; omega)))) ?_
  refine Z9 (wF rfl rfl rfl rfl) rfl (fun hg => (Zn rfl (Za hg rfl) rfl rfl)) ?_
  refine qe (Z0h rfl rfl rfl (fun h => by rw [h]; rfl)) ?_
  refine qN ?_
  refine Z2 rfl ?_ ?_
  ·intro hc
   have h0 : u.size = 0 ∨ ¬ byteAt u 0 = 40 := by rcases orT hc with h | h; left; simp only [beq_iff_eq] at h; omega; right; simpa using h
   refine qS (qR ?_)
   refine qe (Z0g rfl rfl rfl) ?_
   refine qe (Z23 (y := .lst []) (Z0t rfl rfl) .z) ?_
   refine Zu 0 (w0 rfl) rfl rfl rfl rfl rfl rfl rfl rfl rfl ?_
   refine qA (qN (qE ?_))
   exact Z0k rfl (Z4 rfl (Z0v 0 rfl rfl rfl (Z00 (Nat.le_of_ble_eq_true rfl)) (Z4 rfl Z3))) (Z13 (splitR u) rfl (by rw [Z9i hl h0]; rfl))
  ·intro hc
   have h0 : ¬ (u.size = 0 ∨ ¬ byteAt u 0 = 40) := by have h := orF hc; intro h2; rcases h2 with h2 | h2; have := h.1; simp [h2] at this; apply h2; have := h.2; simpa using this
   have hz : 0 < u.size := by omega
   refine qK (qS (qR ?_))
   refine Z04 (w0 rfl) rfl (fun id => Z32 id 68 2 (.inl rfl) rfl) (fun id2 => ?_)
   refine qN (qS (qR (qA (qN (qS (qB ?_))))))
   refine Zk (α := Nat × List Ty × Nat) (fun x => ⟨[(6, iA x.2.2), (5, .own x.1 2 0 x.2.1.length), (0, sA u), (3, .ptr id1 2 0 0)], [(x.1, .rows 68 2 (x.2.1.map Ty.cells)), (id1, .rows 68 2 [Ty.cells zTy])], [], 78⟩) (fun x => 1 ≤ x.2.2 ∧ x.2.2 ≤ u.size ∧ x.2.1.length ≤ x.2.2 ∧ par u x.2.2 x.2.1 = par u 1 []) (fun x => u.size - x.2.2) (id2, [], 1) ⟨by simp, by simp; omega, by simp, rfl⟩ ?_ ?_
   ·exact Zi [0, 1] ⟨rfl, rfl, rfl, rfl, trivial⟩ rfl (by decide) rfl rfl
   rintro x hJ
   refine qS (qS (qR (qM (qM ?_))))
   refine qe (Zs rfl rfl rfl rfl) ?_
   refine qe eI ?_
   refine qM (qTM (qTM ?_))
   refine Z9 (wT rfl rfl rfl rfl) rfl (fun hg => (Z12 rfl (Za hg rfl) (Za hg rfl) (by (try simp at hg) <;> first | omega | (simp only [List.length_map]; omega) | (simp only [List.length_map, List.length_drop]; omega)) (by (try simp at hg) <;> first | omega | (simp only [List.length_map]; omega) | (simp only [List.length_map, List.length_drop]; omega)))) ?_
   refine Z9 (wT rfl rfl rfl rfl) rfl (fun hg => (Zn rfl (Za hg rfl) rfl rfl)) ?_
   refine qe (Zq rfl rfl rfl (fun h => h)) ?_
   refine qN ?_
   refine Z2 rfl ?_ ?_
   ·intro hc
    have hk : x.2.2 < u.size ∧ ¬ byteAt u (x.2.2 : Nat) = 41 := ⟨by have := Z2b hc; simpa using this, by have := Z2c hc; simpa using this⟩
    have ht := hk.1
    refine qK (qB (qS (qR (qM (qM ?_)))))
    refine Z15 (w0 rfl) rfl rfl rfl rfl (Zga _ x.2.2 hs (by omega)) (fun v3 hv3 => ?_)
    obtain ⟨⟨tk, tc⟩, to, ok⟩ := v3
    refine qM ?_
    refine qe (Zh rfl rfl rfl) ?_
    refine qe (Zh rfl rfl rfl) ?_
    refine qe (Zh rfl rfl rfl) ?_
    refine Z04 (w0 rfl) rfl (fun id => Z08 id rfl rfl rfl) (fun id4 => ?_)
    refine Zu 0 (w0 rfl) rfl rfl rfl rfl rfl rfl rfl rfl rfl ?_
    refine qA (qA (qN (qS (qS (qR (qM ?_))))))
    refine qe (Zy rfl rfl) ?_
    refine qM ?_
    refine Z9 (wF rfl rfl rfl rfl) rfl (fun hg => (Z0 rfl rfl rfl)) ?_
    refine Zl 0 (wF rfl rfl rfl rfl) rfl rfl (fun hg => (Za hg rfl)) rfl rfl Z6 ?_
    refine Z9 (wF rfl rfl rfl rfl) rfl (fun hg => (Zn rfl (Za hg rfl) rfl rfl)) ?_
    refine qe (Z0h rfl rfl rfl (fun h => by rw [h]; rfl)) ?_
    refine qN ?_
    refine Z2 rfl ?_ ?_
    ·intro hc
     have hb : (nextR u x.2.2).2.2 = false ∨ (nextR u x.2.2).1.kind = 1 := by rw [← hv3]; rcases orT hc with h | h; left; exact Z1y h; right; simpa using h
     have hpn : par u 1 [] = none := by rw [← hJ.2.2.2]; exact Zfx hk hb
     refine qS (qR ?_)
     refine qe (Z0g rfl rfl rfl) ?_
     refine qe (Z23 (y := .lst []) (Z0t rfl rfl) .z) ?_
     refine Zu 2 (w0 rfl) rfl rfl rfl rfl rfl rfl rfl rfl rfl ?_
     refine qA (qN (qE ?_))
     exact Z0k rfl (Z4 rfl (Z0v 2 rfl rfl rfl (Z00 (Nat.le_of_ble_eq_true rfl)) (Z4 rfl Z3))) (Z13 (splitR u) rfl (by rw [Z9l hl h0 hpn]; rfl))
    ·intro hc
     have hb : ¬ ((nextR u x.2.2).2.2 = false ∨ (nextR u x.2.2).1.kind = 1) := by rw [← hv3]; have h := orF hc; intro h2; rcases h2 with h2 | h2; have := Z2o h.1; simp only at h2; rw [h2] at this; cases this; have := h.2; simp at this; exact this h2
     have hnx := Zfw (o := x.2.1) hk hb
     have hto := Z79 (s := u) (k := x.2.2) (by cases h : (nextR u x.2.2).2.2 with | true => rfl | false => exact absurd (.inl h) hb)
     rw [← hv3] at hnx hto
     simp only at hnx hto
     refine qK (qS (qR (qM ?_)))
     refine qL 0 (Z00 (Nat.le_of_ble_eq_true rfl)) ?_
     refine Z04 (w0 rfl) rfl (fun id => Z02 id (ps := [(0, .tmp 51)]) rfl rfl rfl rfl rfl rfl rfl rfl) (fun id5 => ?_)
     refine Z20 2 (w0 rfl) rfl rfl rfl rfl (by simp) rfl ⟨rfl, _, _, List.mem_of_getElem? (i := 0) rfl, by simp, rfl⟩ (by first | omega | (simp; omega) | (simp [maxLen]; omega) | (simp; done) | (simp [maxLen]; done)) (by first | omega | (simp; omega) | (simp [maxLen]; omega) | (simp; done) | (simp [maxLen]; done)) (fun id6 => ?_)
     refine qA (qN (qR (qM (qA (qN ?_)))))
     refine ⟨(id6, x.2.1 ++ [⟨tk, tc⟩], to), ⟨by simp only; omega, by simp only; omega, by simp only [List.length_append, List.length_singleton]; omega, by simp only; rw [← hnx]; exact hJ.2.2.2⟩, (by simp only; omega), ?_⟩
     exact Zi [2, 3] ⟨rfl, (by show some (AV.own _ _ _ _) = some (AV.own _ _ _ _); simp), rfl, rfl, trivial⟩ (by show some [(_, AObj.rows _ _ _), _] = some [(_, AObj.rows _ _ _), _]; simp [cellsA, Ty.av, Ty.cells]) (by decide) rfl rfl
   ·intro hc
    have hk : ¬ (x.2.2 < u.size ∧ ¬ byteAt u (x.2.2 : Nat) = 41) := fun h => by simp [h.1, h.2] at hc
    have hpe : par u 1 [] = some (x.2.1, x.2.2) := by rw [← hJ.2.2.2]; exact Zfy hk
    refine qX (qS (qS (qR (qM (qM ?_)))))
    refine qe (Zs rfl rfl rfl rfl) ?_
    refine qe eI ?_
    refine qN ?_
    refine Z2 rfl ?_ ?_
    ·intro hc
     have h4 : u.size ≤ x.2.2 := by simpa using hc
     refine qS (qR ?_)
     refine qe (Z0g rfl rfl rfl) ?_
     refine qe (Z23 (y := .lst []) (Z0t rfl rfl) .z) ?_
     refine Zu 1 (w0 rfl) rfl rfl rfl rfl rfl rfl rfl rfl rfl ?_
     refine qA (qN (qE ?_))
     exact Z0k rfl (Z4 rfl (Z0v 1 rfl rfl rfl (Z00 (Nat.le_of_ble_eq_true rfl)) (Z4 rfl Z3))) (Z13 (splitR u) rfl (by rw [Zbh hl h0 hpe h4]; rfl))
    ·intro hc
     have h4 : ¬ u.size ≤ x.2.2 := by simpa using hc
     refine qK (qS (qR (qM (qM ?_))))
     refine qe (Zb rfl rfl rfl (Zp (by first | omega | (simp only [List.length_map]; omega)))) ?_
     refine qe (Z6b rfl rfl rfl (by first | omega | (simp only [List.length_map]; omega) | (simp only [List.length_map, List.length_drop]; omega)) (by first | omega | (simp only [List.length_map]; omega) | (simp only [List.length_map, List.length_drop]; omega))) ?_
     refine Z15 (w0 rfl) rfl rfl rfl rfl (Zc6 _ (by have := Zb4 u ((x.2.2 : Int) + 1).toNat u.size; unfold small; omega)) (fun v7 hv7 => ?_)
     obtain ⟨⟨rk, rc⟩, er⟩ := v7
     have hpr : ((⟨rk, rc⟩, er) : Ty × Int) = parseR (u.extract (x.2.2 + 1) u.size) := hv7
     refine qM ?_
     refine qe (Zh rfl rfl rfl) ?_
     refine qe (Zh rfl rfl rfl) ?_
     refine Z04 (w0 rfl) rfl (fun id => Z08 id rfl rfl rfl) (fun id8 => ?_)
     refine Zu 0 (w0 rfl) rfl rfl rfl rfl rfl rfl rfl rfl rfl ?_
     refine qA (qN (qS (qS (qR (qM ?_)))))
     refine qe eI ?_
     refine qN ?_
     refine Z2 rfl ?_ ?_
     ·intro hc
      have h5 : ¬ er = 0 := by simpa using hc
      refine qS (qR ?_)
      refine qe (Z0g rfl rfl rfl) ?_
      refine qM ?_
      refine qe (Z23 (y := .lst []) (Z0t rfl rfl) .z) ?_
      refine Zu 2 (w0 rfl) rfl rfl rfl rfl rfl rfl rfl rfl rfl ?_
      refine qA (qN (qE ?_))
      exact Z0k rfl (Z4 rfl (Z0v 2 rfl rfl rfl (Z00 (Nat.le_of_ble_eq_true rfl)) (Z4 rfl Z3))) (Z13 (splitR u) rfl (by rw [Zbi hl h0 hpe h4 hpr h5]; rfl))
     ·intro hc
      have h5 : er = 0 := by simpa using hc
      refine qK (qS (qS (qR (qM ?_))))
      refine qe (Zs rfl rfl rfl rfl) ?_
      refine qe eI ?_
      refine qN ?_
      refine Z2 rfl ?_ ?_
      ·intro hc
       have h6 : 8 < x.2.1.length := by simp at hc; omega
       refine qS (qR ?_)
       refine qe (Z0g rfl rfl rfl) ?_
       refine qe (Z23 (y := .lst []) (Z0t rfl rfl) .z) ?_
       refine Zu 2 (w0 rfl) rfl rfl rfl rfl rfl rfl rfl rfl rfl ?_
       refine qA (qN (qE ?_))
       exact Z0k rfl (Z4 rfl (Z0v 2 rfl rfl rfl (Z00 (Nat.le_of_ble_eq_true rfl)) (Z4 rfl Z3))) (Z13 (splitR u) rfl (by rw [Z9k hl h0 hpe h4 hpr h5 h6]; rfl))
      ·intro hc
       have h6 : ¬ 8 < x.2.1.length := by simp at hc; omega
       refine qK (qS ?_)
       refine Z1h (Zan 1 5 (T' := [(3, .ptr _ _ _ _), (10, .ptr _ _ _ _), (11, _)]) rfl rfl (by simp) ⟨rfl, rfl, rfl, trivial⟩) ?_
       refine Z0o 3 rfl (by kernel_rfl) ?_
       refine cM2 ?_
       refine Z8 0 (w0 rfl) rfl rfl rfl rfl rfl (Z00 (Nat.le_of_ble_eq_true rfl)) ?_
       refine ce (Z0t rfl rfl) ?_
       refine .done ?_
       refine Zu 1 (w0 rfl) rfl rfl rfl rfl rfl rfl rfl rfl rfl ?_
       refine qA (qN (qE ?_))
       exact Z0k rfl (Z4 rfl (Z0v 1 rfl rfl rfl (Z00 (Nat.le_of_ble_eq_true rfl)) (Z4 rfl Z3))) (Z13 (splitR u) rfl (by rw [Zdv hl h0 hpe h4 hpr h5 h6]; rfl))
end Go.Sx
namespace Go.Sx
open Go Go.Proofs
theorem Zgx (x : Instr) (u : Str) (hs : small u.size) : ACalls Tryz.prog 169 [.agg x.cells, sA u] [] (Gives (bA (emptyI x u))) := by
 refine Ze (n := 102) Tryz.func169 rfl (by decide +kernel) rfl rfl ?_
 refine qS (qR ?_)
 refine Z04 (w0 rfl) rfl (fun id => Z0a id rfl rfl rfl rfl rfl) (fun id1 => ?_)
 refine qA (qN (qS (qR (qM ?_))))
 refine qe (Z7 [] rfl rfl rfl (Z2n _ _ hs) List.nodup_nil) ?_
 refine qM (qFM ?_)
 refine Z9 (wF rfl rfl rfl rfl) rfl (fun hg => (Z7 [] rfl rfl (Zc (Za hg rfl) (Zc rfl Z01)) (Z2n _ _ hs) List.nodup_nil)) ?_
 refine qe (Z0h rfl rfl rfl (fun h => by rw [h]; rfl)) ?_
 refine qM (qFM ?_)
 refine Z9 (wF rfl rfl rfl rfl) rfl (fun hg => (Z7 [] rfl rfl (Zc (Za hg rfl) (Zc rfl Z01)) (Z2n _ _ hs) List.nodup_nil)) ?_
 refine qe (Z0h rfl rfl rfl (fun h => by rw [h]; rfl)) ?_
 refine qA (qN (qS (qR (qM ?_))))
 refine qe (Z7 [] rfl rfl rfl (Z2n _ _ hs) List.nodup_nil) ?_
 refine qM (qFM ?_)
 refine Z9 (wF rfl rfl rfl rfl) rfl (fun hg => (Z7 [] rfl rfl (Zc (Za hg rfl) (Zc rfl Z01)) (Z2n _ _ hs) List.nodup_nil)) ?_
 refine qe (Z0h rfl rfl rfl (fun h => by rw [h]; rfl)) ?_
 refine qA (qN (qS (qR (qM ?_))))
 refine qe (Z7 [] rfl rfl rfl (Z2n _ _ hs) List.nodup_nil) ?_
 refine qM (qFM ?_)
 refine Z9 (wF rfl rfl rfl rfl) rfl (fun hg => (Z7 [] rfl rfl (Zc (Za hg rfl) (Zc rfl Z01)) (Z2n _ _ hs) List.nodup_nil)) ?_
 refine qe (Z0h rfl rfl rfl (fun h => by rw [h]; rfl)) ?_
 refine qM (qFM ?_)
 refine Z9 (wF rfl rfl rfl rfl) rfl (fun hg => (Z7 [] rfl rfl (Zc (Za hg rfl) (Zc rfl Z01)) (Z2n _ _ hs) List.nodup_nil)) ?_
 refine qe (Z0h rfl rfl rfl (fun h => by rw [h]; rfl)) ?_
 refine qA (qN (qS (qR (qM ?_))))
 refine qe (Z7 [] rfl rfl rfl (Z2n _ _ hs) List.nodup_nil) ?_
 refine qM ?_
 refine Z9 (wF rfl rfl rfl rfl) rfl (fun hg => (Z0 rfl rfl rfl)) ?_
 refine Zl 0 (wF rfl rfl rfl rfl) rfl rfl (fun hg => (Za hg rfl)) rfl rfl Z6 ?_
 refine Z9 (wF rfl rfl rfl rfl) rfl (fun hg => (Zn rfl (Za hg rfl) rfl rfl)) ?_
 refine qe (Z0h rfl rfl rfl (fun h => by rw [h]; rfl)) ?_
 refine qM (qTM ?_)
 refine Z9 (wT rfl rfl rfl rfl) rfl (fun hg => (Z7 [] rfl rfl (Zc (Za hg rfl) (Zc rfl Z01)) (Z2n _ _ hs) List.nodup_nil)) ?_
 refine Z9 (wT rfl rfl rfl rfl) rfl (fun hg => (Z03 rfl (Za hg rfl))) ?_
 refine Z9 (wFg rfl rfl rfl rfl) rfl (fun hg => (Z0 rfl rfl rfl)) ?_
 refine Zl 0 (wFg rfl rfl rfl rfl) rfl rfl (fun hg => (Za hg rfl)) rfl rfl Z6 ?_
 refine Z9 (wFg rfl rfl rfl rfl) rfl (fun hg => (Zn rfl (Za hg rfl) rfl rfl)) ?_
 refine Z9 (wT rfl rfl rfl rfl) rfl (fun hg => (Z0h rfl (Za hg rfl) rfl (fun h => by first | (simp [h, hg]; done) | (rw [hg, h]; rfl) | (simp_all; done)))) ?_
 refine qe (Zq rfl rfl rfl (fun h => h)) ?_
 refine qM (qTM ?_)
 refine Z9 (wT rfl rfl rfl rfl) rfl (fun hg => (Z7 [] rfl rfl (Zc (Za hg rfl) (Zc rfl Z01)) (Z2n _ _ hs) List.nodup_nil)) ?_
 refine Z9 (wT rfl rfl rfl rfl) rfl (fun hg => (Z03 rfl (Za hg rfl))) ?_
 refine Z9 (wFg rfl rfl rfl rfl) rfl (fun hg => (Z0 rfl rfl rfl)) ?_
 refine Zl 0 (wFg rfl rfl rfl rfl) rfl rfl (fun hg => (Za hg rfl)) rfl rfl Z6 ?_
 refine Z9 (wFg rfl rfl rfl rfl) rfl (fun hg => (Zn rfl (Za hg rfl) rfl rfl)) ?_
 refine Z9 (wT rfl rfl rfl rfl) rfl (fun hg => (Z0h rfl (Za hg rfl) rfl (fun h => by first | (simp [h, hg]; done) | (rw [hg, h]; rfl) | (simp_all; done)))) ?_
 refine qe (Zq rfl rfl rfl (fun h => h)) ?_
 refine qM (qTM ?_)
 refine Z9 (wT rfl rfl rfl rfl) rfl (fun hg => (Z03 rfl (Za hg rfl))) ?_
 refine Z9 (wFg rfl rfl rfl rfl) rfl (fun hg => (Z0 rfl rfl rfl)) ?_
 refine Zl 0 (wFg rfl rfl rfl rfl) rfl rfl (fun hg => (Za hg rfl)) rfl rfl Z6 ?_
 refine Z9 (wFg rfl rfl rfl rfl) rfl (fun hg => (Zn rfl (Za hg rfl) rfl rfl)) ?_
 refine Z9 (wT rfl rfl rfl rfl) rfl (fun hg => (Z0h rfl (Za hg rfl) rfl (fun h => by first | (simp [h, hg]; done) | (rw [hg, h]; rfl) | (simp_all; done)))) ?_
 refine qe (Zq rfl rfl rfl (fun h => h)) ?_
 refine qM (qTM ?_)
 refine Z9 (wT rfl rfl rfl rfl) rfl (fun hg => (Z03 rfl (Za hg rfl))) ?_
 refine Z9 (wFg rfl rfl rfl rfl) rfl (fun hg => (Z0 rfl rfl rfl)) ?_
 refine Zl 0 (wFg rfl rfl rfl rfl) rfl rfl (fun hg => (Za hg rfl)) rfl rfl Z6 ?_
 refine Z9 (wFg rfl rfl rfl rfl) rfl (fun hg => (Z0l rfl (Za hg rfl) rfl rfl)) ?_
 refine Z9 (wT rfl rfl rfl rfl) rfl (fun hg => (Z0h rfl (Za hg rfl) rfl (fun h => by first | (simp [h, hg]; done) | (rw [hg, h]; rfl) | (simp_all; done)))) ?_
 refine qe (Zq rfl rfl rfl (fun h => h)) ?_
 refine qM (qTM ?_)
 refine Z9 (wT rfl rfl rfl rfl) rfl (fun hg => (Z03 rfl (Za hg rfl))) ?_
 refine Z9 (wFg rfl rfl rfl rfl) rfl (fun hg => (Z0 rfl rfl rfl)) ?_
 refine Zl 0 (wFg rfl rfl rfl rfl) rfl rfl (fun hg => (Za hg rfl)) rfl rfl Z6 ?_
 refine Z9 (wFg rfl rfl rfl rfl) rfl (fun hg => (Z0l rfl (Za hg rfl) rfl rfl)) ?_
 refine Z9 (wT rfl rfl rfl rfl) rfl (fun hg => (Z0h rfl (Za hg rfl) rfl (fun h => by first | (simp [h, hg]; done) | (rw [hg, h]; rfl) | (simp_all; done)))) ?_
 refine qe (Zq rfl rfl rfl (fun h => h)) ?_
 refine qM (qTM ?_)
 refine Z9 (wT rfl rfl rfl rfl) rfl (fun hg => (Z7 [] rfl rfl (Zc (Za hg rfl) (Zc rfl Z01)) (Z2n _ _ hs) List.nodup_nil)) ?_
 refine Z9 (wT rfl rfl rfl rfl) rfl (fun hg => (Z03 rfl (Za hg rfl))) ?_
 refine Z9 (wFg rfl rfl rfl rfl) rfl (fun hg => (Z0 rfl rfl rfl)) ?_
 refine Zl 0 (wFg rfl rfl rfl rfl) rfl rfl (fun hg => (Za hg rfl)) rfl rfl Z6 ?_
 refine Z9 (wFg rfl rfl rfl rfl) rfl (fun hg => (Z0l rfl (Za hg rfl) rfl rfl)) ?_
 refine Z9 (wT rfl rfl rfl rfl) rfl (fun hg => (Z0h rfl (Za hg rfl) rfl (fun h => by first | (simp [h, hg]; done) | (rw [hg, h]; rfl) | (simp_all; done)))) ?_
 refine qe (Zq rfl rfl rfl (fun h => h)) ?_
 refine qM (qTM ?_)
 refine Z9 (wT rfl rfl rfl rfl) rfl (fun hg => (Z7 [] rfl rfl (Zc (Za hg rfl) (Zc rfl Z01)) (Z2n _ _ hs) List.nodup_nil)) ?_
 refine Z9 (wT rfl rfl rfl rfl) rfl (fun hg => (Z03 rfl (Za hg rfl))) ?_
 refine Z9 (wFg rfl rfl rfl rfl) rfl (fun hg => (Z0 rfl rfl rfl)) ?_
 refine Zl 0 (wFg rfl rfl rfl rfl) rfl rfl (fun hg => (Za hg rfl)) rfl rfl Z6 ?_
 refine Z9 (wFg rfl rfl rfl rfl) rfl (fun hg => (Zs rfl (Za hg rfl) rfl rfl)) ?_
 refine Z9 (wFg rfl rfl rfl rfl) rfl (fun hg => (Zn rfl (Za hg rfl) rfl rfl)) ?_
 refine Z9 (wT rfl rfl rfl rfl) rfl (fun hg => (Z0h rfl (Za hg rfl) rfl (fun h => by first | (simp [h, hg]; done) | (rw [hg, h]; rfl) | (simp_all; done)))) ?_
 refine qe (Zq rfl rfl rfl (fun h => h)) ?_
 refine qA (qN (qE ?_))
 exact Z0k rfl (Z4 rfl Z3) (gb (by rw [List.length_map]; rfl))
theorem Zhc (x : Instr) (u : Str) (hs : small u.size) : ACalls Tryz.prog 170 [.agg x.cells, sA u] [] (Gives (bA (namedI x u))) := by
 refine Ze (n := 50) Tryz.func170 rfl (by decide +kernel) rfl rfl ?_
 refine qS (qR ?_)
 refine Z04 (w0 rfl) rfl (fun id => Z0a id rfl rfl rfl rfl rfl) (fun id1 => ?_)
 refine qA (qN (qS (qS (qR (qM ?_)))))
 refine qe (Z7 [] rfl rfl rfl (Z2n _ _ hs) List.nodup_nil) ?_
 refine qM (qFM ?_)
 refine Z9 (wF rfl rfl rfl rfl) rfl (fun hg => (Z7 [] rfl rfl (Zc (Za hg rfl) (Zc rfl Z01)) (Z2n _ _ hs) List.nodup_nil)) ?_
 refine qe (Z0h rfl rfl rfl (fun h => by rw [h]; rfl)) ?_
 refine qM (qFM ?_)
 refine Z9 (wF rfl rfl rfl rfl) rfl (fun hg => (Z7 [] rfl rfl (Zc (Za hg rfl) (Zc rfl Z01)) (Z2n _ _ hs) List.nodup_nil)) ?_
 refine qe (Z0h rfl rfl rfl (fun h => by rw [h]; rfl)) ?_
 refine qM ?_
 refine Z9 (wT rfl rfl rfl rfl) rfl (fun hg => (Z0 rfl rfl rfl)) ?_
 refine Zl 0 (wT rfl rfl rfl rfl) rfl rfl (fun hg => (Za hg rfl)) rfl rfl Z6 ?_
 refine Z9 (wT rfl rfl rfl rfl) rfl (fun hg => (Z7 [] rfl rfl (Zc (Za hg rfl) Z01) (Z3g _) List.nodup_nil)) ?_
 refine Z9 (wT rfl rfl rfl rfl) rfl (fun hg => (Zy rfl (Za hg rfl))) ?_
 refine qe (Zq rfl rfl rfl (fun h => h)) ?_
 refine qN ?_
 refine Z2 rfl ?_ ?_
 ·intro hc
  have t1 : (hCls u && !clsW x.cls) = true := hc
  refine qS (qR (qA (qN (qE ?_))))
  exact Z0k rfl (Z4 rfl Z3) (gb (by unfold namedI; rw [t1]; rfl))
 ·intro hc
  have t1 : (hCls u && !clsW x.cls) = false := hc
  refine qK (qS (qS (qR (qM ?_))))
  refine qe (Z7 [] rfl rfl rfl (Z2n _ _ hs) List.nodup_nil) ?_
  refine qM (qFM ?_)
  refine Z9 (wF rfl rfl rfl rfl) rfl (fun hg => (Z7 [] rfl rfl (Zc (Za hg rfl) (Zc rfl Z01)) (Z2n _ _ hs) List.nodup_nil)) ?_
  refine qe (Z0h rfl rfl rfl (fun h => by rw [h]; rfl)) ?_
  refine qM ?_
  refine Z9 (wT rfl rfl rfl rfl) rfl (fun hg => (Z0 rfl rfl rfl)) ?_
  refine Zl 0 (wT rfl rfl rfl rfl) rfl rfl (fun hg => (Za hg rfl)) rfl rfl Z6 ?_
  refine Z9 (wT rfl rfl rfl rfl) rfl (fun hg => (Z7 [] rfl rfl (Zc (Za hg rfl) Z01) (Z6w _) List.nodup_nil)) ?_
  refine Z9 (wT rfl rfl rfl rfl) rfl (fun hg => (Zy rfl (Za hg rfl))) ?_
  refine qe (Zq rfl rfl rfl (fun h => h)) ?_
  refine qN ?_
  refine Z2 rfl ?_ ?_
  ·intro hc
   have t2 : (hNam u && !nameW x.name) = true := hc
   refine qS (qR (qA (qN (qE ?_))))
   exact Z0k rfl (Z4 rfl Z3) (gb (by unfold namedI; rw [t1, t2]; rfl))
  ·intro hc
   have t2 : (hNam u && !nameW x.name) = false := hc
   refine qK (qS (qR ?_))
   refine qe (Z0 rfl rfl rfl) ?_
   refine qL 0 Z6 ?_
   refine Z15 (w0 rfl) rfl rfl rfl rfl (Z8x _) (fun v2 hv2 => ?_)
   obtain ⟨ps, ⟨tk, tc⟩, er⟩ := v2
   have hsp := hv2
   have hps : ps.length ≤ 8 := Z64 hv2
   refine qM ?_
   refine qe (Zh rfl rfl rfl) ?_
   refine qe (Zh rfl rfl rfl) ?_
   refine qe (Zh rfl rfl rfl) ?_
   refine Z04 (w0 rfl) rfl (fun id => Z08 id rfl rfl rfl) (fun id3 => ?_)
   refine qA ?_
   refine Zu 0 (w0 rfl) rfl rfl rfl rfl rfl rfl rfl rfl rfl ?_
   refine qA (qN (qS (qR (qM ?_))))
   refine qe (Z7 [] rfl rfl rfl (Z2n _ _ hs) List.nodup_nil) ?_
   refine qe (Zy rfl rfl) ?_
   refine qM (qFM ?_)
   refine Z9 (wF rfl rfl rfl rfl) rfl (fun hg => (Zn rfl (Za hg rfl) rfl rfl)) ?_
   refine qe (Z0h rfl rfl rfl (fun h => by rw [h]; rfl)) ?_
   refine qA (qN (qE ?_))
   exact Z0k rfl (Z4 rfl Z3) (gb (by unfold namedI; rw [t1, t2, ← hsp]; rfl))
theorem Zi8 (x : Instr) (hx : x.ok) (n m : Int) : ACalls Tryz.prog 130 [.agg x.cells, iA n, iA m] [] (Gives (iA (fitsI x n m))) := by
 have ha := hx.args.1
 simp only [small] at ha
 refine Ze (n := 143) Tryz.func130 rfl (by decide +kernel) rfl rfl ?_
 refine qS (qR ?_)
 refine Z04 (w0 rfl) rfl (fun id => Z0a id rfl rfl rfl rfl rfl) (fun id1 => ?_)
 refine qA (qN (qS (qR ?_)))
 refine qe (Z0 rfl rfl rfl) ?_
 refine qL 0 Z6 ?_
 refine Z15 (w0 rfl) rfl rfl rfl rfl (Zhd _) (fun v2 hv2 => ?_)
 have hs : small v2.size := (by rw [hv2]; have := Zg2 x.op; unfold small; omega)
 have hsh : v2 = shapeS x.op := hv2
 refine qA (qN (qS (qS (qR ?_))))
 refine qe (Z0 rfl rfl rfl) ?_
 refine qL 0 Z6 ?_
 refine qe eI ?_
 refine qM ?_
 refine Z9 (wF rfl rfl rfl rfl) rfl (fun hg => (Z0 rfl rfl rfl)) ?_
 refine Zl 0 (wF rfl rfl rfl rfl) rfl rfl (fun hg => (Za hg rfl)) rfl rfl Z6 ?_
 refine Z9 (wF rfl rfl rfl rfl) rfl (fun hg => (Zn rfl (Za hg rfl) rfl rfl)) ?_
 refine qe (Z0h rfl rfl rfl (fun h => by rw [h]; rfl)) ?_
 refine qM ?_
 refine Zl 0 (wF rfl rfl rfl rfl) rfl rfl (fun hg => rfl) rfl rfl (Z00 (Nat.le_of_ble_eq_true rfl)) ?_
 refine qFM ?_
 refine Z9 (wF rfl rfl rfl rfl) rfl (fun hg => (Z7 [] rfl rfl (Zc (Za hg rfl) (Zc (Za hg rfl) Z01)) (Zgx _ _ hs) List.nodup_nil)) ?_
 refine Z9 (wF rfl rfl rfl rfl) rfl (fun hg => (Zy rfl (Za hg rfl))) ?_
 refine qe (Z0h rfl rfl rfl (fun h => by rw [h]; rfl)) ?_
 refine qM ?_
 refine Zl 0 (wF rfl rfl rfl rfl) rfl rfl (fun hg => rfl) rfl rfl (Z00 (Nat.le_of_ble_eq_true rfl)) ?_
 refine qFM ?_
 refine Z9 (wF rfl rfl rfl rfl) rfl (fun hg => (Z7 [] rfl rfl (Zc (Za hg rfl) (Zc (Za hg rfl) Z01)) (Zhc _ _ hs) List.nodup_nil)) ?_
 refine Z9 (wF rfl rfl rfl rfl) rfl (fun hg => (Zy rfl (Za hg rfl))) ?_
 refine qe (Z0h rfl rfl rfl (fun h => by rw [h]; rfl)) ?_
 refine qN ?_
 refine Z2 rfl ?_ ?_
 ·intro hc
  have t2 : (((decide (x.op < 1) || decide (x.op > 32)) || !emptyI x v2) || !namedI x v2) = true := hc
  refine qS (qR (qA (qN (qE ?_))))
  exact Z0k rfl (Z4 rfl Z3) (gi (by unfold fitsI; rw [← hsh, if_pos t2]))
 ·intro hc
  have t2 : (((decide (x.op < 1) || decide (x.op > 32)) || !emptyI x v2) || !namedI x v2) = false := hc
  refine qK (qS (qR (qA (qN ?_))))
  refine Z3t (α := Unit) (fun zu => ⟨[(3, .ptr id1 9 0 0), (1, iA n), (2, iA m), (7, sA v2), (8, bA (voidI x))], [(id1, .rows 60 9 [x.cells])], [], 143⟩) (fun zu => (isCallO x.op && !((x.args.length : Int) == argsN x)) = false) ?_ ?_
  ·skip
   refine qS (qR ?_)
   refine qe (Z0 rfl rfl rfl) ?_
   refine qL 0 Z6 ?_
   refine qe (Z7 [] rfl rfl rfl (Zex _) List.nodup_nil) ?_
   refine qN ?_
   refine Z2 rfl ?_ ?_
   ·intro hc
    have t5 : isCallO x.op = true := hc
    refine qS (qR ?_)
    refine qe (Z0 rfl rfl rfl) ?_
    refine qL 0 Z6 ?_
    refine Z15 (w0 rfl) rfl rfl rfl rfl (Z8x _) (fun v3 hv3 => ?_)
    obtain ⟨ps, ⟨tk, tc⟩, er⟩ := v3
    have hsp := hv3
    have hps : ps.length ≤ 8 := Z64 hv3
    refine qM ?_
    refine qe (Zh rfl rfl rfl) ?_
    refine qe (Zh rfl rfl rfl) ?_
    refine qe (Zh rfl rfl rfl) ?_
    refine Z04 (w0 rfl) rfl (fun id => Z08 id rfl rfl rfl) (fun id4 => ?_)
    refine qA ?_
    refine Zu 0 (w0 rfl) rfl rfl rfl rfl rfl rfl rfl rfl rfl ?_
    refine qA (qN (qS (qR (qM ?_))))
    refine qe (Zs rfl rfl rfl rfl) ?_
    refine qA (qN ?_)
    refine Z3t (α := Unit) (fun zu => ⟨[(3, .ptr id1 9 0 0), (1, iA n), (2, iA m), (7, sA v2), (10, .ptr id4 2 0 0), (12, iA (argsN x))], [(id4, .rows 68 2 [[iA tk, sA tc]]), (id1, .rows 60 9 [x.cells])], [], 143⟩) (fun zu => True) ?_ ?_
    ·skip
     refine qS (qR ?_)
     refine qe (Z0 rfl rfl rfl) ?_
     refine qL 1 Z6 ?_
     refine qe eI ?_
     refine qN ?_
     refine Z2 rfl ?_ ?_
     ·intro hc
      have t8 : (x.op != 19) = true := hc
      refine qR (qM ?_)
      refine qe (Zb rfl rfl rfl (Zp (by first | omega | (simp only [List.length_map]; omega)))) ?_
      refine qA (qN ?_)
      refine ⟨(), trivial, ?_⟩
      exact qp [0, 1] ⟨rfl, rfl, rfl, rfl, rfl, (congrArg (fun b => some (iA b)) (by unfold argsN; rw [if_pos (by simpa using t8), ← hsp]; simp)), trivial⟩
     ·intro hc
      have t8 : (x.op != 19) = false := hc
      refine qK ?_
      refine ⟨(), trivial, ?_⟩
      exact qp [0, 1] ⟨rfl, rfl, rfl, rfl, rfl, (congrArg (fun b => some (iA b)) (by unfold argsN; rw [if_neg (by simpa using t8), ← hsp]; simp)), trivial⟩
    ·rintro ⟨⟩ _
     refine qS (qS (qR ?_))
     refine qe (Z0 rfl rfl rfl) ?_
     refine qL 1 Z6 ?_
     refine qe (Zs rfl rfl rfl rfl) ?_
     refine qM ?_
     refine qe eI ?_
     refine qN ?_
     refine Z2 rfl ?_ ?_
     ·intro hc
      have t10 : (!((x.args.length : Int) == argsN x)) = true := by have h := hc; rw [List.length_map] at h; exact h
      refine qS (qR (qA (qN (qE ?_))))
      exact Z0k rfl (Z4 rfl Z3) (gi (by unfold fitsI; rw [← hsh, if_neg (by rw [t2]; simp), if_pos (by rw [t5, Bool.true_and]; exact t10)]))
     ·intro hc
      have t10 : (!((x.args.length : Int) == argsN x)) = false := by have h := hc; rw [List.length_map] at h; exact h
      refine qK (qR ?_)
      refine qe (Z0 rfl rfl rfl) ?_
      refine qL 0 Z6 ?_
      refine qe eI ?_
      refine qA (qN ?_)
      refine ⟨(), (by rw [t5, Bool.true_and, t10]), ?_⟩
      exact qp [1] ⟨rfl, rfl, rfl, rfl, (congrArg (fun b => some (bA b)) (by unfold voidI; rw [t5, ← hsp]; rfl)), trivial⟩
   ·intro hc
    have t5 : isCallO x.op = false := hc
    refine qK ?_
    refine ⟨(), (by rw [t5]; rfl), ?_⟩
    exact qp [0] ⟨rfl, rfl, rfl, rfl, (congrArg (fun b => some (bA b)) (by unfold voidI; rw [t5]; rfl)), trivial⟩
  ·rintro ⟨⟩ hJ5
   refine qS (qS (qR (qM ?_)))
   refine qe (Z7 [] rfl rfl rfl (Z2n _ _ hs) List.nodup_nil) ?_
   refine qM ?_
   refine Z9 (wT rfl rfl rfl rfl) rfl (fun hg => (Z0 rfl rfl rfl)) ?_
   refine Zl 0 (wT rfl rfl rfl rfl) rfl rfl (fun hg => (Za hg rfl)) rfl rfl Z6 ?_
   refine qTM ?_
   refine Z9 (wT rfl rfl rfl rfl) rfl (fun hg => (Z7 [] rfl rfl (Zc (Za hg rfl) (Zc (Za hg rfl) Z01)) (Zf4 _ _) List.nodup_nil)) ?_
   refine Z9 (wT rfl rfl rfl rfl) rfl (fun hg => (Zy rfl (Za hg rfl))) ?_
   refine qe (Zq rfl rfl rfl (fun h => h)) ?_
   refine qM (qFM ?_)
   refine Z9 (wF rfl rfl rfl rfl) rfl (fun hg => (Z7 [] rfl rfl (Zc (Za hg rfl) (Zc rfl Z01)) (Z2n _ _ hs) List.nodup_nil)) ?_
   refine Z9 (wF rfl rfl rfl rfl) rfl (fun hg => (Z03 rfl (Za hg rfl))) ?_
   refine Z9 (wTg rfl rfl rfl rfl) rfl (fun hg => (Z0 rfl rfl rfl)) ?_
   refine Zl 0 (wTg rfl rfl rfl rfl) rfl rfl (fun hg => (Za hg rfl)) rfl rfl Z6 ?_
   refine Z9 (wTg rfl rfl rfl rfl) rfl (fun hg => (Z03 rfl rfl)) ?_
   refine Z9 (wTg rfl rfl rfl rfl) rfl (fun hg => (Z7 [] rfl rfl (Zc (Za hg rfl) (Zc (Za hg rfl) Z01)) (Zf4 _ _) List.nodup_nil)) ?_
   refine Z9 (wTg rfl rfl rfl rfl) rfl (fun hg => (Zy rfl (Za hg rfl))) ?_
   refine Z9 (wF rfl rfl rfl rfl) rfl (fun hg => (Zq rfl (Za hg rfl) rfl (fun h => by first | (simp [h, hg]; done) | (rw [hg, h]; rfl) | (simp_all; done)))) ?_
   refine qe (Z0h rfl rfl rfl (fun h => by rw [h]; rfl)) ?_
   refine qM (qFM ?_)
   refine Z9 (wF rfl rfl rfl rfl) rfl (fun hg => (Z7 [] rfl rfl (Zc (Za hg rfl) (Zc rfl Z01)) (Z2n _ _ hs) List.nodup_nil)) ?_
   refine Z9 (wF rfl rfl rfl rfl) rfl (fun hg => (Z03 rfl (Za hg rfl))) ?_
   refine Z9 (wTg rfl rfl rfl rfl) rfl (fun hg => (Z0 rfl rfl rfl)) ?_
   refine Zl 0 (wTg rfl rfl rfl rfl) rfl rfl (fun hg => (Za hg rfl)) rfl rfl Z6 ?_
   refine Z9 (wTg rfl rfl rfl rfl) rfl (fun hg => (Z03 rfl rfl)) ?_
   refine Z9 (wTg rfl rfl rfl rfl) rfl (fun hg => (Z7 [] rfl rfl (Zc (Za hg rfl) (Zc (Za hg rfl) Z01)) (Zf4 _ _) List.nodup_nil)) ?_
   refine Z9 (wTg rfl rfl rfl rfl) rfl (fun hg => (Zy rfl (Za hg rfl))) ?_
   refine Z9 (wF rfl rfl rfl rfl) rfl (fun hg => (Zq rfl (Za hg rfl) rfl (fun h => by first | (simp [h, hg]; done) | (rw [hg, h]; rfl) | (simp_all; done)))) ?_
   refine qe (Z0h rfl rfl rfl (fun h => by rw [h]; rfl)) ?_
   refine qM (qFM ?_)
   refine Z9 (wF rfl rfl rfl rfl) rfl (fun hg => (Z03 rfl (Za hg rfl))) ?_
   refine Z9 (wTg rfl rfl rfl rfl) rfl (fun hg => (Z0 rfl rfl rfl)) ?_
   refine Zl 0 (wTg rfl rfl rfl rfl) rfl rfl (fun hg => (Za hg rfl)) rfl rfl Z6 ?_
   refine Z9 (wTg rfl rfl rfl rfl) rfl (fun hg => (Zn rfl (Za hg rfl) rfl rfl)) ?_
   refine Z9 (wF rfl rfl rfl rfl) rfl (fun hg => (Zq rfl (Za hg rfl) rfl (fun h => by first | (simp [h, hg]; done) | (rw [hg, h]; rfl) | (simp_all; done)))) ?_
   refine qe (Z0h rfl rfl rfl (fun h => by rw [h]; rfl)) ?_
   refine qN ?_
   refine Z2 rfl ?_ ?_
   ·intro hc
    have t13 : ((((hasL v2 97 && !wthI x.a n) || (hasL v2 98 && !wthI x.b n)) || (hasL v2 99 && !wthI x.c n)) || (voidI x && !(x.a == 0))) = true := hc
    refine qS (qR (qA (qN (qE ?_))))
    exact Z0k rfl (Z4 rfl Z3) (gi (by unfold fitsI; rw [← hsh, if_neg (by rw [t2]; simp), if_neg (by rw [hJ5]; simp), if_pos t13]))
   ·intro hc
    have t13 : ((((hasL v2 97 && !wthI x.a n) || (hasL v2 98 && !wthI x.b n)) || (hasL v2 99 && !wthI x.c n)) || (voidI x && !(x.a == 0))) = false := hc
    refine qK (qS (qS (qR (qA (qN (qB ?_))))))
    refine Zk (α := Nat) (fun i => ⟨[(13, iA i), (3, .ptr id1 9 0 0), (1, iA n), (2, iA m), (7, sA v2)], [(id1, .rows 60 9 [x.cells])], [], 143⟩) (fun i => (x.args.drop i).any (fun a => !wthI a n) = x.args.any (fun a => !wthI a n)) (fun i => x.args.length - i) 0 rfl ?_ ?_
    ·exact Zi [0] ⟨rfl, rfl, rfl, rfl, rfl, trivial⟩ rfl (by decide) rfl rfl
    rintro i hJ
    refine qS (qS (qR (qM ?_)))
    refine qe (Z0 rfl rfl rfl) ?_
    refine qL 0 Z6 ?_
    refine qe (Zs rfl rfl rfl rfl) ?_
    refine qe eI ?_
    refine qN ?_
    refine Z2 rfl ?_ ?_
    ·intro hc
     have hi : i < x.args.length := by simpa using hc
     refine qK (qS (qB (qS (qR ?_))))
     refine qe (Z0 rfl rfl rfl) ?_
     refine qL 0 Z6 ?_
     refine qM ?_
     refine qe (Zf rfl rfl rfl (Z0b (fun _ => rfl)) (by first | omega | (simp only [List.length_map]; omega) | (simp only [List.length_map, List.length_drop]; omega)) (by first | omega | (simp only [List.length_map]; omega) | (simp only [List.length_map, List.length_drop]; omega))) ?_
     refine qe (Z05 rfl rfl (Z0e (by first | assumption | omega | (simp only [List.length_drop]; omega))) Z6) ?_
     refine qM ?_
     refine qe (Z7 [] rfl rfl rfl (Zf4 _ _) List.nodup_nil) ?_
     refine qe (Zy rfl rfl) ?_
     refine qN ?_
     refine Z2 rfl ?_ ?_
     ·intro hc
      have hq : (fun a => !wthI a n) x.args[i] = true := hc
      have t16 : x.args.any (fun a => !wthI a n) = true := Z26 hJ hi hq
      refine qS (qR (qA (qN (qE ?_))))
      exact Z0k rfl (Z4 rfl Z3) (gi (by unfold fitsI; rw [← hsh, if_neg (by rw [t2]; simp), if_neg (by rw [hJ5]; simp), if_neg (by rw [t13]; simp), if_pos t16]))
     ·intro hc
      have hq : (fun a => !wthI a n) x.args[i] = false := hc
      refine qK (qR (qM ?_))
      refine qe (Zb rfl rfl rfl (Zp (by first | omega | (simp only [List.length_map]; omega)))) ?_
      refine qA (qN ?_)
      refine ⟨i + 1, (Z27 hJ hi hq), (by omega), ?_⟩
      exact qp [0] ⟨rfl, rfl, rfl, rfl, rfl, trivial⟩
    ·intro hc
     have hi : ¬ i < x.args.length := by simpa using hc
     have t16 : x.args.any (fun a => !wthI a n) = false := Z2t hJ hi
     refine qX (qS (qS (qR (qM ?_))))
     refine qe (Z7 [] rfl rfl rfl (Z2n _ _ hs) List.nodup_nil) ?_
     refine qM ?_
     refine Z9 (wT rfl rfl rfl rfl) rfl (fun hg => (Z0 rfl rfl rfl)) ?_
     refine Zl 0 (wT rfl rfl rfl rfl) rfl rfl (fun hg => (Za hg rfl)) rfl rfl Z6 ?_
     refine Z9 (wT rfl rfl rfl rfl) rfl (fun hg => (Zn rfl (Za hg rfl) rfl rfl)) ?_
     refine Z9 (wT rfl rfl rfl rfl) rfl (fun hg => (Z03 rfl (Za hg rfl))) ?_
     refine Z9 (wFg rfl rfl rfl rfl) rfl (fun hg => (Z0 rfl rfl rfl)) ?_
     refine Zl 0 (wFg rfl rfl rfl rfl) rfl rfl (fun hg => (Za hg rfl)) rfl rfl Z6 ?_
     refine Z9 (wFg rfl rfl rfl rfl) rfl (fun hg => (Z03 rfl rfl)) ?_
     refine Z9 (wFg rfl rfl rfl rfl) rfl (fun hg => (Zn rfl (Za hg rfl) (Za hg rfl) rfl)) ?_
     refine Z9 (wT rfl rfl rfl rfl) rfl (fun hg => (Z0h rfl (Za hg rfl) rfl (fun h => by first | (simp [h, hg]; done) | (rw [hg, h]; rfl) | (simp_all; done)))) ?_
     refine qe (Zq rfl rfl rfl (fun h => h)) ?_
     refine qM (qFM ?_)
     refine Z9 (wF rfl rfl rfl rfl) rfl (fun hg => (Z7 [] rfl rfl (Zc (Za hg rfl) (Zc rfl Z01)) (Z2n _ _ hs) List.nodup_nil)) ?_
     refine Z9 (wF rfl rfl rfl rfl) rfl (fun hg => (Z03 rfl (Za hg rfl))) ?_
     refine Z9 (wTg rfl rfl rfl rfl) rfl (fun hg => (Z0 rfl rfl rfl)) ?_
     refine Zl 0 (wTg rfl rfl rfl rfl) rfl rfl (fun hg => (Za hg rfl)) rfl rfl Z6 ?_
     refine Z9 (wTg rfl rfl rfl rfl) rfl (fun hg => (Zn rfl (Za hg rfl) rfl rfl)) ?_
     refine Z9 (wTg rfl rfl rfl rfl) rfl (fun hg => (Z03 rfl (Za hg rfl))) ?_
     refine Z9 (wFg rfl rfl rfl rfl) rfl (fun hg => (Z0 rfl rfl rfl)) ?_
     refine Zl 0 (wFg rfl rfl rfl rfl) rfl rfl (fun hg => (Za hg rfl)) rfl rfl Z6 ?_
     refine Z9 (wFg rfl rfl rfl rfl) rfl (fun hg => (Zn rfl (Za hg rfl) rfl rfl)) ?_
     refine Z9 (wTg rfl rfl rfl rfl) rfl (fun hg => (Z0h rfl (Za hg rfl) rfl (fun h => by first | (simp [h, hg]; done) | (rw [hg, h]; rfl) | (simp_all; done)))) ?_
     refine Z9 (wF rfl rfl rfl rfl) rfl (fun hg => (Zq rfl (Za hg rfl) rfl (fun h => by first | (simp [h, hg]; done) | (rw [hg, h]; rfl) | (simp_all; done)))) ?_
     refine qe (Z0h rfl rfl rfl (fun h => by rw [h]; rfl)) ?_
     refine qN ?_
     refine Z2 rfl ?_ ?_
     ·intro hc
      have t20 : ((hasL v2 116 && (decide (x.k < 0) || decide (x.k ≥ m))) || (hasL v2 114 && (decide (x.k < 0) || decide (x.k > 9)))) = true := hc
      refine qS (qR (qA (qN (qE ?_))))
      exact Z0k rfl (Z4 rfl Z3) (gi (by unfold fitsI; rw [← hsh, if_neg (by rw [t2]; simp), if_neg (by rw [hJ5]; simp), if_neg (by rw [t13]; simp), if_neg (by rw [t16]; simp), if_pos t20]))
     ·intro hc
      have t20 : ((hasL v2 116 && (decide (x.k < 0) || decide (x.k ≥ m))) || (hasL v2 114 && (decide (x.k < 0) || decide (x.k > 9)))) = false := hc
      refine qK (qS (qR (qA (qN (qE ?_)))))
      exact Z0k rfl (Z4 rfl Z3) (gi (by unfold fitsI; rw [← hsh, if_neg (by rw [t2]; simp), if_neg (by rw [hJ5]; simp), if_neg (by rw [t13]; simp), if_neg (by rw [t16]; simp), if_neg (by rw [t20]; simp)]))
theorem Zf0 (m : Meth) (hm : m.ok) : ACalls Tryz.prog 104 [.agg m.cells] [] (Gives (bA (methR m))) := by
 have hcl := hm.code.1
 simp only [small] at hcl
 refine Ze (n := 108) Tryz.func104 rfl (by decide +kernel) rfl rfl ?_
 refine qS (qR ?_)
 refine Z04 (w0 rfl) rfl (fun id => Z0a id rfl rfl rfl rfl rfl) (fun id1 => ?_)
 refine qA (qN (qS (qR ?_)))
 refine qe (Z0 rfl rfl rfl) ?_
 refine qL 0 Z6 ?_
 refine Z15 (w0 rfl) rfl rfl rfl rfl (Z8x _) (fun v2 hv2 => ?_)
 obtain ⟨ps, ⟨tk, tc⟩, er⟩ := v2
 have hsp := hv2
 have hps : ps.length ≤ 8 := Z64 hv2
 have hs1 : (splitR m.desc).1 = ps := by rw [← hsp]
 have hs2 : (splitR m.desc).2.2 = er := by rw [← hsp]
 refine qM ?_
 refine qe (Zh rfl rfl rfl) ?_
 refine qe (Zh rfl rfl rfl) ?_
 refine qe (Zh rfl rfl rfl) ?_
 refine Z04 (w0 rfl) rfl (fun id => Z08 id rfl rfl rfl) (fun id3 => ?_)
 refine qA ?_
 refine Zu 0 (w0 rfl) rfl rfl rfl rfl rfl rfl rfl rfl rfl ?_
 refine qA (qN (qS (qS (qR (qM ?_)))))
 refine qe eI ?_
 refine qM ?_
 refine Z9 (wF rfl rfl rfl rfl) rfl (fun hg => (Z0 rfl rfl rfl)) ?_
 refine Zl 1 (wF rfl rfl rfl rfl) rfl rfl (fun hg => (Za hg rfl)) rfl rfl Z6 ?_
 refine Z9 (wF rfl rfl rfl rfl) rfl (fun hg => (Z7 [] rfl rfl (Zc (Za hg rfl) Z01) (Z6w _) List.nodup_nil)) ?_
 refine Z9 (wF rfl rfl rfl rfl) rfl (fun hg => (Zy rfl (Za hg rfl))) ?_
 refine qe (Z0h rfl rfl rfl (fun h => by rw [h]; rfl)) ?_
 refine qM ?_
 refine Z9 (wF rfl rfl rfl rfl) rfl (fun hg => (Z0 rfl rfl rfl)) ?_
 refine Zl 1 (wF rfl rfl rfl rfl) rfl rfl (fun hg => (Za hg rfl)) rfl rfl Z6 ?_
 refine Z9 (wF rfl rfl rfl rfl) rfl (fun hg => (Zn rfl (Za hg rfl) rfl rfl)) ?_
 refine qe (Z0h rfl rfl rfl (fun h => by rw [h]; rfl)) ?_
 refine qM ?_
 refine Z9 (wF rfl rfl rfl rfl) rfl (fun hg => (Z0 rfl rfl rfl)) ?_
 refine Zl 1 (wF rfl rfl rfl rfl) rfl rfl (fun hg => (Za hg rfl)) rfl rfl Z6 ?_
 refine Z9 (wF rfl rfl rfl rfl) rfl (fun hg => (Zn rfl (Za hg rfl) rfl rfl)) ?_
 refine qe (Z0h rfl rfl rfl (fun h => by rw [h]; rfl)) ?_
 refine qN ?_
 refine Z2 rfl ?_ ?_
 ·intro hc
  have t2 : (((!((splitR m.desc).2.2 == 0) || !nameW m.name) || decide (m.regs < 0)) || decide (m.regs > 32)) = true := by rw [hs2]; exact hc
  refine qS (qR (qA (qN (qE ?_))))
  exact Z0k rfl (Z4 rfl Z3) (gb (by unfold methR; rw [if_pos t2]))
 ·intro hc
  have t2 : (((!((splitR m.desc).2.2 == 0) || !nameW m.name) || decide (m.regs < 0)) || decide (m.regs > 32)) = false := by rw [hs2]; exact hc
  refine qK (qS (qS (qR ?_)))
  refine qe (Z0 rfl rfl rfl) ?_
  refine qL 1 Z6 ?_
  refine qN ?_
  refine Z2 rfl ?_ ?_
  ·intro hc
   have t4 : m.abs = true := hc
   refine qS (qR ?_)
   refine qe (Z0 rfl rfl rfl) ?_
   refine qL 1 Z6 ?_
   refine qe (Zy rfl rfl) ?_
   refine qM ?_
   refine Z9 (wT rfl rfl rfl rfl) rfl (fun hg => (Z0 rfl rfl rfl)) ?_
   refine Zl 1 (wT rfl rfl rfl rfl) rfl rfl (fun hg => (Za hg rfl)) rfl rfl Z6 ?_
   refine Z9 (wT rfl rfl rfl rfl) rfl (fun hg => (Z0l rfl (Za hg rfl) rfl rfl)) ?_
   refine qe (Zq rfl rfl rfl (fun h => h)) ?_
   refine qM ?_
   refine Z9 (wT rfl rfl rfl rfl) rfl (fun hg => (Z0 rfl rfl rfl)) ?_
   refine Zl 1 (wT rfl rfl rfl rfl) rfl rfl (fun hg => (Za hg rfl)) rfl rfl Z6 ?_
   refine Z9 (wT rfl rfl rfl rfl) rfl (fun hg => (Zs rfl (Za hg rfl) rfl rfl)) ?_
   refine Z9 (wT rfl rfl rfl rfl) rfl (fun hg => (Zn rfl (Za hg rfl) rfl rfl)) ?_
   refine qe (Zq rfl rfl rfl (fun h => h)) ?_
   refine qM ?_
   refine Z9 (wT rfl rfl rfl rfl) rfl (fun hg => (Z0 rfl rfl rfl)) ?_
   refine Zl 1 (wT rfl rfl rfl rfl) rfl rfl (fun hg => (Za hg rfl)) rfl rfl Z6 ?_
   refine Z9 (wT rfl rfl rfl rfl) rfl (fun hg => (Zn rfl (Za hg rfl) rfl rfl)) ?_
   refine qe (Zq rfl rfl rfl (fun h => h)) ?_
   refine qA (qN (qE ?_))
   exact Z0k rfl (Z4 rfl Z3) (gb (by unfold methR; rw [if_neg (by rw [t2]; simp), if_pos t4]; rw [List.length_map]; rfl))
  ·intro hc
   have t4 : m.abs = false := hc
   refine qK (qS (qR (qM ?_)))
   refine qe (Zs rfl rfl rfl rfl) ?_
   refine qA (qN ?_)
   refine Z3t (α := Unit) (fun zu => ⟨[(1, .ptr id1 6 0 0), (6, iA (if m.static then (ps.length : Int) else (ps.length : Int) + 1))], [(id1, .rows 56 6 [m.cells])], [], 108⟩) (fun zu => True) ?_ ?_
   ·skip
    refine qS (qR ?_)
    refine qe (Z0 rfl rfl rfl) ?_
    refine qL 1 Z6 ?_
    refine qe (Zy rfl rfl) ?_
    refine qN ?_
    refine Z2 rfl ?_ ?_
    ·intro hc
     have t7 : (!m.static) = true := hc
     refine qR (qM ?_)
     refine qe (Zb rfl rfl rfl (Zp (by first | omega | (simp only [List.length_map]; omega)))) ?_
     refine qA (qN ?_)
     refine ⟨(), trivial, ?_⟩
     exact qp [1] ⟨rfl, (congrArg (fun b => some (iA b)) (by rw [if_neg (by simpa using t7)]; simp)), trivial⟩
    ·intro hc
     have t7 : (!m.static) = false := hc
     refine qK ?_
     refine ⟨(), trivial, ?_⟩
     exact qp [1] ⟨rfl, (congrArg (fun b => some (iA b)) (by rw [if_pos (by simpa using t7)]; simp)), trivial⟩
   ·rintro ⟨⟩ _
    refine qS (qS (qR ?_))
    refine qe (Z0 rfl rfl rfl) ?_
    refine qL 0 Z6 ?_
    refine qe (Zs rfl rfl rfl rfl) ?_
    refine qe eI ?_
    refine qM ?_
    refine Z9 (wF rfl rfl rfl rfl) rfl (fun hg => (Z0 rfl rfl rfl)) ?_
    refine Zl 0 (wF rfl rfl rfl rfl) rfl rfl (fun hg => (Za hg rfl)) rfl rfl Z6 ?_
    refine Z9 (wF rfl rfl rfl rfl) rfl (fun hg => (Zs rfl (Za hg rfl) rfl rfl)) ?_
    refine Z9 (wF rfl rfl rfl rfl) rfl (fun hg => (Zn rfl (Za hg rfl) rfl rfl)) ?_
    refine qe (Z0h rfl rfl rfl (fun h => by rw [h]; rfl)) ?_
    refine qM ?_
    refine Z9 (wF rfl rfl rfl rfl) rfl (fun hg => (Z0 rfl rfl rfl)) ?_
    refine Zl 0 (wF rfl rfl rfl rfl) rfl rfl (fun hg => (Za hg rfl)) rfl rfl Z6 ?_
    refine qFM ?_
    refine Z9 (wF rfl rfl rfl rfl) rfl (fun hg => (Zn rfl (Za hg rfl) (Za hg rfl) rfl)) ?_
    refine qe (Z0h rfl rfl rfl (fun h => by rw [h]; rfl)) ?_
    refine qN ?_
    refine Z2 rfl ?_ ?_
    ·intro hc
     have t9 : ((decide ((m.code.length : Int) < 1) || decide ((m.code.length : Int) > 256)) || decide (m.regs < (if m.static then ((splitR m.desc).1.length : Int) else ((splitR m.desc).1.length : Int) + 1))) = true := by have h := hc; simp only [List.length_map] at h; rw [hs1]; exact h
     refine qS (qR (qA (qN (qE ?_))))
     exact Z0k rfl (Z4 rfl Z3) (gb (by unfold methR; rw [if_neg (by rw [t2]; simp), if_neg (by rw [t4]; simp), if_pos t9]))
    ·intro hc
     have t9 : ((decide ((m.code.length : Int) < 1) || decide ((m.code.length : Int) > 256)) || decide (m.regs < (if m.static then ((splitR m.desc).1.length : Int) else ((splitR m.desc).1.length : Int) + 1))) = false := by have h := hc; simp only [List.length_map] at h; rw [hs1]; exact h
     refine qK (qS (qS (qR (qA (qN (qB ?_))))))
     refine Zk (α := Nat) (fun i => ⟨[(7, iA i), (1, .ptr id1 6 0 0)], [(id1, .rows 56 6 [m.cells])], [], 108⟩) (fun i => (m.code.drop i).any (fun x : Instr => !(fitsI x m.regs m.code.length == 0)) = m.code.any (fun x : Instr => !(fitsI x m.regs m.code.length == 0))) (fun i => m.code.length - i) 0 rfl ?_ ?_
     ·exact Zi [0] ⟨rfl, rfl, trivial⟩ rfl (by decide) rfl rfl
     rintro i hJ
     refine qS (qS (qR (qM ?_)))
     refine qe (Z0 rfl rfl rfl) ?_
     refine qL 0 Z6 ?_
     refine qe (Zs rfl rfl rfl rfl) ?_
     refine qe eI ?_
     refine qN ?_
     refine Z2 rfl ?_ ?_
     ·intro hc
      have hi : i < m.code.length := by simpa using hc
      refine qK (qS (qB (qS ?_)))
      refine Z0o 12 rfl (by kernel_rfl) ?_
      refine ce (Z0 rfl rfl rfl) ?_
      refine Z8 0 (w0 rfl) rfl rfl rfl rfl rfl Z6 ?_
      refine cM2 ?_
      refine ce (Zf rfl rfl rfl (Z0b (fun _ => rfl)) (by first | omega | (simp only [List.length_map]; omega) | (simp only [List.length_map, List.length_drop]; omega)) (by first | omega | (simp only [List.length_map]; omega) | (simp only [List.length_map, List.length_drop]; omega))) ?_
      refine ce (Z05 rfl rfl (Z0e (by first | assumption | omega | (simp only [List.length_drop]; omega))) (Z00 (Nat.le_of_ble_eq_true rfl))) ?_
      refine ce (Z0 rfl rfl rfl) ?_
      refine Z8 0 (w0 rfl) rfl rfl rfl rfl rfl Z6 ?_
      refine ce (Z0 rfl rfl rfl) ?_
      refine Z8 0 (w0 rfl) rfl rfl rfl rfl rfl Z6 ?_
      refine ce (Zs rfl rfl rfl rfl) ?_
      refine ce (Z7 [] rfl rfl rfl (Zi8 _ (hm.code.2 _ (List.getElem_mem hi)) _ _) List.nodup_nil) ?_
      refine ce eI ?_
      refine .done (qN ?_)
      refine Z2 rfl ?_ ?_
      ·intro hc
       have hq : (fun x : Instr => !(fitsI x m.regs m.code.length == 0)) m.code[i] = true := by have h := hc; simp only [List.length_map] at h; exact h
       have t12 : m.code.any (fun x : Instr => !(fitsI x m.regs m.code.length == 0)) = true := Z26 hJ hi hq
       refine qS (qR (qA (qN (qE ?_))))
       exact Z0k rfl (Z4 rfl Z3) (gb (by unfold methR; rw [if_neg (by rw [t2]; simp), if_neg (by rw [t4]; simp), if_neg (by rw [t9]; simp), if_pos t12]))
      ·intro hc
       have hq : (fun x : Instr => !(fitsI x m.regs m.code.length == 0)) m.code[i] = false := by have h := hc; simp only [List.length_map] at h; exact h
       refine qK (qR (qM ?_))
       refine qe (Zb rfl rfl rfl (Zp (by first | omega | (simp only [List.length_map]; omega)))) ?_
       refine qA (qN ?_)
       refine ⟨i + 1, (Z27 hJ hi hq), (by omega), ?_⟩
       exact qp [0] ⟨rfl, rfl, trivial⟩
     ·intro hc
      have hi : ¬ i < m.code.length := by simpa using hc
      have t12 : m.code.any (fun x : Instr => !(fitsI x m.regs m.code.length == 0)) = false := Z2t hJ hi
      refine qX (qS (qR ?_))
      refine qe (Z0 rfl rfl rfl) ?_
      refine qL 0 Z6 ?_
      refine qe (Z0l rfl rfl rfl rfl) ?_
      refine qM ?_
      refine Z9 (wF rfl rfl rfl rfl) rfl (fun hg => (Z0 rfl rfl rfl)) ?_
      refine Zl 0 (wF rfl rfl rfl rfl) rfl rfl (fun hg => (Za hg rfl)) rfl rfl Z6 ?_
      refine Z9 (wF rfl rfl rfl rfl) rfl (fun hg => (Z03 rfl (Za hg rfl))) ?_
      refine Z9 (wTg rfl rfl rfl rfl) rfl (fun hg => (Z0 rfl rfl rfl)) ?_
      refine Zl 0 (wTg rfl rfl rfl rfl) rfl rfl (fun hg => (Za hg rfl)) rfl rfl Z6 ?_
      refine Z9 (wTg rfl rfl rfl rfl) rfl (fun hg => (Z0l rfl (Za hg rfl) rfl rfl)) ?_
      refine Z9 (wF rfl rfl rfl rfl) rfl (fun hg => (Zq rfl (Za hg rfl) rfl (fun h => by first | (simp [h, hg]; done) | (rw [hg, h]; rfl) | (simp_all; done)))) ?_
      refine qe (Z0h rfl rfl rfl (fun h => by rw [h]; rfl)) ?_
      refine qA (qN (qE ?_))
      exact Z0k rfl (Z4 rfl Z3) (gb (by unfold methR; rw [if_neg (by rw [t2]; simp), if_neg (by rw [t4]; simp), if_neg (by rw [t9]; simp), if_neg (by rw [t12]; simp)]; rfl))
theorem Zgu (c : Cls) (hc0 : c.ok) : ACalls Tryz.prog 59 [c.av] [] (Gives (bA (clsR8 c))) := by
 have h1 := hc0.ifaces.1
 have h2 := hc0.fields.1
 have h3 := hc0.methods.1
 simp only [small] at h1 h2 h3
 refine Ze (n := 128) Tryz.func59 rfl (by decide +kernel) rfl rfl ?_
 refine qS (qR ?_)
 refine Z04 (w0 rfl) rfl (fun id => Z0a id rfl rfl rfl rfl rfl) (fun id1 => ?_)
 refine qA (qN (qS (qS (qR ?_))))
 refine qe (Z0 rfl rfl rfl) ?_
 refine qL 0 Z6 ?_
 refine qe (Z7 [] rfl rfl rfl (Z3g _) List.nodup_nil) ?_
 refine qe (Zy rfl rfl) ?_
 refine qM ?_
 refine Z9 (wF rfl rfl rfl rfl) rfl (fun hg => (Z0 rfl rfl rfl)) ?_
 refine Zl 0 (wF rfl rfl rfl rfl) rfl rfl (fun hg => (Za hg rfl)) rfl rfl Z6 ?_
 refine Z9 (wF rfl rfl rfl rfl) rfl (fun hg => (Z0l rfl (Za hg rfl) rfl rfl)) ?_
 refine Z9 (wF rfl rfl rfl rfl) rfl (fun hg => (Z03 rfl (Za hg rfl))) ?_
 refine Z9 (wTg rfl rfl rfl rfl) rfl (fun hg => (Z0 rfl rfl rfl)) ?_
 refine Zl 0 (wTg rfl rfl rfl rfl) rfl rfl (fun hg => (Za hg rfl)) rfl rfl Z6 ?_
 refine Z9 (wTg rfl rfl rfl rfl) rfl (fun hg => (Z7 [] rfl rfl (Zc (Za hg rfl) Z01) (Z3g _) List.nodup_nil)) ?_
 refine Z9 (wTg rfl rfl rfl rfl) rfl (fun hg => (Zy rfl (Za hg rfl))) ?_
 refine Z9 (wTg rfl rfl rfl rfl) rfl (fun hg => (Z03 rfl (Za hg rfl))) ?_
 refine Z9 (wFg rfl rfl rfl rfl) rfl (fun hg => (Z0 rfl rfl rfl)) ?_
 refine Zl 0 (wFg rfl rfl rfl rfl) rfl rfl (fun hg => (Za hg rfl)) rfl rfl Z6 ?_
 refine Z9 (wFg rfl rfl rfl rfl) rfl (fun hg => (Z0 rfl rfl rfl)) ?_
 refine Zl 0 (wFg rfl rfl rfl rfl) rfl rfl (fun hg => (Za hg rfl)) rfl rfl Z6 ?_
 refine Z9 (wFg rfl rfl rfl rfl) rfl (fun hg => (Z0l rfl (Za hg rfl) (Za hg rfl) rfl)) ?_
 refine Z9 (wTg rfl rfl rfl rfl) rfl (fun hg => (Z0h rfl (Za hg rfl) rfl (fun h => by first | (simp [h, hg]; done) | (rw [hg, h]; rfl) | (simp_all; done)))) ?_
 refine Z9 (wF rfl rfl rfl rfl) rfl (fun hg => (Zq rfl (Za hg rfl) rfl (fun h => by first | (simp [h, hg]; done) | (rw [hg, h]; rfl) | (simp_all; done)))) ?_
 refine qe (Z0h rfl rfl rfl (fun h => by rw [h]; rfl)) ?_
 refine qN ?_
 refine Z2 rfl ?_ ?_
 ·intro hc
  have t1 : (!clsW c.name || (!beqS c.super zS && (!clsW c.super || beqS c.super c.name))) = true := hc
  refine qS (qR (qA (qN (qE ?_))))
  exact Z0k rfl (Z4 rfl Z3) (gb (by unfold clsR8; rw [if_pos t1]))
 ·intro hc
  have t1 : (!clsW c.name || (!beqS c.super zS && (!clsW c.super || beqS c.super c.name))) = false := hc
  refine qK (qS (qS (qR ?_)))
  refine qe (Z0 rfl rfl rfl) ?_
  refine qL 0 Z6 ?_
  refine qM ?_
  refine Z9 (wT rfl rfl rfl rfl) rfl (fun hg => (Z0 rfl rfl rfl)) ?_
  refine Zl 0 (wT rfl rfl rfl rfl) rfl rfl (fun hg => (Za hg rfl)) rfl rfl Z6 ?_
  refine Z9 (wT rfl rfl rfl rfl) rfl (fun hg => (Zy rfl (Za hg rfl))) ?_
  refine Z9 (wT rfl rfl rfl rfl) rfl (fun hg => (Z03 rfl (Za hg rfl))) ?_
  refine Z9 (wFg rfl rfl rfl rfl) rfl (fun hg => (Z0 rfl rfl rfl)) ?_
  refine Zl 0 (wFg rfl rfl rfl rfl) rfl rfl (fun hg => (Za hg rfl)) rfl rfl Z6 ?_
  refine Z9 (wFg rfl rfl rfl rfl) rfl (fun hg => (Z0l rfl (Za hg rfl) rfl rfl)) ?_
  refine Z9 (wT rfl rfl rfl rfl) rfl (fun hg => (Z0h rfl (Za hg rfl) rfl (fun h => by first | (simp [h, hg]; done) | (rw [hg, h]; rfl) | (simp_all; done)))) ?_
  refine Z9 (wT rfl rfl rfl rfl) rfl (fun hg => (Z03 rfl (Za hg rfl))) ?_
  refine Z9 (wFg rfl rfl rfl rfl) rfl (fun hg => (Z0 rfl rfl rfl)) ?_
  refine Zl 0 (wFg rfl rfl rfl rfl) rfl rfl (fun hg => (Za hg rfl)) rfl rfl Z6 ?_
  refine Z9 (wFg rfl rfl rfl rfl) rfl (fun hg => (Zs rfl (Za hg rfl) rfl rfl)) ?_
  refine Z9 (wFg rfl rfl rfl rfl) rfl (fun hg => (Zn rfl (Za hg rfl) rfl rfl)) ?_
  refine Z9 (wT rfl rfl rfl rfl) rfl (fun hg => (Z0h rfl (Za hg rfl) rfl (fun h => by first | (simp [h, hg]; done) | (rw [hg, h]; rfl) | (simp_all; done)))) ?_
  refine qe (Zq rfl rfl rfl (fun h => h)) ?_
  refine qN ?_
  refine Z2 rfl ?_ ?_
  ·intro hc
   have t3 : (c.iface && ((!c.abs || !beqS c.super zS) || decide ((c.fields.length : Int) > 0))) = true := by have h := hc; simp only [List.length_map] at h; exact h
   refine qS (qR (qA (qN (qE ?_))))
   exact Z0k rfl (Z4 rfl Z3) (gb (by unfold clsR8; rw [if_neg (by rw [t1]; simp), if_pos t3]))
  ·intro hc
   have t3 : (c.iface && ((!c.abs || !beqS c.super zS) || decide ((c.fields.length : Int) > 0))) = false := by have h := hc; simp only [List.length_map] at h; exact h
   refine qK (qS (qS (qR (qA (qN (qB ?_))))))
   refine Zk (α := Nat) (fun i => ⟨[(3, iA i), (1, .ptr id1 7 0 0)], [(id1, .rows 53 7 [c.cells])], [], 128⟩) (fun i => (c.ifaces.drop i).any (fun s => !clsW s) = c.ifaces.any (fun s => !clsW s)) (fun i => c.ifaces.length - i) 0 rfl ?_ ?_
   ·exact Zi [0] ⟨rfl, rfl, trivial⟩ rfl (by decide) rfl rfl
   rintro i hJ
   refine qS (qS (qR (qM ?_)))
   refine qe (Z0 rfl rfl rfl) ?_
   refine qL 0 Z6 ?_
   refine qe (Zs rfl rfl rfl rfl) ?_
   refine qe eI ?_
   refine qN ?_
   refine Z2 rfl ?_ ?_
   ·intro hc
    have hi : i < c.ifaces.length := by simpa using hc
    refine qK (qS (qB (qS (qR ?_))))
    refine qe (Z0 rfl rfl rfl) ?_
    refine qL 0 Z6 ?_
    refine qM ?_
    refine qe (Zf rfl rfl rfl (Z0b (fun _ => rfl)) (by first | omega | (simp only [List.length_map]; omega) | (simp only [List.length_map, List.length_drop]; omega)) (by first | omega | (simp only [List.length_map]; omega) | (simp only [List.length_map, List.length_drop]; omega))) ?_
    refine qe (Z05 rfl rfl (Z0e (by first | assumption | omega | (simp only [List.length_drop]; omega))) Z6) ?_
    refine qe (Z7 [] rfl rfl rfl (Z3g _) List.nodup_nil) ?_
    refine qe (Zy rfl rfl) ?_
    refine qN ?_
    refine Z2 rfl ?_ ?_
    ·intro hc
     have hq : (fun s => !clsW s) c.ifaces[i] = true := hc
     have t6 : c.ifaces.any (fun s => !clsW s) = true := Z26 hJ hi hq
     refine qS (qR (qA (qN (qE ?_))))
     exact Z0k rfl (Z4 rfl Z3) (gb (by unfold clsR8; rw [if_neg (by rw [t1]; simp), if_neg (by rw [t3]; simp), if_pos t6]))
    ·intro hc
     have hq : (fun s => !clsW s) c.ifaces[i] = false := hc
     refine qK (qR (qM ?_))
     refine qe (Zb rfl rfl rfl (Zp (by first | omega | (simp only [List.length_map]; omega)))) ?_
     refine qA (qN ?_)
     refine ⟨i + 1, (Z27 hJ hi hq), (by omega), ?_⟩
     exact qp [0] ⟨rfl, rfl, trivial⟩
   ·intro hc
    have hi : ¬ i < c.ifaces.length := by simpa using hc
    have t6 : c.ifaces.any (fun s => !clsW s) = false := Z2t hJ hi
    refine qX (qS (qS (qR (qA (qN (qB ?_))))))
    refine Zk (α := Nat) (fun i => ⟨[(4, iA i), (1, .ptr id1 7 0 0)], [(id1, .rows 53 7 [c.cells])], [], 128⟩) (fun i => (c.fields.drop i).any (fun f => !fldR f) = c.fields.any (fun f => !fldR f)) (fun i => c.fields.length - i) 0 rfl ?_ ?_
    ·exact Zi [0] ⟨rfl, rfl, trivial⟩ rfl (by decide) rfl rfl
    rintro i hJ
    refine qS (qS (qR (qM ?_)))
    refine qe (Z0 rfl rfl rfl) ?_
    refine qL 0 Z6 ?_
    refine qe (Zs rfl rfl rfl rfl) ?_
    refine qe eI ?_
    refine qN ?_
    refine Z2 rfl ?_ ?_
    ·intro hc
     have hi : i < c.fields.length := by simpa using hc
     have hcr := Zay (c.fields[i]).type
     refine qK (qS (qB (qS (qR ?_))))
     refine qe (Z0 rfl rfl rfl) ?_
     refine qL 0 Z6 ?_
     refine qM ?_
     refine qe (Zf rfl rfl rfl (Z0b (fun _ => rfl)) (by first | omega | (simp only [List.length_map]; omega) | (simp only [List.length_map, List.length_drop]; omega)) (by first | omega | (simp only [List.length_map]; omega) | (simp only [List.length_map, List.length_drop]; omega))) ?_
     refine qe (Z05 rfl rfl (Z0e (by first | assumption | omega | (simp only [List.length_drop]; omega))) (Z00 (Nat.le_of_ble_eq_true rfl))) ?_
     refine Z04 (w0 rfl) rfl (fun id => Z08 id rfl rfl rfl) (fun id2 => ?_)
     refine Zu 0 (w0 rfl) rfl rfl rfl rfl rfl rfl rfl rfl rfl ?_
     refine qN (qS (qR ?_))
     refine qe (Z0 rfl rfl rfl) ?_
     refine qL 0 Z6 ?_
     refine qe (Z7 [] rfl rfl rfl (Z6w _) List.nodup_nil) ?_
     refine qe (Zy rfl rfl) ?_
     refine qM ?_
     refine Z9 (wF rfl rfl rfl rfl) rfl (fun hg => (Z0 rfl rfl rfl)) ?_
     refine Zl 0 (wF rfl rfl rfl rfl) rfl rfl (fun hg => (Za hg rfl)) rfl rfl Z6 ?_
     refine Z9 (wF rfl rfl rfl rfl) rfl (fun hg => (Z0l rfl (Za hg rfl) rfl rfl)) ?_
     refine qe (Z0h rfl rfl rfl (fun h => by rw [h]; rfl)) ?_
     refine qM ?_
     refine Z9 (wF rfl rfl rfl rfl) rfl (fun hg => (Z0 rfl rfl rfl)) ?_
     refine Zl 0 (wF rfl rfl rfl rfl) rfl rfl (fun hg => (Za hg rfl)) rfl rfl (Z00 (Nat.le_of_ble_eq_true rfl)) ?_
     refine Z9 (wF rfl rfl rfl rfl) rfl (fun hg => (Z7 [] rfl rfl (Zc (Za hg rfl) Z01) hcr List.nodup_nil)) ?_
     refine Z9 (wF rfl rfl rfl rfl) rfl (fun hg => (Zy rfl (Za hg rfl))) ?_
     refine qe (Z0h rfl rfl rfl (fun h => by rw [h]; rfl)) ?_
     refine qM ?_
     refine Z9 (wF rfl rfl rfl rfl) rfl (fun hg => (Z0 rfl rfl rfl)) ?_
     refine Z9 (wF rfl rfl rfl rfl) rfl (fun hg => (Z0 rfl (Za hg rfl) rfl)) ?_
     refine Zl 0 (wF rfl rfl rfl rfl) rfl rfl (fun hg => (Za hg rfl)) rfl rfl Z6 ?_
     refine Z9 (wF rfl rfl rfl rfl) rfl (fun hg => (Zn rfl (Za hg rfl) rfl rfl)) ?_
     refine qe (Z0h rfl rfl rfl (fun h => by rw [h]; rfl)) ?_
     refine qN ?_
     refine Z2 rfl ?_ ?_
     ·intro hc
      have hq : (fun f => !fldR f) c.fields[i] = true := by have h : (((!nameW (c.fields[i]).name || beqS (c.fields[i]).name nInit') || !rightT (c.fields[i]).type) || ((c.fields[i]).type.kind == 1)) = true := hc; show (!(((nameW _ && !beqS _ _) && rightT _) && !(_ == _))) = true; revert h; cases nameW (c.fields[i]).name <;> cases beqS (c.fields[i]).name nInit' <;> cases rightT (c.fields[i]).type <;> cases ((c.fields[i]).type.kind == 1) <;> simp
      have t11 : c.fields.any (fun f => !fldR f) = true := Z26 hJ hi hq
      refine qS (qR (qA (qN (qE ?_))))
      exact Z0k rfl (Z4 rfl Z3) (gb (by unfold clsR8; rw [if_neg (by rw [t1]; simp), if_neg (by rw [t3]; simp), if_neg (by rw [t6]; simp), if_pos t11]))
     ·intro hc
      have hq : (fun f => !fldR f) c.fields[i] = false := by have h : (((!nameW (c.fields[i]).name || beqS (c.fields[i]).name nInit') || !rightT (c.fields[i]).type) || ((c.fields[i]).type.kind == 1)) = false := hc; show (!(((nameW _ && !beqS _ _) && rightT _) && !(_ == _))) = false; revert h; cases nameW (c.fields[i]).name <;> cases beqS (c.fields[i]).name nInit' <;> cases rightT (c.fields[i]).type <;> cases ((c.fields[i]).type.kind == 1) <;> simp
      refine qK (qR (qM ?_))
      refine qe (Zb rfl rfl rfl (Zp (by first | omega | (simp only [List.length_map]; omega)))) ?_
      refine qA (qN ?_)
      refine ⟨i + 1, (Z27 hJ hi hq), (by omega), ?_⟩
      exact qp [1] ⟨rfl, rfl, trivial⟩
    ·intro hc
     have hi : ¬ i < c.fields.length := by simpa using hc
     have t11 : c.fields.any (fun f => !fldR f) = false := Z2t hJ hi
     refine qX (qS (qS (qR (qA (qN (qB ?_))))))
     refine Zk (α := Nat) (fun i => ⟨[(6, iA i), (1, .ptr id1 7 0 0)], [(id1, .rows 53 7 [c.cells])], [], 128⟩) (fun i => (c.methods.drop i).any (fun m => !cmR c m) = c.methods.any (fun m => !cmR c m)) (fun i => c.methods.length - i) 0 rfl ?_ ?_
     ·exact Zi [0] ⟨rfl, rfl, trivial⟩ rfl (by decide) rfl rfl
     rintro i hJ
     refine qS (qS (qR (qM ?_)))
     refine qe (Z0 rfl rfl rfl) ?_
     refine qL 0 Z6 ?_
     refine qe (Zs rfl rfl rfl rfl) ?_
     refine qe eI ?_
     refine qN ?_
     refine Z2 rfl ?_ ?_
     ·intro hc
      have hi : i < c.methods.length := by simpa using hc
      refine qK (qS (qB (qS (qR ?_))))
      refine qe (Z0 rfl rfl rfl) ?_
      refine qL 0 Z6 ?_
      refine qM ?_
      refine qe (Zf rfl rfl rfl (Z0b (fun _ => rfl)) (by first | omega | (simp only [List.length_map]; omega) | (simp only [List.length_map, List.length_drop]; omega)) (by first | omega | (simp only [List.length_map]; omega) | (simp only [List.length_map, List.length_drop]; omega))) ?_
      refine qe (Z05 rfl rfl (Z0e (by first | assumption | omega | (simp only [List.length_drop]; omega))) (Z00 (Nat.le_of_ble_eq_true rfl))) ?_
      refine Z04 (w0 rfl) rfl (fun id => Z08 id rfl rfl rfl) (fun id3 => ?_)
      refine Zu 0 (w0 rfl) rfl rfl rfl rfl rfl rfl rfl rfl rfl ?_
      refine qN (qS (qR ?_))
      refine qL 0 (Z00 (Nat.le_of_ble_eq_true rfl)) ?_
      refine qe (Z7 [] rfl rfl rfl (Zf0 _ (hc0.methods.2 _ (List.getElem_mem hi))) List.nodup_nil) ?_
      refine qe (Zy rfl rfl) ?_
      refine qM ?_
      refine Z9 (wF rfl rfl rfl rfl) rfl (fun hg => (Z0 rfl rfl rfl)) ?_
      refine Zl 1 (wF rfl rfl rfl rfl) rfl rfl (fun hg => (Za hg rfl)) rfl rfl Z6 ?_
      refine Z9 (wF rfl rfl rfl rfl) rfl (fun hg => (Z03 rfl (Za hg rfl))) ?_
      refine Z9 (wTg rfl rfl rfl rfl) rfl (fun hg => (Z0 rfl rfl rfl)) ?_
      refine Zl 0 (wTg rfl rfl rfl rfl) rfl rfl (fun hg => (Za hg rfl)) rfl rfl Z6 ?_
      refine Z9 (wTg rfl rfl rfl rfl) rfl (fun hg => (Zy rfl (Za hg rfl))) ?_
      refine Z9 (wF rfl rfl rfl rfl) rfl (fun hg => (Zq rfl (Za hg rfl) rfl (fun h => by first | (simp [h, hg]; done) | (rw [hg, h]; rfl) | (simp_all; done)))) ?_
      refine qe (Z0h rfl rfl rfl (fun h => by rw [h]; rfl)) ?_
      refine qM ?_
      refine Z9 (wF rfl rfl rfl rfl) rfl (fun hg => (Z0 rfl rfl rfl)) ?_
      refine Zl 0 (wF rfl rfl rfl rfl) rfl rfl (fun hg => (Za hg rfl)) rfl rfl Z6 ?_
      refine Z9 (wF rfl rfl rfl rfl) rfl (fun hg => (Z03 rfl (Za hg rfl))) ?_
      refine Z9 (wTg rfl rfl rfl rfl) rfl (fun hg => (Z0 rfl rfl rfl)) ?_
      refine Zl 1 (wTg rfl rfl rfl rfl) rfl rfl (fun hg => (Za hg rfl)) rfl rfl Z6 ?_
      refine Z9 (wTg rfl rfl rfl rfl) rfl (fun hg => (Zy rfl (Za hg rfl))) ?_
      refine Z9 (wF rfl rfl rfl rfl) rfl (fun hg => (Zq rfl (Za hg rfl) rfl (fun h => by first | (simp [h, hg]; done) | (rw [hg, h]; rfl) | (simp_all; done)))) ?_
      refine qe (Z0h rfl rfl rfl (fun h => by rw [h]; rfl)) ?_
      refine qN ?_
      refine Z2 rfl ?_ ?_
      ·intro hc
       have hq : (fun m => !cmR c m) c.methods[i] = true := by have h : ((!methR c.methods[i] || (c.iface && !(c.methods[i]).abs)) || ((c.methods[i]).abs && !c.abs)) = true := hc; show (!((methR _ && !(_ && !_)) && !(_ && !_))) = true; revert h; cases methR c.methods[i] <;> cases c.iface <;> cases (c.methods[i]).abs <;> cases c.abs <;> simp
       have t17 : c.methods.any (fun m => !cmR c m) = true := Z26 hJ hi hq
       refine qS (qR (qA (qN (qE ?_))))
       exact Z0k rfl (Z4 rfl Z3) (gb (by unfold clsR8; rw [if_neg (by rw [t1]; simp), if_neg (by rw [t3]; simp), if_neg (by rw [t6]; simp), if_neg (by rw [t11]; simp), t17]; rfl))
      ·intro hc
       have hq : (fun m => !cmR c m) c.methods[i] = false := by have h : ((!methR c.methods[i] || (c.iface && !(c.methods[i]).abs)) || ((c.methods[i]).abs && !c.abs)) = false := hc; show (!((methR _ && !(_ && !_)) && !(_ && !_))) = false; revert h; cases methR c.methods[i] <;> cases c.iface <;> cases (c.methods[i]).abs <;> cases c.abs <;> simp
       refine qK (qR (qM ?_))
       refine qe (Zb rfl rfl rfl (Zp (by first | omega | (simp only [List.length_map]; omega)))) ?_
       refine qA (qN ?_)
       refine ⟨i + 1, (Z27 hJ hi hq), (by omega), ?_⟩
       exact qp [1] ⟨rfl, rfl, trivial⟩
     ·intro hc
      have hi : ¬ i < c.methods.length := by simpa using hc
      have t17 : c.methods.any (fun m => !cmR c m) = false := Z2t hJ hi
      refine qX (qS (qR (qA (qN (qE ?_)))))
      exact Z0k rfl (Z4 rfl Z3) (gb (by unfold clsR8; rw [if_neg (by rw [t1]; simp), if_neg (by rw [t3]; simp), if_neg (by rw [t6]; simp), if_neg (by rw [t11]; simp), t17]; rfl))
theorem Zbw (m : MRef) : ACalls Tryz.prog 60 [.agg m.cells] [] (Gives (bA (entryR m))) := by
 refine Ze (n := 39) Tryz.func60 rfl (by decide +kernel) rfl rfl ?_
 refine qS (qR ?_)
 refine Z04 (w0 rfl) rfl (fun id => Z0a id rfl rfl rfl rfl rfl) (fun id1 => ?_)
 refine qA (qN (qS (qS (qR ?_))))
 refine qe (Z0 rfl rfl rfl) ?_
 refine qL 0 Z6 ?_
 refine qe (Z0l rfl rfl rfl rfl) ?_
 refine qM ?_
 refine Z9 (wT rfl rfl rfl rfl) rfl (fun hg => (Z0 rfl rfl rfl)) ?_
 refine Zl 0 (wT rfl rfl rfl rfl) rfl rfl (fun hg => (Za hg rfl)) rfl rfl Z6 ?_
 refine Z9 (wT rfl rfl rfl rfl) rfl (fun hg => (Z0l rfl (Za hg rfl) rfl rfl)) ?_
 refine qe (Zq rfl rfl rfl (fun h => h)) ?_
 refine qM ?_
 refine Z9 (wT rfl rfl rfl rfl) rfl (fun hg => (Z0 rfl rfl rfl)) ?_
 refine Zl 0 (wT rfl rfl rfl rfl) rfl rfl (fun hg => (Za hg rfl)) rfl rfl Z6 ?_
 refine Z9 (wT rfl rfl rfl rfl) rfl (fun hg => (Z0l rfl (Za hg rfl) rfl rfl)) ?_
 refine qe (Zq rfl rfl rfl (fun h => h)) ?_
 refine qN ?_
 refine Z2 rfl ?_ ?_
 ·intro hc
  have t1 : ((beqS m.cls zS && beqS m.name zS) && beqS m.desc zS) = true := hc
  refine qS (qR (qA (qN (qE ?_))))
  exact Z0k rfl (Z4 rfl Z3) (gb (by unfold entryR; rw [t1]; rfl))
 ·intro hc
  have t1 : ((beqS m.cls zS && beqS m.name zS) && beqS m.desc zS) = false := hc
  refine qK (qS (qR ?_))
  refine qe (Z0 rfl rfl rfl) ?_
  refine qL 0 Z6 ?_
  refine qe (Z7 [] rfl rfl rfl (Z3g _) List.nodup_nil) ?_
  refine qM ?_
  refine Z9 (wT rfl rfl rfl rfl) rfl (fun hg => (Z0 rfl rfl rfl)) ?_
  refine Zl 0 (wT rfl rfl rfl rfl) rfl rfl (fun hg => (Za hg rfl)) rfl rfl Z6 ?_
  refine Z9 (wT rfl rfl rfl rfl) rfl (fun hg => (Z7 [] rfl rfl (Zc (Za hg rfl) Z01) (Z6w _) List.nodup_nil)) ?_
  refine qe (Zq rfl rfl rfl (fun h => h)) ?_
  refine qM ?_
  refine Z9 (wT rfl rfl rfl rfl) rfl (fun hg => (Z0 rfl rfl rfl)) ?_
  refine Zl 0 (wT rfl rfl rfl rfl) rfl rfl (fun hg => (Za hg rfl)) rfl rfl Z6 ?_
  refine Z9 (wT rfl rfl rfl rfl) rfl (fun hg => (Z0l rfl (Za hg rfl) rfl rfl)) ?_
  refine qe (Zq rfl rfl rfl (fun h => h)) ?_
  refine qM ?_
  refine Z9 (wT rfl rfl rfl rfl) rfl (fun hg => (Z0 rfl rfl rfl)) ?_
  refine Zl 0 (wT rfl rfl rfl rfl) rfl rfl (fun hg => (Za hg rfl)) rfl rfl Z6 ?_
  refine Z9 (wT rfl rfl rfl rfl) rfl (fun hg => (Z0l rfl (Za hg rfl) rfl rfl)) ?_
  refine Z9 (wT rfl rfl rfl rfl) rfl (fun hg => (Z03 rfl (Za hg rfl))) ?_
  refine Z9 (wFg rfl rfl rfl rfl) rfl (fun hg => (Z0 rfl rfl rfl)) ?_
  refine Zl 0 (wFg rfl rfl rfl rfl) rfl rfl (fun hg => (Za hg rfl)) rfl rfl Z6 ?_
  refine Z9 (wFg rfl rfl rfl rfl) rfl (fun hg => (Z0l rfl (Za hg rfl) rfl rfl)) ?_
  refine Z9 (wT rfl rfl rfl rfl) rfl (fun hg => (Z0h rfl (Za hg rfl) rfl (fun h => by first | (simp [h, hg]; done) | (rw [hg, h]; rfl) | (simp_all; done)))) ?_
  refine qe (Zq rfl rfl rfl (fun h => h)) ?_
  refine qA (qN (qE ?_))
  exact Z0k rfl (Z4 rfl Z3) (gb (by unfold entryR; rw [t1]; rfl))
theorem Zez (p : Prog) (hp : p.ok) : ACalls Tryz.prog 58 [p.av] [] (Gives (bA (longR p))) := by
 have hb := hp.classes.1
 have hn := hp.names.1
 simp only [small] at hb hn
 refine Ze (n := 58) Tryz.func58 rfl (by decide +kernel) rfl rfl ?_
 refine qS (qR ?_)
 refine Z04 (w0 rfl) rfl (fun id => Z0a id rfl rfl rfl rfl rfl) (fun id1 => ?_)
 refine qA (qN (qS (qS (qR ?_))))
 refine qe (Z0 rfl rfl rfl) ?_
 refine qL 0 Z6 ?_
 refine qe (Zs rfl rfl rfl rfl) ?_
 refine qe eI ?_
 refine qM ?_
 refine Z9 (wF rfl rfl rfl rfl) rfl (fun hg => (Z0 rfl rfl rfl)) ?_
 refine Zl 0 (wF rfl rfl rfl rfl) rfl rfl (fun hg => (Za hg rfl)) rfl rfl Z6 ?_
 refine Z9 (wF rfl rfl rfl rfl) rfl (fun hg => (Zs rfl (Za hg rfl) rfl rfl)) ?_
 refine Z9 (wF rfl rfl rfl rfl) rfl (fun hg => (Zn rfl (Za hg rfl) rfl rfl)) ?_
 refine qe (Z0h rfl rfl rfl (fun h => by rw [h]; rfl)) ?_
 refine qN ?_
 refine Z2 rfl ?_ ?_
 ·intro hc
  have t1 : (decide ((p.classes.length : Int) > 64) || decide ((p.names.length : Int) > 64)) = true := by have h := hc; simp only [List.length_map] at h; exact h
  refine qS (qR (qA (qN (qE ?_))))
  exact Z0k rfl (Z4 rfl Z3) (gb (by unfold longR; rw [if_pos t1]))
 ·intro hc
  have t1 : (decide ((p.classes.length : Int) > 64) || decide ((p.names.length : Int) > 64)) = false := by have h := hc; simp only [List.length_map] at h; exact h
  refine qK (qS (qS (qR (qA (qN (qB ?_))))))
  refine Zk (α := Nat) (fun i => ⟨[(3, iA i), (1, .ptr id1 5 0 0)], [(id1, .rows 27 5 [p.cells])], [], 58⟩) (fun i => (p.classes.drop i).any longC = p.classes.any longC) (fun i => p.classes.length - i) 0 rfl ?_ ?_
  ·exact Zi [0] ⟨rfl, rfl, trivial⟩ rfl (by decide) rfl rfl
  rintro i hJ
  refine qS (qS (qR (qM ?_)))
  refine qe (Z0 rfl rfl rfl) ?_
  refine qL 0 Z6 ?_
  refine qe (Zs rfl rfl rfl rfl) ?_
  refine qe eI ?_
  refine qN ?_
  refine Z2 rfl ?_ ?_
  ·intro hc
   have hi : i < p.classes.length := by simpa using hc
   refine qK (qS (qB (qS (qR ?_))))
   refine qe (Z0 rfl rfl rfl) ?_
   refine qL 0 Z6 ?_
   refine qM ?_
   refine qe (Zf rfl rfl rfl (Z0b (fun _ => rfl)) (by first | omega | (simp only [List.length_map]; omega) | (simp only [List.length_map, List.length_drop]; omega)) (by first | omega | (simp only [List.length_map]; omega) | (simp only [List.length_map, List.length_drop]; omega))) ?_
   refine qe (Z05 rfl rfl (Z0e (by first | assumption | omega | (simp only [List.length_drop]; omega))) (Z00 (Nat.le_of_ble_eq_true rfl))) ?_
   refine Z04 (w0 rfl) rfl (fun id => Z08 id rfl rfl rfl) (fun id2 => ?_)
   refine Zu 0 (w0 rfl) rfl rfl rfl rfl rfl rfl rfl rfl rfl ?_
   refine qN (qS (qR ?_))
   refine qe (Z0 rfl rfl rfl) ?_
   refine qL 0 Z6 ?_
   refine qe (Zs rfl rfl rfl rfl) ?_
   refine qe eI ?_
   refine qM ?_
   refine Z9 (wF rfl rfl rfl rfl) rfl (fun hg => (Z0 rfl rfl rfl)) ?_
   refine Zl 0 (wF rfl rfl rfl rfl) rfl rfl (fun hg => (Za hg rfl)) rfl rfl Z6 ?_
   refine Z9 (wF rfl rfl rfl rfl) rfl (fun hg => (Zs rfl (Za hg rfl) rfl rfl)) ?_
   refine Z9 (wF rfl rfl rfl rfl) rfl (fun hg => (Zn rfl (Za hg rfl) rfl rfl)) ?_
   refine qe (Z0h rfl rfl rfl (fun h => by rw [h]; rfl)) ?_
   refine qM ?_
   refine Z9 (wF rfl rfl rfl rfl) rfl (fun hg => (Z0 rfl rfl rfl)) ?_
   refine Zl 0 (wF rfl rfl rfl rfl) rfl rfl (fun hg => (Za hg rfl)) rfl rfl Z6 ?_
   refine Z9 (wF rfl rfl rfl rfl) rfl (fun hg => (Zs rfl (Za hg rfl) rfl rfl)) ?_
   refine Z9 (wF rfl rfl rfl rfl) rfl (fun hg => (Zn rfl (Za hg rfl) rfl rfl)) ?_
   refine qe (Z0h rfl rfl rfl (fun h => by rw [h]; rfl)) ?_
   refine qN ?_
   refine Z2 rfl ?_ ?_
   ·intro hc
    have hq : longC p.classes[i] = true := by have h := hc; simp only [List.length_map] at h; exact h
    have t4 : p.classes.any longC = true := Z26 hJ hi hq
    refine qS (qR (qA (qN (qE ?_))))
    exact Z0k rfl (Z4 rfl Z3) (gb (by unfold longR; rw [if_neg (by rw [t1]; simp), if_pos t4]))
   ·intro hc
    have hq : longC p.classes[i] = false := by have h := hc; simp only [List.length_map] at h; exact h
    refine qK (qR (qM ?_))
    refine qe (Zb rfl rfl rfl (Zp (by first | omega | (simp only [List.length_map]; omega)))) ?_
    refine qA (qN ?_)
    refine ⟨i + 1, (Z27 hJ hi hq), (by omega), ?_⟩
    exact qp [1] ⟨rfl, rfl, trivial⟩
  ·intro hc
   have hi : ¬ i < p.classes.length := by simpa using hc
   have t4 : p.classes.any longC = false := Z2t hJ hi
   refine qX (qS (qS (qR (qA (qN (qB ?_))))))
   refine Zk (α := Nat) (fun i => ⟨[(5, iA i), (1, .ptr id1 5 0 0)], [(id1, .rows 27 5 [p.cells])], [], 58⟩) (fun i => (p.names.drop i).any (fun s : Str => decide ((s.size : Int) > 64)) = p.names.any (fun s : Str => decide ((s.size : Int) > 64))) (fun i => p.names.length - i) 0 rfl ?_ ?_
   ·exact Zi [0] ⟨rfl, rfl, trivial⟩ rfl (by decide) rfl rfl
   rintro i hJ
   refine qS (qS (qR (qM ?_)))
   refine qe (Z0 rfl rfl rfl) ?_
   refine qL 0 Z6 ?_
   refine qe (Zs rfl rfl rfl rfl) ?_
   refine qe eI ?_
   refine qN ?_
   refine Z2 rfl ?_ ?_
   ·intro hc
    have hi : i < p.names.length := by simpa using hc
    refine qK (qS (qB (qS (qR ?_))))
    refine qe (Z0 rfl rfl rfl) ?_
    refine qL 0 Z6 ?_
    refine qM ?_
    refine qe (Zf rfl rfl rfl (Z0b (fun _ => rfl)) (by first | omega | (simp only [List.length_map]; omega) | (simp only [List.length_map, List.length_drop]; omega)) (by first | omega | (simp only [List.length_map]; omega) | (simp only [List.length_map, List.length_drop]; omega))) ?_
    refine qe (Z05 rfl rfl (Z0e (by first | assumption | omega | (simp only [List.length_drop]; omega))) Z6) ?_
    refine qe (Zs rfl rfl rfl rfl) ?_
    refine qe eI ?_
    refine qN ?_
    refine Z2 rfl ?_ ?_
    ·intro hc
     have hq : (fun s : Str => decide ((s.size : Int) > 64)) p.names[i] = true := hc
     have t10 : p.names.any (fun s : Str => decide ((s.size : Int) > 64)) = true := Z26 hJ hi hq
     refine qS (qR (qA (qN (qE ?_))))
     exact Z0k rfl (Z4 rfl Z3) (gb (by unfold longR; rw [if_neg (by rw [t1]; simp), if_neg (by rw [t4]; simp), t10]))
    ·intro hc
     have hq : (fun s : Str => decide ((s.size : Int) > 64)) p.names[i] = false := hc
     refine qK (qR (qM ?_))
     refine qe (Zb rfl rfl rfl (Zp (by first | omega | (simp only [List.length_map]; omega)))) ?_
     refine qA (qN ?_)
     refine ⟨i + 1, (Z27 hJ hi hq), (by omega), ?_⟩
     exact qp [0] ⟨rfl, rfl, trivial⟩
   ·intro hc
    have hi : ¬ i < p.names.length := by simpa using hc
    have t10 : p.names.any (fun s : Str => decide ((s.size : Int) > 64)) = false := Z2t hJ hi
    refine qX (qS (qR (qA (qN (qE ?_)))))
    exact Z0k rfl (Z4 rfl Z3) (gb (by unfold longR; rw [if_neg (by rw [t1]; simp), if_neg (by rw [t4]; simp), t10]))
theorem Zbu (a b : Meth) : ACalls Tryz.prog 131 [.agg a.cells, .agg b.cells] [] (Gives (bA (belowM a b))) := by
 refine Ze (n := 24) Tryz.func131 rfl (by decide +kernel) rfl rfl ?_
 refine qS (qR ?_)
 refine Z04 (w0 rfl) rfl (fun id => Z0a id rfl rfl rfl rfl rfl) (fun id1 => ?_)
 refine Z04 (w0 rfl) rfl (fun id => Z0a id rfl rfl rfl rfl rfl) (fun id2 => ?_)
 refine qA (qN (qS (qR ?_)))
 refine qe (Z0 rfl rfl rfl) ?_
 refine qL 1 Z6 ?_
 refine qe (Z0 rfl rfl rfl) ?_
 refine qL 0 Z6 ?_
 refine qe (Z0l rfl rfl rfl rfl) ?_
 refine qM ?_
 refine Z9 (wF rfl rfl rfl rfl) rfl (fun hg => (Z0 rfl rfl rfl)) ?_
 refine Zl 1 (wF rfl rfl rfl rfl) rfl rfl (fun hg => (Za hg rfl)) rfl rfl Z6 ?_
 refine Z9 (wF rfl rfl rfl rfl) rfl (fun hg => (Z0 rfl rfl rfl)) ?_
 refine Zl 0 (wF rfl rfl rfl rfl) rfl rfl (fun hg => (Za hg rfl)) rfl rfl Z6 ?_
 refine Z9 (wF rfl rfl rfl rfl) rfl (fun hg => (Z0l rfl (Za hg rfl) (Za hg rfl) rfl)) ?_
 refine Z9 (wF rfl rfl rfl rfl) rfl (fun hg => (Z03 rfl (Za hg rfl))) ?_
 refine Z9 (wTg rfl rfl rfl rfl) rfl (fun hg => (Z0 rfl rfl rfl)) ?_
 refine Zl 1 (wTg rfl rfl rfl rfl) rfl rfl (fun hg => (Za hg rfl)) rfl rfl Z6 ?_
 refine Z9 (wTg rfl rfl rfl rfl) rfl (fun hg => (Z0 rfl rfl rfl)) ?_
 refine Zl 0 (wTg rfl rfl rfl rfl) rfl rfl (fun hg => (Za hg rfl)) rfl rfl Z6 ?_
 refine Z9 (wTg rfl rfl rfl rfl) rfl (fun hg => (Z0l rfl (Za hg rfl) (Za hg rfl) rfl)) ?_
 refine Z9 (wF rfl rfl rfl rfl) rfl (fun hg => (Zq rfl (Za hg rfl) rfl (fun h => by first | (simp [h, hg]; done) | (rw [hg, h]; rfl) | (simp_all; done)))) ?_
 refine qe (Z0h rfl rfl rfl (fun h => by rw [h]; rfl)) ?_
 refine qA (qN (qE ?_))
 exact Z0k rfl (Z4 rfl Z3) (gb rfl)
theorem Zc5 (c : Cls) (hc0 : c.ok) : ACalls Tryz.prog 105 [c.av] [] (Gives (bA (orderedC c))) := by
 have h1 := hc0.ifaces.1
 have h2 := hc0.fields.1
 have h3 := hc0.methods.1
 simp only [small] at h1 h2 h3
 refine Ze (n := 66) Tryz.func105 rfl (by decide +kernel) rfl rfl ?_
 refine qS (qR ?_)
 refine Z04 (w0 rfl) rfl (fun id => Z0a id rfl rfl rfl rfl rfl) (fun id1 => ?_)
 refine qA (qN (qS (qS (qR (qA (qN (qB ?_)))))))
 refine Zk (α := Nat) (fun i => ⟨[(3, iA i), (1, .ptr id1 7 0 0)], [(id1, .rows 53 7 [c.cells])], [], 66⟩) (fun i => 0 < i ∧ ∀ k, k < i → 0 < k → gI c k = true) (fun i => c.ifaces.length - i) 1 ⟨by omega, fun k h1 h2 => by omega⟩ ?_ ?_
 ·exact Zi [0] ⟨rfl, rfl, trivial⟩ rfl (by decide) rfl rfl
 rintro i hJ
 refine qS (qS (qR (qM ?_)))
 refine qe (Z0 rfl rfl rfl) ?_
 refine qL 0 Z6 ?_
 refine qe (Zs rfl rfl rfl rfl) ?_
 refine qe eI ?_
 refine qN ?_
 refine Z2 rfl ?_ ?_
 ·intro hc
  have hi : i < c.ifaces.length := by simpa using hc
  refine qK (qS (qB (qS ?_)))
  refine Z0o 12 rfl (by kernel_rfl) ?_
  refine ce (Z0 rfl rfl rfl) ?_
  refine Z8 0 (w0 rfl) rfl rfl rfl rfl rfl Z6 ?_
  refine cM2 ?_
  refine ce (Zb rfl rfl rfl (Z0c (by first | omega | (simp only [List.length_map]; omega)))) ?_
  refine ce (Zf rfl rfl rfl (Z0b (fun _ => rfl)) (by first | omega | (simp only [List.length_map]; omega) | (simp only [List.length_map, List.length_drop]; omega)) (by first | omega | (simp only [List.length_map]; omega) | (simp only [List.length_map, List.length_drop]; omega))) ?_
  refine ce (Z05 rfl rfl (Z0e (by first | assumption | omega | (simp only [List.length_drop]; omega))) Z6) ?_
  refine ce (Z0 rfl rfl rfl) ?_
  refine Z8 0 (w0 rfl) rfl rfl rfl rfl rfl Z6 ?_
  refine cM2 ?_
  refine ce (Zf rfl rfl rfl (Z0b (fun _ => rfl)) (by first | omega | (simp only [List.length_map]; omega) | (simp only [List.length_map, List.length_drop]; omega)) (by first | omega | (simp only [List.length_map]; omega) | (simp only [List.length_map, List.length_drop]; omega))) ?_
  refine ce (Z05 rfl rfl (Z0e (by first | assumption | omega | (simp only [List.length_drop]; omega))) Z6) ?_
  refine ce (Z0l rfl rfl rfl rfl) ?_
  refine .done (qN ?_)
  refine Z2 rfl ?_ ?_
  ·intro hc
   have hg : gI c i = false := by rw [gI, ← Z35 hJ.1 hi (by omega), ← Z2v hi]; exact Z1y hc
   refine qS (qR (qA (qN (qE ?_))))
   exact Z0k rfl (Z4 rfl Z3) (gb (by unfold orderedC; rw [Z4l hi hJ.1 hg]; rfl))
  ·intro hc
   have hg : gI c i = true := by rw [gI, ← Z35 hJ.1 hi (by omega), ← Z2v hi]; exact Z2o hc
   refine qK (qR (qM ?_))
   refine qe (Zb rfl rfl rfl (Zp (by first | omega | (simp only [List.length_map]; omega)))) ?_
   refine qA (qN ?_)
   refine ⟨i + 1, ⟨by omega, fun k h1 h2 => by rcases Nat.lt_succ_iff_lt_or_eq.1 h1 with h | h; exact hJ.2 k h h2; rw [h]; exact hg⟩, (by omega), ?_⟩
   exact qp [0] ⟨rfl, rfl, trivial⟩
 ·intro hc
  have hi : ¬ i < c.ifaces.length := by simpa using hc
  have all4 := Z5f hJ.2 (by omega : c.ifaces.length ≤ i)
  refine qX (qS (qS (qR (qA (qN (qB ?_))))))
  refine Zk (α := Nat) (fun i => ⟨[(4, iA i), (1, .ptr id1 7 0 0)], [(id1, .rows 53 7 [c.cells])], [], 66⟩) (fun i => 0 < i ∧ ∀ k, k < i → 0 < k → gF c k = true) (fun i => c.fields.length - i) 1 ⟨by omega, fun k h1 h2 => by omega⟩ ?_ ?_
  ·exact Zi [0] ⟨rfl, rfl, trivial⟩ rfl (by decide) rfl rfl
  rintro i hJ
  refine qS (qS (qR (qM ?_)))
  refine qe (Z0 rfl rfl rfl) ?_
  refine qL 0 Z6 ?_
  refine qe (Zs rfl rfl rfl rfl) ?_
  refine qe eI ?_
  refine qN ?_
  refine Z2 rfl ?_ ?_
  ·intro hc
   have hi : i < c.fields.length := by simpa using hc
   refine qK (qS (qB (qS ?_)))
   refine Zw [0, 1, 0, 4, 15, 31, 63, 0, 128, 0, 896, 1920, 3968, 8191] 14 rfl (by kernel_rfl) ?_
   refine ce (Z0 rfl rfl rfl) ?_
   refine Z8 0 (w0 rfl) rfl rfl rfl rfl rfl Z6 ?_
   refine cM2 ?_
   refine ce (Zb rfl rfl rfl (Z0c (by first | omega | (simp only [List.length_map]; omega)))) ?_
   refine ce (Zf rfl rfl rfl (Z0b (fun _ => rfl)) (by first | omega | (simp only [List.length_map]; omega) | (simp only [List.length_map, List.length_drop]; omega)) (by first | omega | (simp only [List.length_map]; omega) | (simp only [List.length_map, List.length_drop]; omega))) ?_
   refine ce (Z0 rfl rfl rfl) ?_
   refine ce (Z05 rfl rfl (Z0e (by first | assumption | omega | (simp only [List.length_drop]; omega))) Z6) ?_
   refine ce (Z0 rfl rfl rfl) ?_
   refine Z8 0 (w0 rfl) rfl rfl rfl rfl rfl Z6 ?_
   refine cM2 ?_
   refine ce (Zf rfl rfl rfl (Z0b (fun _ => rfl)) (by first | omega | (simp only [List.length_map]; omega) | (simp only [List.length_map, List.length_drop]; omega)) (by first | omega | (simp only [List.length_map]; omega) | (simp only [List.length_map, List.length_drop]; omega))) ?_
   refine ce (Z0 rfl rfl rfl) ?_
   refine ce (Z05 rfl rfl (Z0e (by first | assumption | omega | (simp only [List.length_drop]; omega))) Z6) ?_
   refine ce (Z0l rfl rfl rfl rfl) ?_
   refine .done (qN ?_)
   refine Z2 rfl ?_ ?_
   ·intro hc
    have hg : gF c i = false := by rw [gF, ← Z35 hJ.1 hi (by omega), ← Z2v hi]; exact Z1y hc
    refine qS (qR (qA (qN (qE ?_))))
    exact Z0k rfl (Z4 rfl Z3) (gb (by unfold orderedC; rw [all4, Z4l hi hJ.1 hg]; rfl))
   ·intro hc
    have hg : gF c i = true := by rw [gF, ← Z35 hJ.1 hi (by omega), ← Z2v hi]; exact Z2o hc
    refine qK (qR (qM ?_))
    refine qe (Zb rfl rfl rfl (Zp (by first | omega | (simp only [List.length_map]; omega)))) ?_
    refine qA (qN ?_)
    refine ⟨i + 1, ⟨by omega, fun k h1 h2 => by rcases Nat.lt_succ_iff_lt_or_eq.1 h1 with h | h; exact hJ.2 k h h2; rw [h]; exact hg⟩, (by omega), ?_⟩
    exact qp [0] ⟨rfl, rfl, trivial⟩
  ·intro hc
   have hi : ¬ i < c.fields.length := by simpa using hc
   have all9 := Z5f hJ.2 (by omega : c.fields.length ≤ i)
   refine qX (qS (qS (qR (qA (qN (qB ?_))))))
   refine Zk (α := Nat) (fun i => ⟨[(5, iA i), (1, .ptr id1 7 0 0)], [(id1, .rows 53 7 [c.cells])], [], 66⟩) (fun i => 0 < i ∧ ∀ k, k < i → 0 < k → gM c k = true) (fun i => c.methods.length - i) 1 ⟨by omega, fun k h1 h2 => by omega⟩ ?_ ?_
   ·exact Zi [0] ⟨rfl, rfl, trivial⟩ rfl (by decide) rfl rfl
   rintro i hJ
   refine qS (qS (qR (qM ?_)))
   refine qe (Z0 rfl rfl rfl) ?_
   refine qL 0 Z6 ?_
   refine qe (Zs rfl rfl rfl rfl) ?_
   refine qe eI ?_
   refine qN ?_
   refine Z2 rfl ?_ ?_
   ·intro hc
    have hi : i < c.methods.length := by simpa using hc
    refine qK (qS (qB (qS ?_)))
    refine Zw [0, 1, 0, 4, 15, 31, 0, 64, 0, 448, 960, 2047, 4095] 13 rfl (by kernel_rfl) ?_
    refine ce (Z0 rfl rfl rfl) ?_
    refine Z8 0 (w0 rfl) rfl rfl rfl rfl rfl Z6 ?_
    refine cM2 ?_
    refine ce (Zb rfl rfl rfl (Z0c (by first | omega | (simp only [List.length_map]; omega)))) ?_
    refine ce (Zf rfl rfl rfl (Z0b (fun _ => rfl)) (by first | omega | (simp only [List.length_map]; omega) | (simp only [List.length_map, List.length_drop]; omega)) (by first | omega | (simp only [List.length_map]; omega) | (simp only [List.length_map, List.length_drop]; omega))) ?_
    refine ce (Z05 rfl rfl (Z0e (by first | assumption | omega | (simp only [List.length_drop]; omega))) (Z00 (Nat.le_of_ble_eq_true rfl))) ?_
    refine ce (Z0 rfl rfl rfl) ?_
    refine Z8 0 (w0 rfl) rfl rfl rfl rfl rfl Z6 ?_
    refine cM2 ?_
    refine ce (Zf rfl rfl rfl (Z0b (fun _ => rfl)) (by first | omega | (simp only [List.length_map]; omega) | (simp only [List.length_map, List.length_drop]; omega)) (by first | omega | (simp only [List.length_map]; omega) | (simp only [List.length_map, List.length_drop]; omega))) ?_
    refine ce (Z05 rfl rfl (Z0e (by first | assumption | omega | (simp only [List.length_drop]; omega))) (Z00 (Nat.le_of_ble_eq_true rfl))) ?_
    refine ce (Z7 [] rfl rfl rfl (Zbu _ _) List.nodup_nil) ?_
    refine ce (Zy rfl rfl) ?_
    refine .done (qN ?_)
    refine Z2 rfl ?_ ?_
    ·intro hc
     have hg : gM c i = false := by rw [gM, ← Z35 hJ.1 hi (by omega), ← Z2v hi]; exact Z1y hc
     refine qS (qR (qA (qN (qE ?_))))
     exact Z0k rfl (Z4 rfl Z3) (gb (by unfold orderedC; rw [all4, all9, Z4l hi hJ.1 hg]; rfl))
    ·intro hc
     have hg : gM c i = true := by rw [gM, ← Z35 hJ.1 hi (by omega), ← Z2v hi]; exact Z2o hc
     refine qK (qR (qM ?_))
     refine qe (Zb rfl rfl rfl (Zp (by first | omega | (simp only [List.length_map]; omega)))) ?_
     refine qA (qN ?_)
     refine ⟨i + 1, ⟨by omega, fun k h1 h2 => by rcases Nat.lt_succ_iff_lt_or_eq.1 h1 with h | h; exact hJ.2 k h h2; rw [h]; exact hg⟩, (by omega), ?_⟩
     exact qp [0] ⟨rfl, rfl, trivial⟩
   ·intro hc
    have hi : ¬ i < c.methods.length := by simpa using hc
    have all14 := Z5f hJ.2 (by omega : c.methods.length ≤ i)
    refine qX (qS (qR (qA (qN (qE ?_)))))
    exact Z0k rfl (Z4 rfl Z3) (gb (by unfold orderedC; rw [all4, all9, all14]; rfl))
theorem Zaa {p : Prog} {i : Nat} (hi : i < p.classes.length) : inOrdK p i = !(!orderedC p.classes[i] || (decide ((i : Int) > 0) && !ltS (p.classes.getD ((i : Int) - 1).toNat default).name (p.classes.getD (i : Int).toNat default).name)) := by
 unfold inOrdK gC
 rw [show (i : Int).toNat = i from rfl, ← Z2v hi]
 cases i with
 | zero => simp
 | succ k =>
  rw [show Nat.beq (k + 1) 0 = false from rfl, decide_eq_true (by omega : ((k + 1 : Nat) : Int) > 0), show (((k + 1 : Nat) : Int) - 1).toNat = k + 1 - 1 by omega]
  cases orderedC p.classes[k + 1] <;> simp
theorem Zh8 (p : Prog) (hp : p.ok) : ACalls Tryz.prog 61 [p.av] [] (Gives (bA (inOrdR p))) := by
 have hb := hp.classes.1
 simp only [small] at hb
 refine Ze (n := 38) Tryz.func61 rfl (by decide +kernel) rfl rfl ?_
 refine qS (qR ?_)
 refine Z04 (w0 rfl) rfl (fun id => Z0a id rfl rfl rfl rfl rfl) (fun id1 => ?_)
 refine qA (qN (qS (qS (qR (qA (qN (qB ?_)))))))
 refine Zk (α := Nat) (fun i => ⟨[(3, iA i), (1, .ptr id1 5 0 0)], [(id1, .rows 27 5 [p.cells])], [], 38⟩) (fun i => ∀ k, k < i → inOrdK p k = true) (fun i => p.classes.length - i) 0 (fun k h => by omega) ?_ ?_
 ·exact Zi [0] ⟨rfl, rfl, trivial⟩ rfl (by decide) rfl rfl
 rintro i hJ
 refine qS (qS (qR (qM ?_)))
 refine qe (Z0 rfl rfl rfl) ?_
 refine qL 0 Z6 ?_
 refine qe (Zs rfl rfl rfl rfl) ?_
 refine qe eI ?_
 refine qN ?_
 refine Z2 rfl ?_ ?_
 ·intro hc
  have hi : i < p.classes.length := by simpa using hc
  refine qK (qS (qB (qS ?_)))
  refine Zw [0, 1, 0, 7, 15, 31, 63, 127, 255, 511, 1023, 2047, 4095, 2047, 10239, 32767, 65535, 131071, 2047, 264191, 2047, 1837055, 3934207, 8128511, 16777215, 33554431, 67108863] 27 rfl (by kernel_rfl) ?_
  refine ce (Z0 rfl rfl rfl) ?_
  refine Z8 0 (w0 rfl) rfl rfl rfl rfl rfl Z6 ?_
  refine cM2 ?_
  refine ce (Zf rfl rfl rfl (Z0b (fun _ => rfl)) (by first | omega | (simp only [List.length_map]; omega) | (simp only [List.length_map, List.length_drop]; omega)) (by first | omega | (simp only [List.length_map]; omega) | (simp only [List.length_map, List.length_drop]; omega))) ?_
  refine ce (Z05 rfl rfl (Z0e (by first | assumption | omega | (simp only [List.length_drop]; omega))) (Z00 (Nat.le_of_ble_eq_true rfl))) ?_
  refine ce (Z7 [] rfl rfl rfl (Zc5 _ (hp.classes.2 _ (List.getElem_mem hi))) List.nodup_nil) ?_
  refine ce (Zy rfl rfl) ?_
  refine cM2 (cFM ?_)
  refine Zd (wF rfl rfl rfl rfl) rfl (fun hg => (Zn rfl (Za hg rfl) rfl rfl)) ?_
  refine Zd (wF rfl rfl rfl rfl) rfl (fun hg => (Z03 rfl (Za hg rfl))) ?_
  refine Zd (wTg rfl rfl rfl rfl) rfl (fun hg => (Z0 rfl rfl rfl)) ?_
  refine Z16 0 (wTg rfl rfl rfl rfl) rfl rfl (fun hg => (Za hg rfl)) rfl rfl Z6 ?_
  refine Zd (wTg rfl rfl rfl rfl) rfl (fun hg => (Z03 rfl rfl)) ?_
  refine Zd (wTg rfl rfl rfl rfl) rfl (fun hg => (Zb rfl (Za hg rfl) rfl (Z0c (by first | omega | (simp only [List.length_map]; omega))))) ?_
  refine Zd (wTg rfl rfl rfl rfl) rfl (fun hg => (Zf rfl (Za hg rfl) (Za hg rfl) (Z0b (fun _ => rfl)) (by (try simp at hg) <;> first | omega | (simp only [List.length_map]; omega) | (simp only [List.length_map, List.length_drop]; omega)) (by (try simp at hg) <;> first | omega | (simp only [List.length_map]; omega) | (simp only [List.length_map, List.length_drop]; omega)))) ?_
  refine Zd (wTg rfl rfl rfl rfl) rfl (fun hg => (Z0 rfl (Za hg rfl) rfl)) ?_
  refine Zd (wTg rfl rfl rfl rfl) rfl (fun hg => (Z05 rfl (Za hg rfl) (Z4h (by (try simp at hg) <;> first | assumption | omega | (simp only [List.length_drop]; omega))) Z6)) ?_
  refine Zd (wTg rfl rfl rfl rfl) rfl (fun hg => (Z0 rfl rfl rfl)) ?_
  refine Z16 0 (wTg rfl rfl rfl rfl) rfl rfl (fun hg => (Za hg rfl)) rfl rfl Z6 ?_
  refine Zd (wTg rfl rfl rfl rfl) rfl (fun hg => (Z03 rfl rfl)) ?_
  refine Zd (wTg rfl rfl rfl rfl) rfl (fun hg => (Zf rfl (Za hg rfl) (Za hg rfl) (Z0b (fun _ => rfl)) (by (try simp at hg) <;> first | omega | (simp only [List.length_map]; omega) | (simp only [List.length_map, List.length_drop]; omega)) (by (try simp at hg) <;> first | omega | (simp only [List.length_map]; omega) | (simp only [List.length_map, List.length_drop]; omega)))) ?_
  refine Zd (wTg rfl rfl rfl rfl) rfl (fun hg => (Z0 rfl (Za hg rfl) rfl)) ?_
  refine Zd (wTg rfl rfl rfl rfl) rfl (fun hg => (Z05 rfl (Za hg rfl) (Z4h (by (try simp at hg) <;> first | assumption | omega | (simp only [List.length_drop]; omega))) Z6)) ?_
  refine Zd (wTg rfl rfl rfl rfl) rfl (fun hg => (Z0l rfl (Za hg rfl) (Za hg rfl) rfl)) ?_
  refine Zd (wF rfl rfl rfl rfl) rfl (fun hg => (Zq rfl (Za hg rfl) rfl (fun h => by first | (simp [h, hg]; done) | (rw [hg, h]; rfl) | (simp_all; done)))) ?_
  refine ce (Z0h rfl rfl rfl (fun h => by rw [h]; rfl)) ?_
  refine .done (qN ?_)
  refine Z2 rfl ?_ ?_
  ·intro hc
   have hg : inOrdK p i = false := by rw [Zaa hi]; exact congrArg (!·) hc
   refine qS (qR (qA (qN (qE ?_))))
   exact Z0k rfl (Z4 rfl Z3) (gb (Z7l hi hg).symm)
  ·intro hc
   have hg : inOrdK p i = true := by rw [Zaa hi]; exact congrArg (!·) hc
   refine qK (qR (qM ?_))
   refine qe (Zb rfl rfl rfl (Zp (by first | omega | (simp only [List.length_map]; omega)))) ?_
   refine qA (qN ?_)
   refine ⟨i + 1, (fun k h => by rcases Nat.lt_succ_iff_lt_or_eq.1 h with h | h; exact hJ k h; rw [h]; exact hg), (by omega), ?_⟩
   exact qp [0] ⟨rfl, rfl, trivial⟩
 ·intro hc
  have hi : ¬ i < p.classes.length := by simpa using hc
  refine qX (qS (qR (qA (qN (qE ?_)))))
  exact Z0k rfl (Z4 rfl Z3) (gb (Z4m fun k hk => hJ k (by omega)).symm)
theorem Zc7 (p : Prog) (hp : p.ok) : ACalls Tryz.prog 19 [p.av] [] (Gives (iA (rightR p))) := by
 have hb := hp.classes.1
 simp only [small] at hb
 refine Ze (n := 27) Tryz.func19 rfl (by decide +kernel) rfl rfl ?_
 refine qS (qR ?_)
 refine Z04 (w0 rfl) rfl (fun id => Z0a id rfl rfl rfl rfl rfl) (fun id1 => ?_)
 refine qA (qN (qS (qS (qR ?_))))
 refine qL 0 (Z00 (Nat.le_of_ble_eq_true rfl)) ?_
 refine qe (Z7 [] rfl rfl rfl (Zez p hp) List.nodup_nil) ?_
 refine qN ?_
 refine Z2 rfl ?_ ?_
 ·intro hc
  have t1 : longR p = true := hc
  refine qS (qR (qA (qN (qE ?_))))
  exact Z0k rfl (Z4 rfl Z3) (gi (by unfold rightR; rw [if_pos t1]))
 ·intro hc
  have t1 : longR p = false := hc
  refine qK (qS (qS (qR (qA (qN (qB ?_))))))
  refine Zk (α := Nat) (fun i => ⟨[(3, iA i), (1, .ptr id1 5 0 0)], [(id1, .rows 27 5 [p.cells])], [], 27⟩) (fun i => (p.classes.drop i).any (fun c => !clsR8 c) = p.classes.any (fun c => !clsR8 c)) (fun i => p.classes.length - i) 0 rfl ?_ ?_
  ·exact Zi [0] ⟨rfl, rfl, trivial⟩ rfl (by decide) rfl rfl
  rintro i hJ
  refine qS (qS (qR (qM ?_)))
  refine qe (Z0 rfl rfl rfl) ?_
  refine qL 0 Z6 ?_
  refine qe (Zs rfl rfl rfl rfl) ?_
  refine qe eI ?_
  refine qN ?_
  refine Z2 rfl ?_ ?_
  ·intro hc
   have hi : i < p.classes.length := by simpa using hc
   refine qK (qS (qB (qS (qR ?_))))
   refine qe (Z0 rfl rfl rfl) ?_
   refine qL 0 Z6 ?_
   refine qM ?_
   refine qe (Zf rfl rfl rfl (Z0b (fun _ => rfl)) (by first | omega | (simp only [List.length_map]; omega) | (simp only [List.length_map, List.length_drop]; omega)) (by first | omega | (simp only [List.length_map]; omega) | (simp only [List.length_map, List.length_drop]; omega))) ?_
   refine qe (Z05 rfl rfl (Z0e (by first | assumption | omega | (simp only [List.length_drop]; omega))) (Z00 (Nat.le_of_ble_eq_true rfl))) ?_
   refine qe (Z7 [] rfl rfl rfl (Zgu _ (hp.classes.2 _ (List.getElem_mem hi))) List.nodup_nil) ?_
   refine qe (Zy rfl rfl) ?_
   refine qN ?_
   refine Z2 rfl ?_ ?_
   ·intro hc
    have hq : (fun c => !clsR8 c) p.classes[i] = true := hc
    have t4 : p.classes.any (fun c => !clsR8 c) = true := Z26 hJ hi hq
    refine qS (qR (qA (qN (qE ?_))))
    exact Z0k rfl (Z4 rfl Z3) (gi (by unfold rightR; rw [if_neg (by rw [t1]; simp), if_pos t4]))
   ·intro hc
    have hq : (fun c => !clsR8 c) p.classes[i] = false := hc
    refine qK (qR (qM ?_))
    refine qe (Zb rfl rfl rfl (Zp (by first | omega | (simp only [List.length_map]; omega)))) ?_
    refine qA (qN ?_)
    refine ⟨i + 1, (Z27 hJ hi hq), (by omega), ?_⟩
    exact qp [0] ⟨rfl, rfl, trivial⟩
  ·intro hc
   have hi : ¬ i < p.classes.length := by simpa using hc
   have t4 : p.classes.any (fun c => !clsR8 c) = false := Z2t hJ hi
   refine qX (qS (qS (qR ?_)))
   refine qe (Z0 rfl rfl rfl) ?_
   refine qL 0 (Z00 (Nat.le_of_ble_eq_true rfl)) ?_
   refine qe (Z7 [] rfl rfl rfl (Zbw p.entry) List.nodup_nil) ?_
   refine qe (Zy rfl rfl) ?_
   refine qN ?_
   refine Z2 rfl ?_ ?_
   ·intro hc
    have t8 : (!entryR p.entry) = true := hc
    refine qS (qR (qA (qN (qE ?_))))
    exact Z0k rfl (Z4 rfl Z3) (gi (by unfold rightR; rw [if_neg (by rw [t1]; simp), if_neg (by rw [t4]; simp), if_pos t8]))
   ·intro hc
    have t8 : (!entryR p.entry) = false := hc
    refine qK (qS (qS (qR ?_)))
    refine qL 0 (Z00 (Nat.le_of_ble_eq_true rfl)) ?_
    refine qe (Z7 [] rfl rfl rfl (Zh8 p hp) List.nodup_nil) ?_
    refine qe (Zy rfl rfl) ?_
    refine qN ?_
    refine Z2 rfl ?_ ?_
    ·intro hc
     have t10 : (!inOrdR p) = true := hc
     refine qS (qR (qA (qN (qE ?_))))
     exact Z0k rfl (Z4 rfl Z3) (gi (by unfold rightR; rw [if_neg (by rw [t1]; simp), if_neg (by rw [t4]; simp), if_neg (by rw [t8]; simp), if_pos t10]))
    ·intro hc
     have t10 : (!inOrdR p) = false := hc
     refine qK (qS (qR (qA (qN (qE ?_)))))
     exact Z0k rfl (Z4 rfl Z3) (gi (by unfold rightR; rw [if_neg (by rw [t1]; simp), if_neg (by rw [t4]; simp), if_neg (by rw [t8]; simp), if_neg (by rw [t10]; simp)]))
end Go.Sx
namespace Go.Sx
open Go
theorem Z21 {a b : Str} {i : Nat} (h : i < a.size) : byteAt (a ++ b) (i : Nat) = byteAt a (i : Nat) := by
 rw [Z24 (show i < (a ++ b).size by rw [ByteArray.size_append]; omega), Z24 h, ByteArray.getElem_append_left h]
theorem Z45 {a b : Str} {i : Nat} (h : a.size ≤ i) (h2 : i < (a ++ b).size) : byteAt (a ++ b) (i : Nat) = byteAt b ((i - a.size : Nat) : Int) := by
 have h3 : i - a.size < b.size := by rw [ByteArray.size_append] at h2; omega
 rw [Z24 h2, Z24 h3, ByteArray.getElem_append_right h]
theorem Z6g {s : Str} {a b i : Nat} (h : i < (s.extract a b).size) : byteAt (s.extract a b) (i : Nat) = byteAt s ((a + i : Nat) : Int) := by
 have h2 : a + i < s.size := by rw [ByteArray.size_extract] at h; omega
 rw [Z24 h, Z24 h2, ByteArray.getElem_extract]
def okC (c : Int) : Bool := letW c || (c == 47 || (c == 59 || (c == 91 || (c == 40 || c == 41))))
def okS (s : Str) : Prop := ∀ i, i < s.size → okC (byteAt s (i : Nat)) = true
theorem Z4v {c : Int} (h : letW c = true) : 33 ≤ c ∧ c ≤ 126 ∧ c ≠ 42 ∧ c ≠ 63 ∧ c ≠ 46 ∧ c ≠ 40 := by
 unfold letW at h
 simp only [Bool.or_eq_true, Bool.and_eq_true, beq_iff_eq, decide_eq_true_eq] at h
 omega
theorem Z88 {c : Int} (h : okC c = true) : 33 ≤ c ∧ c ≤ 126 ∧ c ≠ 42 ∧ c ≠ 63 := by
 unfold okC at h
 rcases Bool.or_eq_true _ _ ▸ h with h | h
 ·have := Z4v h; omega
 ·simp only [Bool.or_eq_true, beq_iff_eq] at h; omega
theorem Zhy {c : Int} (h : letW c = true) : okC c = true := by unfold okC; rw [h]; rfl
theorem Zdf {s : Str} (h : okS s) : plainG s := fun i hi => by have := Z88 (h i hi); omega
theorem Z7a {s : Str} (h : okS s) (h1 : 1 ≤ s.size) (h2 : s.size ≤ 64) : globR s = true := by
 unfold globR
 rw [Z4m (fun k hk => by unfold seenG; have := Z88 (h k hk); rw [decide_eq_true (by omega), decide_eq_true (by omega)]; rfl), Zik h1, decide_eq_true h2]; rfl
theorem Z4w {a b : Str} (ha : okS a) (hb : okS b) : okS (a ++ b) := fun i hi => by
 rcases Nat.lt_or_ge i a.size with h | h
 ·rw [Z21 h]; exact ha i h
 ·rw [Z45 h hi]; exact hb _ (by rw [ByteArray.size_append] at hi; omega)
theorem Z2d {s t : Str} (h : okS s) : globM s t = decide (s = t) := Zb7 (Zdf h)
theorem Zit {s : Str} (h : beqS s zS = false) : 1 ≤ s.size := by
 rcases Nat.lt_or_ge s.size 1 with h1 | h1
 ·have : s = zS := ByteArray.size_eq_zero_iff.1 (by omega)
  rw [this, Z3f] at h; cases h
 ·exact h1
structure NmOk (s : Str) : Prop where
 ok : okS s
 lo : 1 ≤ s.size
 hi : s.size ≤ 32
theorem Zbn {s : Str} {m : Int} (hm : okC m = true) (h : allW s m = true) : NmOk s := by
 unfold allW at h
 simp only [Bool.and_eq_true, Bool.not_eq_true', decide_eq_true_eq] at h
 refine ⟨fun i hi => ?_, Zit h.2.1, h.2.2⟩
 have := Z8k h.1 hi
 rcases Bool.or_eq_true _ _ ▸ this with h3 | h3
 ·exact Zhy h3
 ·rw [beq_iff_eq.1 h3]; exact hm
theorem Z90 {s : Str} (h : clsW s = true) : NmOk s := Zbn (m := 47) (by decide) h
theorem Zad {s : Str} (h : nameW s = true) (hn : s ≠ nInit') : NmOk s := by
 unfold nameW at h
 rcases Bool.or_eq_true _ _ ▸ h with h | h
 ·exact absurd (beqS_iff.1 h) hn
 ·exact Zbn (m := 95) (by decide) h
theorem Z5z {c : UInt8} (h : okC (c.toNat : Int) = true) : okS ⟨#[c]⟩ := fun i hi => by
 have : i = 0 := by have h2 : i < 1 := hi; omega
 subst this; exact h
theorem Zam {t : Ty} (h : t.kind = 1 ∨ t.kind = 2 ∨ clsW t.cls = true) : okS (text0 t) ∧ 1 ≤ (text0 t).size ∧ (text0 t).size ≤ 34 ∧ byteAt (text0 t) ((0 : Nat) : Int) ≠ 40 := by
 unfold text0
 split
 ·exact ⟨Z5z (by decide), by decide, by decide, by decide +kernel⟩
 ·split
  ·exact ⟨Z5z (by decide), by decide, by decide, by decide +kernel⟩
  ·rename_i h1 h2
   have hc : clsW t.cls = true := by rcases h with h | h | h; exact absurd h h1; exact absurd h h2; exact h
   have hk := Z90 hc
   have s1 : ByteArray.size ⟨#[76]⟩ = 1 := rfl
   have s2 : ByteArray.size ⟨#[59]⟩ = 1 := rfl
   have hs : (((⟨#[76]⟩ : Str) ++ t.cls) ++ (⟨#[59]⟩ : Str)).size = 1 + t.cls.size + 1 := by rw [ByteArray.size_append, ByteArray.size_append, s1, s2]
   have h3 := hk.hi
   refine ⟨Z4w (Z4w (Z5z (by decide)) hk.ok) (Z5z (by decide)), by omega, by omega, ?_⟩
   rw [Z21 (by rw [ByteArray.size_append, s1]; omega), Z21 (by rw [s1]; omega)]
   decide +kernel
theorem Z7i {t : Ty} (h : rightT t = true) : okS (textT t) ∧ 1 ≤ (textT t).size ∧ (textT t).size ≤ 64 ∧ byteAt (textT t) ((0 : Nat) : Int) ≠ 40 := by
 unfold textT
 rw [if_pos h]
 split
 ·rename_i h45
  have he : (elemT t).kind = 1 ∨ (elemT t).kind = 2 ∨ clsW (elemT t).cls = true := by
   unfold elemT
   rcases h45 with h4 | h5
   ·rw [if_pos h4]; exact .inr (.inl rfl)
   ·rw [if_neg (by omega), if_pos h5]
    unfold rightT at h
    rw [if_pos (.inr h5)] at h
    exact .inr (.inr h)
  obtain ⟨h1, h2, h3, h4⟩ := Zam he
  have s1 : ByteArray.size ⟨#[91]⟩ = 1 := rfl
  refine ⟨Z4w (Z5z (by decide)) h1, by rw [ByteArray.size_append]; omega, by rw [ByteArray.size_append]; omega, ?_⟩
  rw [Z21 (by rw [s1]; omega)]; decide +kernel
 ·rename_i h45
  have he : t.kind = 1 ∨ t.kind = 2 ∨ clsW t.cls = true := by
   unfold rightT at h
   split at h
   ·exact .inr (.inr h)
   ·simp only [Bool.and_eq_true, decide_eq_true_eq] at h
    omega
  obtain ⟨h1, h2, h3, h4⟩ := Zam he
  exact ⟨h1, h2, by omega, h4⟩
theorem Zfs {s : Str} {k : Nat} (h : nxA s k = k + 1) : byteAt s (k : Nat) = 91 := by
 unfold nxA at h
 split at h
 ·rename_i ha
  unfold arrA at ha
  simp only [Bool.and_eq_true, beq_iff_eq] at ha
  exact ha.2
 ·omega
theorem Z6l {s : Str} {k : Nat} (h : (nextR s k).2.2 = true) (i : Nat) (h1 : k ≤ i) (h2 : i < (nextR s k).2.1) : okC (byteAt s (i : Nat)) = true := by
 have h0 := Zde s k
 have hfst : i < nxA s k → okC (byteAt s (i : Nat)) = true := fun hlt => by
  have e : nxA s k = k + 1 := by omega
  have e2 : i = k := by omega
  rw [e2, Zfs e]; decide
 unfold nextR at h h2
 split at h
 ·cases h
 ·rename_i c1
  rw [if_neg c1] at h2
  split at h
  ·rename_i c2
   rw [if_pos c2] at h2
   rcases Nat.lt_or_ge i (nxA s k) with g | g
   ·exact hfst g
   ·have e : i = nxA s k := by simp only at h2; omega
    rw [e, c2]; decide
  ·rename_i c2
   rw [if_neg c2] at h2
   split at h
   ·rename_i c3
    rw [if_pos c3] at h2
    rcases Nat.lt_or_ge i (nxA s k) with g | g
    ·exact hfst g
    ·have e : i = nxA s k := by simp only at h2; omega
     rw [e, c3]; decide
   ·rename_i c3
    rw [if_neg c3] at h2
    split at h
    ·rename_i c4
     rw [if_pos c4] at h2
     split at h
     ·cases h
     ·rename_i c5
      rw [if_neg c5] at h2
      simp only at h2
      have hsl := Zds (s := s) (t := nxA s k) (by omega)
      have hlt : semi s (nxA s k) < s.size := by rcases Nat.lt_or_ge (semi s (nxA s k)) s.size with g | g; exact g; exact absurd (.inl g) c5
      have hcls : clsW (s.extract (nxA s k + 1) (semi s (nxA s k))) = true := by
       cases hc : clsW (s.extract (nxA s k + 1) (semi s (nxA s k))) with
       | true => rfl
       | false => exact absurd (.inr hc) c5
      have hok := Z90 hcls
      rcases Nat.lt_or_ge i (nxA s k) with g | g
      ·exact hfst g
      ·rcases Nat.eq_or_lt_of_le g with g | g
       ·rw [← g, c4]; decide
       ·rcases Nat.lt_or_ge i (semi s (nxA s k)) with g2 | g2
        ·have hsz : (s.extract (nxA s k + 1) (semi s (nxA s k))).size = semi s (nxA s k) - (nxA s k + 1) := by rw [ByteArray.size_extract]; omega
         have h5 := hok.ok (i - (nxA s k + 1)) (by omega)
         rw [Z6g (by omega), show nxA s k + 1 + (i - (nxA s k + 1)) = i by omega] at h5
         exact h5
        ·have e : i = semi s (nxA s k) := by omega
         rw [e, Zi1 hlt]; decide
    ·cases h
theorem Z6m {s : Str} : ∀ (n k : Nat) (o o' : List Ty) (k' : Nat), parF s n k o = some (o', k') → k ≤ k' ∧ (∀ i, k ≤ i → i < k' → okC (byteAt s (i : Nat)) = true) ∧ (k' < s.size → byteAt s (k' : Nat) = 41)
 | 0, _, _, _, _, h => by cases h
 | n + 1, k, o, o', k', h => by
  rw [parF] at h
  split at h
  ·split at h
   ·cases h
   ·rename_i h1 h2
    have hok : (nextR s k).2.2 = true := by
     cases hc : (nextR s k).2.2 with
     | true => rfl
     | false => exact absurd (.inl hc) h2
    have hn := Z79 hok
    obtain ⟨g1, g2, g3⟩ := Z6m n _ _ _ _ h
    refine ⟨by omega, fun i a b => ?_, g3⟩
    rcases Nat.lt_or_ge i (nextR s k).2.1 with g | g
    ·exact Z6l hok i a g
    ·exact g2 i g b
  ·rename_i h1
   cases h
   refine ⟨Nat.le_refl _, fun i a b => by omega, fun hlt => ?_⟩
   by_cases h2 : byteAt s (k : Nat) = 41
   ·exact h2
   ·exact absurd ⟨hlt, h2⟩ h1
structure DsOk (s : Str) : Prop where
 ok : okS s
 lo : 1 ≤ s.size
 hi : s.size ≤ 64
 b0 : byteAt s ((0 : Nat) : Int) = 40
theorem Zg4 {s : Str} (h : (splitR s).2.2 = 0) : DsOk s := by
 unfold splitR at h
 split at h
 ·exact absurd h (by unfold splitE; simp)
 ·rename_i h1
  split at h
  ·exact absurd h (by unfold splitE; simp)
  ·rename_i h2
   split at h
   ·exact absurd h (by unfold splitE; simp)
   ·rename_i o k hp
    split at h
    ·exact absurd h (by unfold splitE; simp)
    ·rename_i h4
     split at h
     ·rename_i h5; exact absurd h (by unfold splitE; simpa using h5)
     ·rename_i h5
      have h5 : (parseR (s.extract (k + 1) s.size)).2 = 0 := by simpa using h5
      obtain ⟨g1, g2, g3⟩ := Z6m _ _ _ _ _ hp
      have hr : (nextR (s.extract (k + 1) s.size) 0).2.2 = true ∧ (nextR (s.extract (k + 1) s.size) 0).2.1 = (s.extract (k + 1) s.size).size := by
       unfold parseR at h5
       split at h5
       ·simp at h5
       ·rename_i h6
        constructor
        ·cases hc : (nextR (s.extract (k + 1) s.size) 0).2.2 with
         | true => rfl
         | false => exact absurd (.inl hc) h6
        ·by_cases h7 : (nextR (s.extract (k + 1) s.size) 0).2.1 = (s.extract (k + 1) s.size).size
         ·exact h7
         ·exact absurd (.inr h7) h6
      have hsz : (s.extract (k + 1) s.size).size = s.size - (k + 1) := by rw [ByteArray.size_extract]; omega
      have h0 : byteAt s ((0 : Nat) : Int) = 40 := by
       by_cases h6 : byteAt s 0 = 40
       ·exact h6
       ·exact absurd (.inr h6) h2
      refine ⟨fun i hi => ?_, by omega, by omega, h0⟩
      rcases Nat.eq_zero_or_pos i with g | g
      ·rw [g, h0]; decide
      ·rcases Nat.lt_or_ge i k with g4 | g4
       ·exact g2 i g g4
       ·rcases Nat.eq_or_lt_of_le g4 with g4 | g4
        ·rw [← g4, g3 (by omega)]; decide
        ·have h7 := Z6l hr.1 (i - (k + 1)) (Nat.zero_le _) (by rw [hr.2]; omega)
         rw [Z6g (by omega), show k + 1 + (i - (k + 1)) = i by omega] at h7
         exact h7
theorem Z2x {p : Prog} (h : rightR p = 0) {c : Cls} (hc : c ∈ p.classes) : clsR8 c = true := by
 unfold rightR at h
 split at h
 ·cases h
 ·split at h
  ·cases h
  ·rename_i h2
   cases h3 : clsR8 c with
   | true => rfl
   | false => exact absurd (List.any_eq_true.2 ⟨c, hc, by rw [h3]; rfl⟩) h2
theorem Z5v {c : Cls} (h : clsR8 c = true) : NmOk c.name := by
 unfold clsR8 at h
 split at h
 ·cases h
 ·rename_i h1
  cases h2 : clsW c.name with
  | true => exact Z90 h2
  | false => exact absurd (by rw [h2]; rfl) h1
theorem Za2 {c : Cls} (h : clsR8 c = true) {f : Fld} (hf : f ∈ c.fields) : fldR f = true := by
 unfold clsR8 at h
 split at h
 ·cases h
 ·split at h
  ·cases h
  ·split at h
   ·cases h
   ·split at h
    ·cases h
    ·rename_i h1
     cases h2 : fldR f with
     | true => rfl
     | false => exact absurd (List.any_eq_true.2 ⟨f, hf, by rw [h2]; rfl⟩) h1
theorem Za3 {c : Cls} (h : clsR8 c = true) {m : Meth} (hm : m ∈ c.methods) : methR m = true := by
 unfold clsR8 at h
 split at h
 ·cases h
 ·split at h
  ·cases h
  ·split at h
   ·cases h
   ·split at h
    ·cases h
    ·cases h2 : methR m with
     | true => rfl
     | false =>
      have : c.methods.any (fun m => !cmR c m) = true := List.any_eq_true.2 ⟨m, hm, by unfold cmR; rw [h2]; rfl⟩
      rw [this] at h; cases h
theorem Z86 {m : Meth} (h : methR m = true) : DsOk m.desc ∧ nameW m.name = true := by
 unfold methR at h
 split at h
 ·cases h
 ·rename_i h1
  have h2 : (((!((splitR m.desc).2.2 == 0) || !nameW m.name) || decide (m.regs < 0)) || decide (m.regs > 32)) = false := by
   cases hb : (((!((splitR m.desc).2.2 == 0) || !nameW m.name) || decide (m.regs < 0)) || decide (m.regs > 32)) with
   | false => rfl
   | true => exact absurd hb h1
  simp only [Bool.or_eq_false_iff, Bool.not_eq_false', beq_iff_eq] at h2
  exact ⟨Zg4 h2.1.1.1, h2.1.1.2⟩
theorem Z81 {f : Fld} (h : fldR f = true) : nameW f.name = true ∧ f.name ≠ nInit' ∧ rightT f.type = true := by
 unfold fldR at h
 simp only [Bool.and_eq_true, Bool.not_eq_true'] at h
 exact ⟨h.1.1.1, beqS_no.1 h.1.1.2, h.1.2⟩
end Go.Sx
namespace Go.Sx
open Go
theorem any_iff {l : List Rule} {f : Rule → Bool} : anyR l f = true ↔ ∃ r, r ∈ l ∧ f r = true := by unfold anyR; rw [List.any_eq_true]
theorem nms_iff {l : List Rule} {f : Rule → Bool} : nmsR l f = true ↔ ∃ r, r ∈ l ∧ f r = true ∧ r.names = true := by unfold nmsR; rw [List.any_eq_true]; simp only [Bool.and_eq_true]
theorem mem_exact {p : Prog} {r : Roots} {x : Rule} : x ∈ exactR p r ↔ (∃ s, s ∈ r.classes ∧ x = exC r s) ∨ (∃ f, f ∈ r.fields ∧ x = exF p r f) ∨ ∃ m, m ∈ r.methods ∧ x = exM r m := by
 unfold exactR
 simp only [List.mem_append, List.mem_map]
 constructor
 ·rintro ((⟨s, h, rfl⟩ | ⟨s, h, rfl⟩) | ⟨s, h, rfl⟩)
  ·exact .inl ⟨s, h, rfl⟩
  ·exact .inr (.inl ⟨s, h, rfl⟩)
  ·exact .inr (.inr ⟨s, h, rfl⟩)
 ·rintro (⟨s, h, rfl⟩ | ⟨s, h, rfl⟩ | ⟨s, h, rfl⟩)
  ·exact .inl (.inl ⟨s, h, rfl⟩)
  ·exact .inl (.inr ⟨s, h, rfl⟩)
  ·exact .inr ⟨s, h, rfl⟩
theorem memR_parts {r : Rule} {c n d : Str} : memR r c n d = true ↔ r.member = true ∧ ruleR r = true ∧ n ≠ nInit' ∧ globM r.cls c = true ∧ globM r.name n = true ∧ globM r.desc d = true := by
 unfold memR
 simp only [Bool.and_eq_true, Bool.not_eq_true', and_assoc]
 rw [beqS_no]
theorem Z80 {p : Prog} {r : FRef} {f : Fld} (h : fldP p r = some f) : f.name = r.name := by
 unfold fldP fldC at h
 have h2 := List.find?_some h
 exact beqS_iff.1 h2
theorem Z7z {p : Prog} {r : FRef} {f : Fld} (h : fldP p r = some f) : ∃ c, c ∈ p.classes ∧ f ∈ c.fields := by
 unfold fldP fldC knownC at h
 cases hk : clsFind p r.cls with
 | none => rw [hk] at h; cases h
 | some c => rw [hk] at h; exact ⟨c, (Z18 hk).2, List.mem_of_find?_eq_some h⟩
section
variable {p : Prog} (hR : rightR p = 0) (l : List Rule)
structure FOk (p : Prog) (r : FRef) (f : Fld) : Prop where
 at_ : fldP p r = some f
 name : f.name = r.name
 cls : NmOk r.cls
 nm : NmOk r.name
 ty : rightT f.type = true
 ini : r.name ≠ nInit'
include hR in
theorem Zb5 {r : FRef} (h : r ∈ (gaP textT p l).fd) : ∃ f, FOk p r f := by
 obtain ⟨c, hc, f0, hf0, ha, e⟩ := mem_fd.1 h
 obtain ⟨x, hx, hh⟩ := any_iff.1 ha
 unfold fHold at hh
 rw [Bool.and_eq_true] at hh
 obtain ⟨f, hf⟩ := Option.isSome_iff_exists.1 hh.1
 have hm := hh.2
 rw [hf] at hm
 simp only [Option.getD_some] at hm
 have hn := Z80 hf
 have hp := memR_parts.1 hm
 obtain ⟨c', hc', hf'⟩ := Z7z hf
 have hfp := Z81 (Za2 (Z2x hR hc') hf')
 refine ⟨f, hf, hn, by rw [e]; exact Z5v (Z2x hR hc), by rw [← hn]; exact Zad hfp.1 hfp.2.1, hfp.2.2, by rw [← hn]; exact hp.2.2.1⟩
structure MOk (p : Prog) (m : MRef) : Prop where
 at_ : (getP p m).isSome = true
 cls : NmOk m.cls
 nm : NmOk m.name
 ds : DsOk m.desc
 ini : m.name ≠ nInit'
include hR in
theorem Zfp {m : MRef} (h : m ∈ (gaP textT p l).md) : MOk p m := by
 obtain ⟨c, hc, m0, hm0, ha, e⟩ := mem_md.1 h
 obtain ⟨x, hx, hh⟩ := any_iff.1 ha
 unfold mHold at hh
 rw [Bool.and_eq_true] at hh
 have hp := memR_parts.1 hh.2
 have hd := Z86 (Za3 (Z2x hR hc) hm0)
 have h3 : m.name ≠ nInit' := hp.2.2.1
 have h4 : m.name = m0.name := by rw [e]
 refine ⟨hh.1, by rw [e]; exact Z5v (Z2x hR hc), by rw [h4]; exact Zad hd.2 (by rw [← h4]; exact h3), by rw [e]; exact hd.1, h3⟩
theorem Z8d {r : Rule} (hm : r.member = true) (h1 : globR r.cls = true) (h2 : globR r.name = true) (h3 : globR r.desc = true) : ruleR r = true := by
 unfold ruleR; rw [h1, if_pos hm, h2, h3]; rfl
theorem NmOk.glob {s : Str} (h : NmOk s) : globR s = true := Z7a h.ok h.lo (by have := h.hi; omega)
theorem Z59 {r : Roots} {s c : Str} (h : NmOk s) : clsR (exC r s) c = decide (s = c) := by
 unfold clsR
 rw [show (exC r s).member = false from rfl, show (exC r s).cls = s from rfl, Z2d h.ok]
 have : ruleR (exC r s) = true := by
  unfold ruleR
  rw [show (exC r s).cls = s from rfl, h.glob, if_neg (by simp [exC]), show (exC r s).name = zS from rfl, show (exC r s).desc = zS from rfl, Z3f]; rfl
 rw [this]; rfl
theorem Zac {r : Roots} {s c n d : Str} : memR (exC r s) c n d = false := by unfold memR; rw [show (exC r s).member = false from rfl]; rfl
theorem Za4 {r : Roots} {f : FRef} {c : Str} : clsR (exF p r f) c = false := by unfold clsR; rw [show (exF p r f).member = true from rfl]; rfl
theorem Za5 {r : Roots} {m : MRef} {c : Str} : clsR (exM r m) c = false := by unfold clsR; rw [show (exM r m).member = true from rfl]; rfl
theorem Z77 {r : Roots} {g : FRef} {f : Fld} (h : FOk p g f) {c n d : Str} : memR (exF p r g) c n d = true ↔ n ≠ nInit' ∧ g.cls = c ∧ g.name = n ∧ textT f.type = d := by
 have ht := Z7i h.ty
 have hd : (exF p r g).desc = textT f.type := by unfold exF; rw [h.at_]; rfl
 rw [memR_parts, show (exF p r g).member = true from rfl, show (exF p r g).cls = g.cls from rfl, show (exF p r g).name = g.name from rfl, hd, Z2d h.cls.ok, Z2d h.nm.ok, Z2d ht.1, decide_eq_true_eq, decide_eq_true_eq, decide_eq_true_eq]
 constructor
 ·rintro ⟨_, _, h1, h2⟩; exact ⟨h1, h2⟩
 ·rintro ⟨h1, h2⟩; exact ⟨rfl, Z8d rfl h.cls.glob h.nm.glob (by rw [hd]; exact Z7a ht.1 ht.2.1 ht.2.2.1), h1, h2⟩
theorem Z78 {r : Roots} {m : MRef} (h : MOk p m) {c n d : Str} : memR (exM r m) c n d = true ↔ n ≠ nInit' ∧ m.cls = c ∧ m.name = n ∧ m.desc = d := by
 rw [memR_parts, show (exM r m).member = true from rfl, show (exM r m).cls = m.cls from rfl, show (exM r m).name = m.name from rfl, show (exM r m).desc = m.desc from rfl, Z2d h.cls.ok, Z2d h.nm.ok, Z2d h.ds.ok, decide_eq_true_eq, decide_eq_true_eq, decide_eq_true_eq]
 constructor
 ·rintro ⟨_, _, h1, h2⟩; exact ⟨h1, h2⟩
 ·rintro ⟨h1, h2⟩; exact ⟨rfl, Z8d rfl h.cls.glob h.nm.glob (Z7a h.ds.ok h.ds.lo h.ds.hi), h1, h2⟩
theorem Zcp {f : Fld} {d : Str} (h : rightT f.type = true) (hd : DsOk d) (e : textT f.type = d) : False := (Z7i h).2.2.2 (by rw [e]; exact hd.b0)
abbrev gA (p : Prog) (l : List Rule) : Ga := gaP textT p l
abbrev exL (p : Prog) (l : List Rule) : List Rule := exactR p (rootsG (gaP textT p l))
theorem Z98 {x : Str} : x ∈ (rootsG (gA p l)).classes ↔ x ∈ (gA p l).cl := Z1z _ _
theorem Zb9 {x : FRef} : x ∈ (rootsG (gA p l)).fields ↔ x ∈ (gA p l).fd := Z1z _ _
theorem Zba {x : MRef} : x ∈ (rootsG (gA p l)).methods ↔ x ∈ (gA p l).md := Z1z _ _
theorem Zck (hR : rightR p = 0) {s : Str} (h : s ∈ (gA p l).cl) : NmOk s := by
 obtain ⟨c, hc, e, _⟩ := mem_cl.1 h
 rw [e]; exact Z5v (Z2x hR hc)
include hR in
theorem Zbp {c : Cls} (hc : c ∈ p.classes) : anyR (exL p l) (clsR · c.name) = true ↔ c.name ∈ (gA p l).cl := by
 rw [any_iff]
 constructor
 ·rintro ⟨x, hx, h⟩
  rcases mem_exact.1 hx with ⟨s, hs, rfl⟩ | ⟨f, hf, rfl⟩ | ⟨m, hm, rfl⟩
  ·rw [Z59 (Zck l hR ((Z98 l).1 hs)), decide_eq_true_eq] at h
   rw [← h]; exact (Z98 l).1 hs
  ·rw [Za4] at h; cases h
  ·rw [Za5] at h; cases h
 ·intro h
  exact ⟨exC _ c.name, mem_exact.2 (.inl ⟨_, (Z98 l).2 h, rfl⟩), by rw [Z59 (Zck l hR h)]; simp⟩
include hR in
theorem Zdb {c : Cls} (hc : c ∈ p.classes) : nmsR (exL p l) (clsR · c.name) = true ↔ c.name ∈ (gA p l).cl ∧ c.name ∈ (gA p l).cn := by
 rw [nms_iff]
 constructor
 ·rintro ⟨x, hx, h, hn⟩
  rcases mem_exact.1 hx with ⟨s, hs, rfl⟩ | ⟨f, hf, rfl⟩ | ⟨m, hm, rfl⟩
  ·rw [Z59 (Zck l hR ((Z98 l).1 hs)), decide_eq_true_eq] at h
   have h2 : s ∈ (rootsG (gA p l)).classNames := hasG_mem.1 hn
   rw [← h]; exact ⟨(Z98 l).1 hs, (Z1z _ _).1 h2⟩
  ·rw [Za4] at h; cases h
  ·rw [Za5] at h; cases h
 ·rintro ⟨h, hn⟩
  exact ⟨exC _ c.name, mem_exact.2 (.inl ⟨_, (Z98 l).2 h, rfl⟩), by rw [Z59 (Zck l hR h)]; simp, hasG_mem.2 ((Z1z _ _).2 hn)⟩
include hR in
theorem Zfk {r : FRef} {f : Fld} (h : fldP p r = some f) : rightT f.type = true := by
 obtain ⟨c', hc', hf'⟩ := Z7z h
 exact (Z81 (Za2 (Z2x hR hc') hf')).2.2
include hR in
theorem Zcz {x : Rule} (hx : x ∈ exL p l) {ref : FRef} (h : fHold textT p ref x = true) : ref ∈ (gA p l).fd ∧ x = exF p (rootsG (gA p l)) ref := by
 unfold fHold at h
 rw [Bool.and_eq_true] at h
 obtain ⟨F, hF⟩ := Option.isSome_iff_exists.1 h.1
 have h2 := h.2
 rw [hF] at h2
 simp only [Option.getD_some] at h2
 rcases mem_exact.1 hx with ⟨s, hs, rfl⟩ | ⟨g, hg, rfl⟩ | ⟨m, hm, rfl⟩
 ·rw [Zac] at h2; cases h2
 ·obtain ⟨G, hG⟩ := Zb5 hR l ((Zb9 l).1 hg)
  have h3 := (Z77 hG).1 h2
  have e : g = ref := by
   cases g; cases ref
   simp only [FRef.mk.injEq]
   exact ⟨h3.2.1, h3.2.2.1.trans (Z80 hF)⟩
  rw [← e]; exact ⟨(Zb9 l).1 hg, rfl⟩
 ·have hM := Zfp hR l ((Zba l).1 hm)
  have h3 := (Z78 hM).1 h2
  exact (Zcp (Zfk hR hF) hM.ds h3.2.2.2.symm).elim
include hR in
theorem Zct {ref : FRef} (h : ref ∈ (gA p l).fd) : fHold textT p ref (exF p (rootsG (gA p l)) ref) = true := by
 obtain ⟨F, hF⟩ := Zb5 hR l h
 unfold fHold
 rw [hF.at_]
 simp only [Option.isSome_some, Option.getD_some, Bool.true_and]
 exact (Z77 hF).2 ⟨by rw [hF.name]; exact hF.ini, rfl, hF.name.symm, rfl⟩
include hR in
theorem Z8l {ref : FRef} : anyR (exL p l) (fHold textT p ref) = true ↔ ref ∈ (gA p l).fd := by
 rw [any_iff]
 constructor
 ·rintro ⟨x, hx, h⟩; exact (Zcz hR l hx h).1
 ·intro h; exact ⟨_, mem_exact.2 (.inr (.inl ⟨ref, (Zb9 l).2 h, rfl⟩)), Zct hR l h⟩
include hR in
theorem Zdc {ref : FRef} : nmsR (exL p l) (fHold textT p ref) = true ↔ ref ∈ (gA p l).fd ∧ ref.name ∈ (gA p l).fn := by
 rw [nms_iff]
 constructor
 ·rintro ⟨x, hx, h, hn⟩
  obtain ⟨h1, rfl⟩ := Zcz hR l hx h
  exact ⟨h1, (Z1z _ _).1 (hasG_mem.1 hn)⟩
 ·rintro ⟨h, hn⟩; exact ⟨_, mem_exact.2 (.inr (.inl ⟨ref, (Zb9 l).2 h, rfl⟩)), Zct hR l h, hasG_mem.2 ((Z1z _ _).2 hn)⟩
include hR in
theorem Zd0 {x : Rule} (hx : x ∈ exL p l) {ref : MRef} (hd : DsOk ref.desc) (h : mHold p ref x = true) : ref ∈ (gA p l).md ∧ x = exM (rootsG (gA p l)) ref := by
 unfold mHold at h
 rw [Bool.and_eq_true] at h
 have h2 := h.2
 rcases mem_exact.1 hx with ⟨s, hs, rfl⟩ | ⟨g, hg, rfl⟩ | ⟨m, hm, rfl⟩
 ·rw [Zac] at h2; cases h2
 ·obtain ⟨G, hG⟩ := Zb5 hR l ((Zb9 l).1 hg)
  have h3 := (Z77 hG).1 h2
  exact (Zcp hG.ty hd h3.2.2.2).elim
 ·have hM := Zfp hR l ((Zba l).1 hm)
  have h3 := (Z78 hM).1 h2
  have e : m = ref := by
   cases m; cases ref
   simp only [MRef.mk.injEq]
   exact ⟨h3.2.1, h3.2.2.1, h3.2.2.2⟩
  rw [← e]; exact ⟨(Zba l).1 hm, rfl⟩
include hR in
theorem Zd5 {ref : MRef} (h : ref ∈ (gA p l).md) : mHold p ref (exM (rootsG (gA p l)) ref) = true := by
 have hM := Zfp hR l h
 unfold mHold
 rw [hM.at_, Bool.true_and]
 exact (Z78 hM).2 ⟨hM.ini, rfl, rfl, rfl⟩
include hR in
theorem Z6s {ref : MRef} (hd : DsOk ref.desc) : anyR (exL p l) (mHold p ref) = true ↔ ref ∈ (gA p l).md := by
 rw [any_iff]
 constructor
 ·rintro ⟨x, hx, h⟩; exact (Zd0 hR l hx hd h).1
 ·intro h; exact ⟨_, mem_exact.2 (.inr (.inr ⟨ref, (Zba l).2 h, rfl⟩)), Zd5 hR l h⟩
include hR in
theorem Zdd {ref : MRef} (hd : DsOk ref.desc) : nmsR (exL p l) (mHold p ref) = true ↔ ref ∈ (gA p l).md ∧ (ref.name ++ ref.desc) ∈ (gA p l).mn := by
 rw [nms_iff]
 constructor
 ·rintro ⟨x, hx, h, hn⟩
  obtain ⟨h1, rfl⟩ := Zd0 hR l hx hd h
  exact ⟨h1, (Z1z _ _).1 (hasG_mem.1 hn)⟩
 ·rintro ⟨h, hn⟩; exact ⟨_, mem_exact.2 (.inr (.inr ⟨ref, (Zba l).2 h, rfl⟩)), Zd5 hR l h, hasG_mem.2 ((Z1z _ _).2 hn)⟩
theorem Z9b {l : List Rule} {f : Rule → Bool} (h : nmsR l f = true) : anyR l f = true := by
 obtain ⟨r, h1, h2, _⟩ := nms_iff.1 h
 exact any_iff.2 ⟨r, h1, h2⟩
theorem Zj6 {c : Cls} (hc : c ∈ p.classes) {f : Fld} (hf : f ∈ c.fields) : (⟨c.name, f.name⟩ : FRef) ∈ (gA p l).fd ↔ anyR l (fHold textT p ⟨c.name, f.name⟩) = true := by
 constructor
 ·intro h; obtain ⟨_, _, _, _, h1, _⟩ := mem_fd.1 h; exact h1
 ·intro h; exact mem_fd.2 ⟨c, hc, f, hf, h, rfl⟩
theorem Zij {c : Cls} (hc : c ∈ p.classes) {m : Meth} (hm : m ∈ c.methods) : (⟨c.name, m.name, m.desc⟩ : MRef) ∈ (gA p l).md ↔ anyR l (mHold p ⟨c.name, m.name, m.desc⟩) = true := by
 constructor
 ·intro h; obtain ⟨_, _, _, _, h1, _⟩ := mem_md.1 h; exact h1
 ·intro h; exact mem_md.2 ⟨c, hc, m, hm, h, rfl⟩
theorem Zj5 {r : FRef} (h : r ∈ (gA p l).fd) : r.cls ∈ (gA p l).cl := by
 obtain ⟨c, hc, f, hf, h1, e⟩ := mem_fd.1 h
 rw [e] at h1 ⊢
 exact mem_cl.2 ⟨c, hc, rfl, .inr (.inl ⟨f, hf, h1⟩)⟩
theorem Zj8 {r : MRef} (h : r ∈ (gA p l).md) : r.cls ∈ (gA p l).cl := by
 obtain ⟨c, hc, f, hf, h1, e⟩ := mem_md.1 h
 rw [e] at h1 ⊢
 exact mem_cl.2 ⟨c, hc, rfl, .inr (.inr ⟨f, hf, h1⟩)⟩
include hR in
theorem Zb3 {c : Cls} (hc : c ∈ p.classes) {m : Meth} (hm : m ∈ c.methods) : DsOk m.desc := (Z86 (Za3 (Z2x hR hc) hm)).1
include hR in
theorem Za6 (x : Str) : x ∈ (gA p (exL p l)).cl ↔ x ∈ (gA p l).cl := by
 constructor
 ·intro h
  obtain ⟨c, hc, e, h1⟩ := mem_cl.1 h
  rw [e]
  rcases h1 with h1 | ⟨f, hf, h1⟩ | ⟨m, hm, h1⟩
  ·exact (Zbp hR l hc).1 h1
  ·exact Zj5 l ((Z8l hR l).1 h1)
  ·exact Zj8 l ((Z6s hR l (Zb3 hR hc hm)).1 h1)
 ·intro h
  obtain ⟨c, hc, e, _⟩ := mem_cl.1 h
  rw [e] at h ⊢
  exact mem_cl.2 ⟨c, hc, rfl, .inl ((Zbp hR l hc).2 h)⟩
include hR in
theorem Zfc (x : FRef) : x ∈ (gA p (exL p l)).fd ↔ x ∈ (gA p l).fd := by
 constructor
 ·intro h; obtain ⟨c, hc, f, hf, h1, _⟩ := mem_fd.1 h; exact (Z8l hR l).1 h1
 ·intro h; obtain ⟨c, hc, f, hf, h1, e⟩ := mem_fd.1 h; exact mem_fd.2 ⟨c, hc, f, hf, (Z8l hR l).2 h, e⟩
include hR in
theorem Zff (x : MRef) : x ∈ (gA p (exL p l)).md ↔ x ∈ (gA p l).md := by
 constructor
 ·intro h; obtain ⟨c, hc, f, hf, h1, e⟩ := mem_md.1 h; exact (Z6s hR l (by rw [e]; exact Zb3 hR hc hf)).1 h1
 ·intro h; obtain ⟨c, hc, f, hf, h1, e⟩ := mem_md.1 h; exact mem_md.2 ⟨c, hc, f, hf, (Z6s hR l (by rw [e]; exact Zb3 hR hc hf)).2 h, e⟩
include hR in
theorem Zfb (x : Str) : x ∈ (gA p (exL p l)).cn ↔ x ∈ (gA p l).cn := by
 constructor
 ·intro h; obtain ⟨c, hc, e, h1⟩ := mem_cn.1 h; rw [e]; exact ((Zdb hR l hc).1 h1).2
 ·intro h
  obtain ⟨c, hc, e, h1⟩ := mem_cn.1 h
  rw [e] at h ⊢
  exact mem_cn.2 ⟨c, hc, rfl, (Zdb hR l hc).2 ⟨mem_cl.2 ⟨c, hc, rfl, .inl (Z9b h1)⟩, h⟩⟩
include hR in
theorem Zfd (x : Str) : x ∈ (gA p (exL p l)).fn ↔ x ∈ (gA p l).fn := by
 constructor
 ·intro h
  obtain ⟨c, hc, f, hf, h1, e⟩ := mem_fn.1 h
  obtain ⟨h2, h3⟩ := (Zdc hR l).1 h1
  obtain ⟨F, hF⟩ := Zb5 hR l h2
  rw [e, hF.at_]
  simp only [Option.getD_some]
  rw [hF.name]; exact h3
 ·intro h
  obtain ⟨c, hc, f, hf, h1, e⟩ := mem_fn.1 h
  have h2 := (Zj6 l hc hf).2 (Z9b h1)
  obtain ⟨F, hF⟩ := Zb5 hR l h2
  refine mem_fn.2 ⟨c, hc, f, hf, (Zdc hR l).2 ⟨h2, ?_⟩, e⟩
  rw [e, hF.at_] at h
  simp only [Option.getD_some] at h
  rw [hF.name] at h; exact h
include hR in
theorem Zfg (x : Str) : x ∈ (gA p (exL p l)).mn ↔ x ∈ (gA p l).mn := by
 constructor
 ·intro h
  obtain ⟨c, hc, m, hm, h1, e⟩ := mem_mn.1 h
  rw [e]; exact ((Zdd hR l (ref := ⟨c.name, m.name, m.desc⟩) (Zb3 hR hc hm)).1 h1).2
 ·intro h
  obtain ⟨c, hc, m, hm, h1, e⟩ := mem_mn.1 h
  rw [e] at h ⊢
  exact mem_mn.2 ⟨c, hc, m, hm, (Zdd hR l (ref := ⟨c.name, m.name, m.desc⟩) (Zb3 hR hc hm)).2 ⟨(Zij l hc hm).2 (Z9b h1), h⟩, rfl⟩
include hR in
theorem Zfe (x : Str) : x ∈ (gA p (exL p l)).lk ↔ x ∈ (gA p l).lk := by
 rw [Zgl, Zgl]
 refine exists_congr fun c => and_congr_right fun hc => exists_congr fun m => and_congr_right fun hm => and_congr_left fun _ => ?_
 simp only [Bool.and_eq_true]
 rw [Z6s hR l (ref := ⟨c.name, m.name, m.desc⟩) (Zb3 hR hc hm), Zij l hc hm]
include hR in
theorem Zd2 : rootsG (gA p (exL p l)) = rootsG (gA p l) := by
 have h1 := Z47 tLtT (Za6 hR l)
 have h2 := Z47 fLtT (Zfc hR l)
 have h3 := Z47 mLtT (Zff hR l)
 have h4 := Z47 tLtT (Zfb hR l)
 have h5 := Z47 tLtT (Zfd hR l)
 have h6 := Z47 tLtT (Zfg hR l)
 have h7 : risG tLt ((gA p (exL p l)).lk ++ (gA p (exL p l)).cl) = risG tLt ((gA p l).lk ++ (gA p l).cl) := Z47 tLtT fun x => by rw [List.mem_append, List.mem_append, Zfe hR l x, Za6 hR l x]
 unfold rootsG
 rw [h1, h2, h3, h4, h5, h6, h7]
end
theorem Z9h {n k : Nat} (h : n ≤ k) (hk : k ≤ 1000) : small n := by unfold small; omega
theorem Zih {p : Prog} (hR : rightR p = 0) (l : List Rule) : ∀ x, x ∈ exL p l → x.ok := by
 intro x hx
 have hz : small zS.size := by unfold small; decide
 rcases mem_exact.1 hx with ⟨s, hs, rfl⟩ | ⟨f, hf, rfl⟩ | ⟨m, hm, rfl⟩
 ·exact ⟨Z9h (Zck l hR ((Z98 l).1 hs)).hi (by omega), hz, hz⟩
 ·obtain ⟨F, hF⟩ := Zb5 hR l ((Zb9 l).1 hf)
  have ht := Z7i hF.ty
  refine ⟨Z9h hF.cls.hi (by omega), Z9h hF.nm.hi (by omega), ?_⟩
  show small (textT ((fldP p f).getD zFl).type).size
  rw [hF.at_]; exact Z9h ht.2.2.1 (by omega)
 ·have hM := Zfp hR l ((Zba l).1 hm)
  exact ⟨Z9h hM.cls.hi (by omega), Z9h hM.nm.hi (by omega), Z9h hM.ds.hi (by omega)⟩
theorem Zcr {p : Prog} {r : Roots} (h : r.ok) : small (exactR p r).length := by
 have h1 := h.n1; have h2 := h.n2; have h3 := h.n3
 unfold exactR small
 simp only [List.length_append, List.length_map]
 omega
def SplP (s : Str) (r : Str × Str × Bool) : Prop := ∀ c n, clsW c = true → nameW n = true → s = (c ++ nDot) ++ n → r = (c, n, true)
theorem Zbb : ∀ i, i < nInit'.size → byteAt nInit' (i : Nat) ≠ 46 := by
 intro i hi
 have h : i < 8 := hi
 rcases i with _ | _ | _ | _ | _ | _ | _ | _ | i
 all_goals first | decide | omega
theorem Zcl {c : Str} (h : clsW c = true) {i : Nat} (hi : i < c.size) : byteAt c (i : Nat) ≠ 46 := by
 unfold clsW at h
 rw [Bool.and_eq_true] at h
 have := Z8k h.1 hi
 rcases Bool.or_eq_true _ _ ▸ this with h3 | h3
 ·have := Z4v h3; omega
 ·rw [beq_iff_eq] at h3; omega
theorem Zbd {n : Str} (h : nameW n = true) {i : Nat} (hi : i < n.size) : byteAt n (i : Nat) ≠ 46 := by
 unfold nameW at h
 rcases Bool.or_eq_true _ _ ▸ h with h | h
 ·have e := beqS_iff.1 h; subst e; exact Zbb i hi
 ·unfold allW at h
  rw [Bool.and_eq_true] at h
  have := Z8k h.1 hi
  rcases Bool.or_eq_true _ _ ▸ this with h3 | h3
  ·have := Z4v h3; omega
  ·rw [beq_iff_eq] at h3; omega
theorem Z4z : nDot.size = 1 := rfl
section
variable {c n u : Str} (hc : clsW c = true) (hn : nameW n = true) (he : u = (c ++ nDot) ++ n)
include he in
theorem Z7e : u.size = c.size + 1 + n.size := by rw [he, ByteArray.size_append, ByteArray.size_append, Z4z]
include he in
theorem Zi3 : byteAt u (c.size : Nat) = 46 := by
 rw [he, Z21 (by rw [ByteArray.size_append, Z4z]; omega), Z45 (Nat.le_refl _) (by rw [ByteArray.size_append, Z4z]; omega), Nat.sub_self]
 decide +kernel
include hc hn he in
theorem Zg3 {i : Nat} (hi : i < u.size) (h : byteAt u (i : Nat) = 46) : i = c.size := by
 have hs := Z7e he
 rcases Nat.lt_trichotomy i c.size with g | g | g
 ·rw [he, Z21 (by rw [ByteArray.size_append, Z4z]; omega), Z21 g] at h
  exact absurd h (Zcl hc g)
 ·exact g
 ·rw [he, Z45 (by rw [ByteArray.size_append, Z4z]; omega) (by rw [← he]; exact hi)] at h
  exact absurd h (Zbd hn (by rw [ByteArray.size_append, Z4z]; omega))
include hc hn he in
theorem Zdu {k : Nat} (hk : 1 ≤ k) (hk2 : k ≤ u.size) (h : byteAt u ((k - 1 : Nat) : Int) = 46) : u.extract 0 (k - 1) = c ∧ u.extract k u.size = n := by
 have e := Zg3 hc hn he (by omega) h
 have hs := Z7e he
 rw [e, show k = c.size + 1 by omega]
 constructor
 ·rw [he, ByteArray.append_assoc]; exact ByteArray.extract_append_eq_left rfl
 ·rw [hs, he]
  exact ByteArray.extract_append_eq_right (by rw [ByteArray.size_append, Z4z]) (by rw [ByteArray.size_append, Z4z])
end
theorem SplP.not {u : Str} {k : Nat} (hk : 1 ≤ k) (hk2 : k ≤ u.size) (h : byteAt u ((k - 1 : Nat) : Int) = 46) (hb : (clsW (u.extract 0 (k - 1)) && nameW (u.extract k u.size)) = false) (r : Str × Str × Bool) : SplP u r := fun c n hc hn he => by
 obtain ⟨e1, e2⟩ := Zdu hc hn he hk hk2 h
 rw [e1, e2, hc, hn] at hb; cases hb
theorem SplP.none {u : Str} (h : ∀ k, k < u.size → ¬ byteAt u (k : Nat) = 46) (r : Str × Str × Bool) : SplP u r := fun c n hc hn he =>
 absurd (Zi3 he) (h _ (by rw [Z7e he]; omega))
end Go.Sx
namespace Go.Sx
open Go
end Go.Sx
namespace Go.Sx
open Go Go.Proofs
theorem c_rootsExact (p : Prog) (hp : p.ok) (l : List Rule) (hl : small l.length) : ACalls Tryz.prog 5 [p.av, .lst (l.map Rule.cells)] [] (Gives (bA true)) := by
 refine Ze (n := 28) Tryz.func5 rfl (by decide +kernel) rfl rfl ?_
 refine qS (qR ?_)
 refine Z04 (w0 rfl) rfl (fun id => Z0a id rfl rfl rfl rfl rfl) (fun id1 => ?_)
 refine qA (qN (qS (qS (qR ?_))))
 refine qL 0 (Z00 (Nat.le_of_ble_eq_true rfl)) ?_
 refine qe (Z7 [] rfl rfl rfl (Zh0 p hp) List.nodup_nil) ?_
 refine qM ?_
 refine Zl 0 (wF rfl rfl rfl rfl) rfl rfl (fun hg => rfl) rfl rfl (Z00 (Nat.le_of_ble_eq_true rfl)) ?_
 refine Z9 (wF rfl rfl rfl rfl) rfl (fun hg => (Z7 [] rfl rfl (Zc (Za hg rfl) Z01) (Zc7 p hp) List.nodup_nil)) ?_
 refine Z9 (wF rfl rfl rfl rfl) rfl (fun hg => (Zn rfl (Za hg rfl) rfl rfl)) ?_
 refine qe (Z0h rfl rfl rfl (fun h => by rw [h]; rfl)) ?_
 refine qN ?_
 refine Z2 rfl ?_ ?_
 ·intro hc
  refine qS (qR ?_)
  refine qe (Z7 [] rfl rfl rfl Z9w List.nodup_nil) ?_
  refine qA (qN (qE ?_))
  exact Z0k rfl (Z4 rfl Z3) (gb rfl)
 ·intro hc
  have hn := orF hc
  have hgr : greatP p = false := hn.1
  have hR : rightR p = 0 := by have := hn.2; simpa using this
  refine qK (qS ?_)
  refine Z0o 5 rfl (by kernel_rfl) ?_
  refine Z8 0 (w0 rfl) rfl rfl rfl rfl rfl (Z00 (Nat.le_of_ble_eq_true rfl)) ?_
  refine cM2 ?_
  refine ce (Z7 [] rfl rfl rfl (Zgy l hl) List.nodup_nil) ?_
  refine ce (Z7 [] rfl rfl rfl (Z5t p hp hgr (fewR l) (by have := Zfh l; unfold small; omega) (fun r hr => Zhp r hr)) List.nodup_nil) ?_
  refine Zie (w0 rfl) rfl (fun id => Z08 id rfl rfl rfl) (fun id2 => ?_)
  refine .done ?_
  refine Zu 0 (w0 rfl) rfl rfl rfl rfl rfl rfl rfl rfl rfl ?_
  refine qN (qS ?_)
  refine Z0o 11 rfl (by kernel_rfl) ?_
  refine ce (Z7 [] rfl rfl rfl Z9w List.nodup_nil) ?_
  refine cM2 ?_
  refine Z16 1 (wT rfl rfl rfl rfl) rfl rfl (fun hg => rfl) rfl rfl (Z00 (Nat.le_of_ble_eq_true rfl)) ?_
  refine Z16 1 (wT rfl rfl rfl rfl) rfl rfl (fun hg => rfl) rfl rfl (Z00 (Nat.le_of_ble_eq_true rfl)) ?_
  refine Z16 0 (wT rfl rfl rfl rfl) rfl rfl (fun hg => rfl) rfl rfl (Z00 (Nat.le_of_ble_eq_true rfl)) ?_
  refine Zd (wT rfl rfl rfl rfl) rfl (fun hg => (Z7 [] rfl rfl (Zc (Za hg rfl) (Zc (Za hg rfl) Z01)) (Z7o p hp (rootsG (gA p (fewR l))) (Z40 hp hgr _)) List.nodup_nil)) ?_
  refine Zd (wT rfl rfl rfl rfl) rfl (fun hg => (Z7 [] rfl rfl (Zc (Za hg rfl) (Zc (Za hg rfl) Z01)) (Z5t p hp hgr (exL p (fewR l)) (Zcr (Z40 hp hgr _)) (Zih hR (fewR l))) List.nodup_nil)) ?_
  refine Z16 0 (wT rfl rfl rfl rfl) rfl rfl (fun hg => rfl) rfl rfl (Z00 (Nat.le_of_ble_eq_true rfl)) ?_
  refine Zd (wT rfl rfl rfl rfl) rfl (fun hg => (Z7 [] rfl rfl (Zc (Za hg rfl) (Zc (Za hg rfl) Z01)) (Zf1 (rootsG (gA p (exL p (fewR l)))) (rootsG (gA p (fewR l))) (Z40 hp hgr _) (Z40 hp hgr _)) List.nodup_nil)) ?_
  refine ce (Zq rfl rfl rfl (fun h => h)) ?_
  refine ce (Z0t rfl rfl) ?_
  refine .done (qN (qE ?_))
  exact Z0k rfl (Z4 rfl Z3) (gb (by rw [Zd2 hR (fewR l)]; simp))
def spl3 (r : Str × Str × Bool) : AV := .tup [sA r.1, sA r.2.1, bA r.2.2]
end Go.Sx
