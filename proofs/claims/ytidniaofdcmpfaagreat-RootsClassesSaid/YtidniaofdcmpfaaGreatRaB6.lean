/- YtidniaofdcmpfaaGreatRaB6: texts of this claim, one behind the other. -/
import Derived.Test.YtidniaofdcmpfaaGreatRaB5
set_option linter.unusedVariables false
set_option linter.unusedSimpArgs false
set_option linter.unusedSectionVars false
set_option linter.unnecessarySimpa false
namespace Go.Sx
open Go Go.Proofs
theorem Zdu (n m : Int) : ACalls Tryz.prog 173 [iA n, iA m] [] (Gives (bA (wthI n m))) := by
 refine Zd (n := 12) Tryz.func173 rfl (by decide +kernel) rfl rfl ?_
 refine qS (qR (qA (qN (qS (qR (qM ?_))))))
 refine qe eI ?_
 refine qM (qTM (qTM ?_))
 refine Zb (wT rfl rfl rfl rfl) rfl (fun hg => (Zm rfl (Za hg rfl) (Za hg rfl) rfl)) ?_
 refine qe (Zq rfl rfl rfl (fun h => h)) ?_
 refine qA (qN (qE ?_))
 exact Z0k rfl (Z4 rfl Z3) (gb rfl)
theorem Zdo (n : Int) : ACalls Tryz.prog 171 [iA n] [] (Gives (bA (isCallO n))) := by
 refine Zd (n := 13) Tryz.func171 rfl (by decide +kernel) rfl rfl ?_
 refine qS (qR (qA (qN (qS (qR (qM ?_))))))
 refine qe eI ?_
 refine qM (qFM ?_)
 refine Zb (wF rfl rfl rfl rfl) rfl (fun hg => (Zm rfl (Za hg rfl) rfl rfl)) ?_
 refine qe (Z0h rfl rfl rfl (fun h => by rw [h]; rfl)) ?_
 refine qM (qFM ?_)
 refine Zb (wF rfl rfl rfl rfl) rfl (fun hg => (Zm rfl (Za hg rfl) rfl rfl)) ?_
 refine qe (Z0h rfl rfl rfl (fun h => by rw [h]; rfl)) ?_
 refine qA (qN (qE ?_))
 exact Z0k rfl (Z4 rfl Z3) (gb rfl)
theorem Zft (n : Int) : ACalls Tryz.prog 132 [uA n] [] (Gives (bA (letW n))) := by
 refine Zd (n := 33) Tryz.func132 rfl (by decide +kernel) rfl rfl ?_
 refine qS (qR (qA (qN (qS (qR (qM ?_))))))
 refine qe eI ?_
 refine qM (qTM ?_)
 refine Zb (wT rfl rfl rfl rfl) rfl (fun hg => (Zm rfl (Za hg rfl) rfl rfl)) ?_
 refine qe (Zq rfl rfl rfl (fun h => h)) ?_
 refine qM (qFM ?_)
 refine Zb (wF rfl rfl rfl rfl) rfl (fun hg => (Zm rfl (Za hg rfl) rfl rfl)) ?_
 refine Zb (wF rfl rfl rfl rfl) rfl (fun hg => (Z00 rfl (Za hg rfl))) ?_
 refine Zb (wTg rfl rfl rfl rfl) rfl (fun hg => (Z00 rfl rfl)) ?_
 refine Zb (wTg rfl rfl rfl rfl) rfl (fun hg => (Zm rfl (Za hg rfl) rfl rfl)) ?_
 refine Zb (wF rfl rfl rfl rfl) rfl (fun hg => (Zq rfl (Za hg rfl) rfl (fun h => by first | (simp [h, hg]; done) | (rw [hg, h]; rfl) | (simp_all; done)))) ?_
 refine qe (Z0h rfl rfl rfl (fun h => by rw [h]; rfl)) ?_
 refine qM (qFM ?_)
 refine Zb (wF rfl rfl rfl rfl) rfl (fun hg => (Zm rfl (Za hg rfl) rfl rfl)) ?_
 refine Zb (wF rfl rfl rfl rfl) rfl (fun hg => (Z00 rfl (Za hg rfl))) ?_
 refine Zb (wTg rfl rfl rfl rfl) rfl (fun hg => (Z00 rfl rfl)) ?_
 refine Zb (wTg rfl rfl rfl rfl) rfl (fun hg => (Zm rfl (Za hg rfl) rfl rfl)) ?_
 refine Zb (wF rfl rfl rfl rfl) rfl (fun hg => (Zq rfl (Za hg rfl) rfl (fun h => by first | (simp [h, hg]; done) | (rw [hg, h]; rfl) | (simp_all; done)))) ?_
 refine qe (Z0h rfl rfl rfl (fun h => by rw [h]; rfl)) ?_
 refine qM (qFM ?_)
 refine Zb (wF rfl rfl rfl rfl) rfl (fun hg => (Zm rfl (Za hg rfl) rfl rfl)) ?_
 refine qe (Z0h rfl rfl rfl (fun h => by rw [h]; rfl)) ?_
 refine qM (qFM ?_)
 refine Zb (wF rfl rfl rfl rfl) rfl (fun hg => (Zm rfl (Za hg rfl) rfl rfl)) ?_
 refine qe (Z0h rfl rfl rfl (fun h => by rw [h]; rfl)) ?_
 refine qA (qN (qE ?_))
 exact Z0k rfl (Z4 rfl Z3) (gb (by unfold letW; ac_rfl))
theorem Z2k (u : Str) (n : Int) (hs : small u.size) : ACalls Tryz.prog 172 [sA u, uA n] [] (Gives (bA (hasL u n))) := by
 unfold small at hs
 refine Zd (n := 17) Tryz.func172 rfl (by decide +kernel) rfl rfl ?_
 refine qS (qR (qA (qN (qS (qS (qR (qA (qN (qB ?_)))))))))
 refine Zj (α := Nat) (fun i => ⟨[(5, iA i), (0, sA u), (1, uA n)], [], [], 17⟩) (fun i => ∀ k, k < i → (byteAt u (k : Nat) == n) = false) (fun i => u.size - i) 0 (fun k h => by omega) ?_ ?_
 ·exact Zi [] ⟨rfl, rfl, rfl, trivial⟩ rfl (by decide) rfl rfl
 rintro i hJ
 refine qS (qS (qR (qM (qM ?_))))
 refine qe (Zs rfl rfl rfl rfl) ?_
 refine qe eI ?_
 refine qN ?_
 refine Z2 rfl ?_ ?_
 ·intro hc
  have hi : i < u.size := by simpa using hc
  refine qK (qS (qB (qS (qR (qM (qM ?_))))))
  refine qe (Z11 rfl rfl rfl (by first | omega | (simp only [List.length_map]; omega) | (simp only [List.length_map, List.length_drop]; omega)) (by first | omega | (simp only [List.length_map]; omega) | (simp only [List.length_map, List.length_drop]; omega))) ?_
  refine qM ?_
  refine qe eI ?_
  refine qN ?_
  refine Z2 rfl ?_ ?_
  ·intro hc
   have hq : (byteAt u (i : Nat) == n) = true := hc
   refine qS (qR (qA (qN (qE ?_))))
   exact Z0k rfl (Z4 rfl Z3) (gb (Ze7 hi hq).symm)
  ·intro hc
   have hq : (byteAt u (i : Nat) == n) = false := hc
   refine qK (qR (qM ?_))
   refine qe (Z9 rfl rfl rfl (Zo (by first | omega | (simp only [List.length_map]; omega)))) ?_
   refine qA (qN ?_)
   refine ⟨i + 1, (fun k h => by rcases Nat.lt_succ_iff_lt_or_eq.1 h with h | h; exact hJ k h; rw [h]; exact hq), (by omega), ?_⟩
   exact qp [] ⟨rfl, rfl, rfl, trivial⟩
 ·intro hc
  have hi : ¬ i < u.size := by simpa using hc
  refine qX (qS (qR (qA (qN (qE ?_)))))
  exact Z0k rfl (Z4 rfl Z3) (gb (Zgf fun k hk => hJ k (by omega)).symm)
theorem Zat (u : Str) (n : Int) : ACalls Tryz.prog 106 [sA u, uA n] [] (Gives (bA (allW u n))) := by
 refine Zd (n := 32) Tryz.func106 rfl (by decide +kernel) rfl rfl ?_
 refine qS (qR (qA (qN (qS (qS (qR (qM ?_)))))))
 refine qe (Zs rfl rfl rfl rfl) ?_
 refine qe eI ?_
 refine qM (qFM ?_)
 refine Zb (wF rfl rfl rfl rfl) rfl (fun hg => (Zs rfl (Za hg rfl) rfl rfl)) ?_
 refine Zb (wF rfl rfl rfl rfl) rfl (fun hg => (Zm rfl (Za hg rfl) rfl rfl)) ?_
 refine qe (Z0h rfl rfl rfl (fun h => by rw [h]; rfl)) ?_
 refine qN ?_
 refine Z2 rfl ?_ ?_
 ·intro hc
  have hs : u.size < 1 ∨ 32 < u.size := by rcases orT hc with h | h <;> simp at h <;> omega
  refine qS (qR (qA (qN (qE ?_))))
  exact Z0k rfl (Z4 rfl Z3) (gb (Zan hs).symm)
 ·intro hc
  have hs : ¬ (u.size < 1 ∨ 32 < u.size) := by have h := orF hc; simp at h; omega
  refine qK (qS (qS (qR (qA (qN (qB ?_))))))
  refine Zj (α := Nat) (fun i => ⟨[(5, iA i), (0, sA u), (1, uA n)], [], [], 32⟩) (fun i => ∀ k, k < i → (letW (byteAt u (k : Nat)) || (byteAt u (k : Nat) == n)) = true) (fun i => u.size - i) 0 (fun k h => by omega) ?_ ?_
  ·exact Zi [] ⟨rfl, rfl, rfl, trivial⟩ rfl (by decide) rfl rfl
  rintro i hJ
  refine qS (qS (qR (qM (qM ?_))))
  refine qe (Zs rfl rfl rfl rfl) ?_
  refine qe eI ?_
  refine qN ?_
  refine Z2 rfl ?_ ?_
  ·intro hc
   have hi : i < u.size := by simpa using hc
   refine qK (qS (qB (qS (qR (qM (qM ?_))))))
   refine qe (Z11 rfl rfl rfl (by first | omega | (simp only [List.length_map]; omega) | (simp only [List.length_map, List.length_drop]; omega)) (by first | omega | (simp only [List.length_map]; omega) | (simp only [List.length_map, List.length_drop]; omega))) ?_
   refine qe (Z7 [] rfl rfl rfl (Zft _) List.nodup_nil) ?_
   refine qe (Zx rfl rfl) ?_
   refine qM (qTM (qTM ?_))
   refine Zb (wT rfl rfl rfl rfl) rfl (fun hg => (Z11 rfl (Za hg rfl) (Za hg rfl) (by (try simp at hg) <;> first | omega | (simp only [List.length_map]; omega) | (simp only [List.length_map, List.length_drop]; omega)) (by (try simp at hg) <;> first | omega | (simp only [List.length_map]; omega) | (simp only [List.length_map, List.length_drop]; omega)))) ?_
   refine qTM ?_
   refine Zb (wT rfl rfl rfl rfl) rfl (fun hg => (Zm rfl (Za hg rfl) (Za hg rfl) rfl)) ?_
   refine qe (Zq rfl rfl rfl (fun h => h)) ?_
   refine qN ?_
   refine Z2 rfl ?_ ?_
   ·intro hc
    have hq : (letW (byteAt u (i : Nat)) || (byteAt u (i : Nat) == n)) = false := by revert hc; cases letW (byteAt u (i : Nat)) <;> cases h : (byteAt u (i : Nat) == n) <;> simp_all
    refine qS (qR (qA (qN (qE ?_))))
    exact Z0k rfl (Z4 rfl Z3) (gb (Zcs hi hq).symm)
   ·intro hc
    have hq : (letW (byteAt u (i : Nat)) || (byteAt u (i : Nat) == n)) = true := by revert hc; cases letW (byteAt u (i : Nat)) <;> cases h : (byteAt u (i : Nat) == n) <;> simp_all
    refine qK (qR (qM ?_))
    refine qe (Z9 rfl rfl rfl (Zo (by first | omega | (simp only [List.length_map]; omega)))) ?_
    refine qA (qN ?_)
    refine ⟨i + 1, (fun k h => by rcases Nat.lt_succ_iff_lt_or_eq.1 h with h | h; exact hJ k h; rw [h]; exact hq), (by omega), ?_⟩
    exact qp [] ⟨rfl, rfl, rfl, trivial⟩
  ·intro hc
   have hi : ¬ i < u.size := by simpa using hc
   refine qX (qS (qR (qA (qN (qE ?_)))))
   exact Z0k rfl (Z4 rfl Z3) (gb (Zct (by omega) (by omega) fun k hk => hJ k (by omega)).symm)
theorem Z34 (u : Str) : ACalls Tryz.prog 62 [sA u] [] (Gives (bA (clsW u))) := by
 refine Zd (n := 5) Tryz.func62 rfl (by decide +kernel) rfl rfl ?_
 refine qS (qR (qA (qN (qS (qR (qM ?_))))))
 refine qe (Z7 [] rfl rfl rfl (Zat _ _) List.nodup_nil) ?_
 refine qA (qN (qE ?_))
 exact Z0k rfl (Z4 rfl Z3) (gb rfl)
theorem Z5g (u : Str) : ACalls Tryz.prog 63 [sA u] [] (Gives (bA (nameW u))) := by
 refine Zd (n := 9) Tryz.func63 rfl (by decide +kernel) rfl rfl ?_
 refine qS (qR (qA (qN (qS (qR (qM ?_))))))
 refine qe (Z0l rfl rfl rfl rfl) ?_
 refine qM (qFM ?_)
 refine Zb (wF rfl rfl rfl rfl) rfl (fun hg => (Z7 [] rfl rfl (Ze (Za hg rfl) (Ze rfl Z04)) (Zat _ _) List.nodup_nil)) ?_
 refine qe (Z0h rfl rfl rfl (fun h => by rw [h]; rfl)) ?_
 refine qA (qN (qE ?_))
 exact Z0k rfl (Z4 rfl Z3) (gb rfl)
theorem Za3 (t : Ty) : ACalls Tryz.prog 69 [.agg t.cells] [] (Gives (bA (rightT t))) := by
 refine Zd (n := 18) Tryz.func69 rfl (by decide +kernel) rfl rfl ?_
 refine qS (qR ?_)
 refine Z05 (w0 rfl) rfl (fun id => Z0c id rfl rfl rfl rfl rfl) (fun id1 => ?_)
 refine qA (qN (qS (qR ?_)))
 refine qe (Z0 rfl rfl rfl) ?_
 refine qL 0 Z6 ?_
 refine qN (qB (qS (qS (qR ?_))))
 refine qe eI ?_
 refine qA (qN ?_)
 refine Z2 rfl ?_ ?_
 ·intro hc
  simp at hc
  refine qK ?_
  refine Z2 rfl ?_ ?_
  ·intro hc
   simp at hc
   refine qS (qR ?_)
   refine qe (Z0 rfl rfl rfl) ?_
   refine qL 0 Z6 ?_
   refine qe (Z0l rfl rfl rfl rfl) ?_
   refine qA (qN (qE ?_))
   exact Z0k rfl (Z4 rfl Z3) (gb (by unfold rightT; first | (rw [if_pos (by omega)]; done) | (show beqS t.cls zS = _; rw [if_neg (by omega), decide_eq_true (by omega), decide_eq_true (by omega)]; simp; done) | (rw [if_neg (by omega)]; generalize beqS t.cls zS = b; cases b <;> simp <;> omega)))
  ·intro hd; exfalso; simp_all
 ·intro hc
  simp at hc
  refine qS (qR ?_)
  refine qe eI ?_
  refine qA (qN ?_)
  refine Z2 rfl ?_ ?_
  ·intro hc
   simp at hc
   refine qK ?_
   refine Z2 rfl ?_ ?_
   ·intro hc
    simp at hc
    refine qS (qR ?_)
    refine qe (Z0 rfl rfl rfl) ?_
    refine qL 0 Z6 ?_
    refine qe (Z0l rfl rfl rfl rfl) ?_
    refine qA (qN (qE ?_))
    exact Z0k rfl (Z4 rfl Z3) (gb (by unfold rightT; first | (rw [if_pos (by omega)]; done) | (show beqS t.cls zS = _; rw [if_neg (by omega), decide_eq_true (by omega), decide_eq_true (by omega)]; simp; done) | (rw [if_neg (by omega)]; generalize beqS t.cls zS = b; cases b <;> simp <;> omega)))
   ·intro hd; exfalso; simp_all
  ·intro hc
   simp at hc
   refine qR ?_
   refine qe eI ?_
   refine qA (qN ?_)
   refine Z2 rfl ?_ ?_
   ·intro hc
    simp at hc
    refine qS (qR ?_)
    refine qe (Z0 rfl rfl rfl) ?_
    refine qL 0 Z6 ?_
    refine qe (Z0l rfl rfl rfl rfl) ?_
    refine qA (qN (qE ?_))
    exact Z0k rfl (Z4 rfl Z3) (gb (by unfold rightT; first | (rw [if_pos (by omega)]; done) | (show beqS t.cls zS = _; rw [if_neg (by omega), decide_eq_true (by omega), decide_eq_true (by omega)]; simp; done) | (rw [if_neg (by omega)]; generalize beqS t.cls zS = b; cases b <;> simp <;> omega)))
   ·intro hc
    simp at hc
    refine qS (qS (qR ?_))
    refine qe eI ?_
    refine qA (qN ?_)
    refine Z2 rfl ?_ ?_
    ·intro hc
     simp at hc
     refine qK ?_
     refine Z2 rfl ?_ ?_
     ·intro hc
      simp at hc
      refine qS (qR ?_)
      refine qe (Z0 rfl rfl rfl) ?_
      refine qL 0 Z6 ?_
      refine qe (Z7 [] rfl rfl rfl (Z34 _) List.nodup_nil) ?_
      refine qA (qN (qE ?_))
      exact Z0k rfl (Z4 rfl Z3) (gb (by unfold rightT; first | (rw [if_pos (by omega)]; done) | (show beqS t.cls zS = _; rw [if_neg (by omega), decide_eq_true (by omega), decide_eq_true (by omega)]; simp; done) | (rw [if_neg (by omega)]; generalize beqS t.cls zS = b; cases b <;> simp <;> omega)))
     ·intro hd; exfalso; simp_all
    ·intro hc
     simp at hc
     refine qR ?_
     refine qe eI ?_
     refine qA (qN ?_)
     refine Z2 rfl ?_ ?_
     ·intro hc
      simp at hc
      refine qS (qR ?_)
      refine qe (Z0 rfl rfl rfl) ?_
      refine qL 0 Z6 ?_
      refine qe (Z7 [] rfl rfl rfl (Z34 _) List.nodup_nil) ?_
      refine qA (qN (qE ?_))
      exact Z0k rfl (Z4 rfl Z3) (gb (by unfold rightT; first | (rw [if_pos (by omega)]; done) | (show beqS t.cls zS = _; rw [if_neg (by omega), decide_eq_true (by omega), decide_eq_true (by omega)]; simp; done) | (rw [if_neg (by omega)]; generalize beqS t.cls zS = b; cases b <;> simp <;> omega)))
     ·intro hc
      simp at hc
      refine qS (qR (qA (qN (qE ?_))))
      exact Z0k rfl (Z4 rfl Z3) (gb (by unfold rightT; first | (rw [if_pos (by omega)]; done) | (show beqS t.cls zS = _; rw [if_neg (by omega), decide_eq_true (by omega), decide_eq_true (by omega)]; simp; done) | (rw [if_neg (by omega)]; generalize beqS t.cls zS = b; cases b <;> simp <;> omega)))
theorem Zfx (n : Int) : ACalls Tryz.prog 168 [iA n] [] (GSome sA (fun s => s = shapeS n)) := by
 refine Zd (n := 51) Tryz.func168 rfl (by decide +kernel) rfl rfl ?_
 refine qS (qR (qA (qN (qS (qR (qM (qN (qB (qS (qR ?_))))))))))
 refine qe eI ?_
 refine qA (qN ?_)
 refine Z2 rfl ?_ ?_
 ·intro hc
  refine qS (qR (qA (qN (qE ?_))))
  exact Z0k rfl (Z4 rfl Z3) (Z13 _ (by unfold shapeS; simp_all) rfl)
 ·intro hc
  refine qS (qS (qR ?_))
  refine qe eI ?_
  refine qA (qN ?_)
  refine Z2 rfl ?_ ?_
  ·intro hc
   refine qK ?_
   refine Z2 rfl ?_ ?_
   ·intro hc
    refine qS (qR (qA (qN (qE ?_))))
    exact Z0k rfl (Z4 rfl Z3) (Z13 _ (by unfold shapeS; simp_all) rfl)
   ·intro hd; exfalso; simp_all
  ·intro hc
   refine qR ?_
   refine qe eI ?_
   refine qA (qN ?_)
   refine Z2 rfl ?_ ?_
   ·intro hc
    refine qS (qR (qA (qN (qE ?_))))
    exact Z0k rfl (Z4 rfl Z3) (Z13 _ (by unfold shapeS; simp_all) rfl)
   ·intro hc
    refine qS (qS (qR ?_))
    refine qe eI ?_
    refine qA (qN ?_)
    refine Z2 rfl ?_ ?_
    ·intro hc
     refine qK ?_
     refine Z2 rfl ?_ ?_
     ·intro hc
      refine qS (qR (qA (qN (qE ?_))))
      exact Z0k rfl (Z4 rfl Z3) (Z13 _ (by unfold shapeS; simp_all) rfl)
     ·intro hd; exfalso; simp_all
    ·intro hc
     refine qS (qR ?_)
     refine qe eI ?_
     refine qA (qN ?_)
     refine Z2 rfl ?_ ?_
     ·intro hc
      refine qK ?_
      refine Z2 rfl ?_ ?_
      ·intro hc
       refine qS (qR (qA (qN (qE ?_))))
       exact Z0k rfl (Z4 rfl Z3) (Z13 _ (by unfold shapeS; simp_all) rfl)
      ·intro hd; exfalso; simp_all
     ·intro hc
      refine qS (qR ?_)
      refine qe eI ?_
      refine qA (qN ?_)
      refine Z2 rfl ?_ ?_
      ·intro hc
       refine qK ?_
       refine Z2 rfl ?_ ?_
       ·intro hc
        refine qS (qR (qA (qN (qE ?_))))
        exact Z0k rfl (Z4 rfl Z3) (Z13 _ (by unfold shapeS; simp_all) rfl)
       ·intro hd; exfalso; simp_all
      ·intro hc
       refine qS (qR ?_)
       refine qe eI ?_
       refine qA (qN ?_)
       refine Z2 rfl ?_ ?_
       ·intro hc
        refine qK ?_
        refine Z2 rfl ?_ ?_
        ·intro hc
         refine qS (qR (qA (qN (qE ?_))))
         exact Z0k rfl (Z4 rfl Z3) (Z13 _ (by unfold shapeS; simp_all) rfl)
        ·intro hd; exfalso; simp_all
       ·intro hc
        refine qR ?_
        refine qe eI ?_
        refine qA (qN ?_)
        refine Z2 rfl ?_ ?_
        ·intro hc
         refine qS (qR (qA (qN (qE ?_))))
         exact Z0k rfl (Z4 rfl Z3) (Z13 _ (by unfold shapeS; simp_all) rfl)
        ·intro hc
         refine qS (qR ?_)
         refine qe eI ?_
         refine qA (qN ?_)
         refine Z2 rfl ?_ ?_
         ·intro hc
          refine qS (qR (qA (qN (qE ?_))))
          exact Z0k rfl (Z4 rfl Z3) (Z13 _ (by unfold shapeS; simp_all) rfl)
         ·intro hc
          refine qS (qR ?_)
          refine qe eI ?_
          refine qA (qN ?_)
          refine Z2 rfl ?_ ?_
          ·intro hc
           refine qS (qR (qA (qN (qE ?_))))
           exact Z0k rfl (Z4 rfl Z3) (Z13 _ (by unfold shapeS; simp_all) rfl)
          ·intro hc
           refine qS (qS (qR ?_))
           refine qe eI ?_
           refine qA (qN ?_)
           refine Z2 rfl ?_ ?_
           ·intro hc
            refine qK ?_
            refine Z2 rfl ?_ ?_
            ·intro hc
             refine qS (qR (qA (qN (qE ?_))))
             exact Z0k rfl (Z4 rfl Z3) (Z13 _ (by unfold shapeS; simp_all) rfl)
            ·intro hd; exfalso; simp_all
           ·intro hc
            refine qR ?_
            refine qe eI ?_
            refine qA (qN ?_)
            refine Z2 rfl ?_ ?_
            ·intro hc
             refine qS (qR (qA (qN (qE ?_))))
             exact Z0k rfl (Z4 rfl Z3) (Z13 _ (by unfold shapeS; simp_all) rfl)
            ·intro hc
             refine qS (qR ?_)
             refine qe eI ?_
             refine qA (qN ?_)
             refine Z2 rfl ?_ ?_
             ·intro hc
              refine qS (qR (qA (qN (qE ?_))))
              exact Z0k rfl (Z4 rfl Z3) (Z13 _ (by unfold shapeS; simp_all) rfl)
             ·intro hc
              refine qS (qS (qR ?_))
              refine qe eI ?_
              refine qA (qN ?_)
              refine Z2 rfl ?_ ?_
              ·intro hc
               refine qK ?_
               refine Z2 rfl ?_ ?_
               ·intro hc
                refine qS (qR (qA (qN (qE ?_))))
                exact Z0k rfl (Z4 rfl Z3) (Z13 _ (by unfold shapeS; simp_all) rfl)
               ·intro hd; exfalso; simp_all
              ·intro hc
               refine qS (qR ?_)
               refine qe eI ?_
               refine qA (qN ?_)
               refine Z2 rfl ?_ ?_
               ·intro hc
                refine qK ?_
                refine Z2 rfl ?_ ?_
                ·intro hc
                 refine qS (qR (qA (qN (qE ?_))))
                 exact Z0k rfl (Z4 rfl Z3) (Z13 _ (by unfold shapeS; simp_all) rfl)
                ·intro hd; exfalso; simp_all
               ·intro hc
                refine qR ?_
                refine qe eI ?_
                refine qA (qN ?_)
                refine Z2 rfl ?_ ?_
                ·intro hc
                 refine qS (qR (qA (qN (qE ?_))))
                 exact Z0k rfl (Z4 rfl Z3) (Z13 _ (by unfold shapeS; simp_all) rfl)
                ·intro hc
                 refine qS (qS (qR ?_))
                 refine qe eI ?_
                 refine qA (qN ?_)
                 refine Z2 rfl ?_ ?_
                 ·intro hc
                  refine qK ?_
                  refine Z2 rfl ?_ ?_
                  ·intro hc
                   refine qS (qR (qA (qN (qE ?_))))
                   exact Z0k rfl (Z4 rfl Z3) (Z13 _ (by unfold shapeS; simp_all) rfl)
                  ·intro hd; exfalso; simp_all
                 ·intro hc
                  refine qR ?_
                  refine qe eI ?_
                  refine qA (qN ?_)
                  refine Z2 rfl ?_ ?_
                  ·intro hc
                   refine qS (qR (qA (qN (qE ?_))))
                   exact Z0k rfl (Z4 rfl Z3) (Z13 _ (by unfold shapeS; simp_all) rfl)
                  ·intro hc
                   refine qS (qR ?_)
                   refine qe eI ?_
                   refine qA (qN ?_)
                   refine Z2 rfl ?_ ?_
                   ·intro hc
                    refine qS (qR (qA (qN (qE ?_))))
                    exact Z0k rfl (Z4 rfl Z3) (Z13 _ (by unfold shapeS; simp_all) rfl)
                   ·intro hc
                    refine qS (qR ?_)
                    refine qe eI ?_
                    refine qA (qN ?_)
                    refine Z2 rfl ?_ ?_
                    ·intro hc
                     refine qS (qR (qA (qN (qE ?_))))
                     exact Z0k rfl (Z4 rfl Z3) (Z13 _ (by unfold shapeS; simp_all) rfl)
                    ·intro hc
                     refine qS (qR ?_)
                     refine qe eI ?_
                     refine qA (qN ?_)
                     refine Z2 rfl ?_ ?_
                     ·intro hc
                      refine qS (qR (qA (qN (qE ?_))))
                      exact Z0k rfl (Z4 rfl Z3) (Z13 _ (by unfold shapeS; simp_all) rfl)
                     ·intro hc
                      refine qS (qR ?_)
                      refine qe eI ?_
                      refine qA (qN ?_)
                      refine Z2 rfl ?_ ?_
                      ·intro hc
                       refine qS (qR (qA (qN (qE ?_))))
                       exact Z0k rfl (Z4 rfl Z3) (Z13 _ (by unfold shapeS; simp_all) rfl)
                      ·intro hc
                       refine qS (qS (qR ?_))
                       refine qe eI ?_
                       refine qA (qN ?_)
                       refine Z2 rfl ?_ ?_
                       ·intro hc
                        refine qK ?_
                        refine Z2 rfl ?_ ?_
                        ·intro hc
                         refine qS (qR (qA (qN (qE ?_))))
                         exact Z0k rfl (Z4 rfl Z3) (Z13 _ (by unfold shapeS; simp_all) rfl)
                        ·intro hd; exfalso; simp_all
                       ·intro hc
                        refine qS (qR ?_)
                        refine qe eI ?_
                        refine qA (qN ?_)
                        refine Z2 rfl ?_ ?_
                        ·intro hc
                         refine qK ?_
                         refine Z2 rfl ?_ ?_
                         ·intro hc
                          refine qS (qR (qA (qN (qE ?_))))
                          exact Z0k rfl (Z4 rfl Z3) (Z13 _ (by unfold shapeS; simp_all) rfl)
                         ·intro hd; exfalso; simp_all
                        ·intro hc
                         refine qR ?_
                         refine qe eI ?_
                         refine qA (qN ?_)
                         refine Z2 rfl ?_ ?_
                         ·intro hc
                          refine qS (qR (qA (qN (qE ?_))))
                          exact Z0k rfl (Z4 rfl Z3) (Z13 _ (by unfold shapeS; simp_all) rfl)
                         ·intro hc
                          refine qS (qS (qR ?_))
                          refine qe eI ?_
                          refine qA (qN ?_)
                          refine Z2 rfl ?_ ?_
                          ·intro hc
                           refine qK ?_
                           refine Z2 rfl ?_ ?_
                           ·intro hc
                            refine qS (qR (qA (qN (qE ?_))))
                            exact Z0k rfl (Z4 rfl Z3) (Z13 _ (by unfold shapeS; simp_all) rfl)
                           ·intro hd; exfalso; simp_all
                          ·intro hc
                           refine qS (qR ?_)
                           refine qe eI ?_
                           refine qA (qN ?_)
                           refine Z2 rfl ?_ ?_
                           ·intro hc
                            refine qK ?_
                            refine Z2 rfl ?_ ?_
                            ·intro hc
                             refine qS (qR (qA (qN (qE ?_))))
                             exact Z0k rfl (Z4 rfl Z3) (Z13 _ (by unfold shapeS; simp_all) rfl)
                            ·intro hd; exfalso; simp_all
                           ·intro hc
                            refine qR ?_
                            refine qe eI ?_
                            refine qA (qN ?_)
                            refine Z2 rfl ?_ ?_
                            ·intro hc
                             refine qS (qR (qA (qN (qE ?_))))
                             exact Z0k rfl (Z4 rfl Z3) (Z13 _ (by unfold shapeS; simp_all) rfl)
                            ·intro hc
                             refine qS (qR ?_)
                             refine qe eI ?_
                             refine qA (qN ?_)
                             refine Z2 rfl ?_ ?_
                             ·intro hc
                              refine qS (qR (qA (qN (qE ?_))))
                              exact Z0k rfl (Z4 rfl Z3) (Z13 _ (by unfold shapeS; simp_all) rfl)
                             ·intro hc
                              refine qS (qR ?_)
                              refine qe eI ?_
                              refine qA (qN ?_)
                              refine Z2 rfl ?_ ?_
                              ·intro hc
                               refine qS (qR (qA (qN (qE ?_))))
                               exact Z0k rfl (Z4 rfl Z3) (Z13 _ (by unfold shapeS; simp_all) rfl)
                              ·intro hc
                               refine qS (qR (qA (qN (qE ?_))))
                               exact Z0k rfl (Z4 rfl Z3) (Z13 _ (by unfold shapeS; simp_all) rfl)
theorem Zeu (u : Str) (k : Nat) (hs : small u.size) (h1 : k ≤ u.size) : ACalls Tryz.prog 166 [sA u, iA k] [] (GSome nxtA (fun r => r = nextR u k)) := by
 unfold small at hs
 refine Zd (n := 88) Tryz.func166 rfl (by decide +kernel) rfl rfl ?_
 refine qS (qR ?_)
 refine Z05 (w0 rfl) rfl (fun id => Z08 id rfl rfl rfl) (fun id1 => ?_)
 refine qA (qA (qN (qS (qR (qM (qM ?_))))))
 refine qe (Zs rfl rfl rfl rfl) ?_
 refine qe eI ?_
 refine qM (qTM (qTM ?_))
 refine Zb (wT rfl rfl rfl rfl) rfl (fun hg => (Z11 rfl (Za hg rfl) (Za hg rfl) (by (try simp at hg) <;> first | omega | (simp only [List.length_map]; omega) | (simp only [List.length_map, List.length_drop]; omega)) (by (try simp at hg) <;> first | omega | (simp only [List.length_map]; omega) | (simp only [List.length_map, List.length_drop]; omega)))) ?_
 refine Zb (wT rfl rfl rfl rfl) rfl (fun hg => (Zm rfl (Za hg rfl) rfl rfl)) ?_
 refine qe (Zq rfl rfl rfl (fun h => h)) ?_
 refine qA (qN ?_)
 refine Z3q (α := Nat × Bool) (fun z => ⟨[(0, sA u), (1, iA z.1), (4, .ptr id1 2 0 0), (7, bA z.2)], [(id1, .rows 68 2 [Ty.cells zTy])], [], 88⟩) (fun z => z.1 = nxA u k ∧ z.2 = arrA u k) ?_ ?_
 ·skip
  refine qS (qR (qM (qN ?_)))
  refine Z2 rfl ?_ ?_
  ·intro hc
   have hn : arrA u k = true := hc
   have hk : k < u.size := by have := Z28 hc; simpa using this
   refine qR (qM ?_)
   refine qe (Z9 rfl rfl rfl (Zo (by first | omega | (simp only [List.length_map]; omega)))) ?_
   refine qA (qN ?_)
   refine ⟨(nxA u k, arrA u k), ⟨rfl, rfl⟩, ?_⟩
   exact qp [0] ⟨rfl, (congrArg (fun n : Nat => some (iA n)) (show k + 1 = nxA u k by unfold nxA; rw [hn]; rfl)), rfl, rfl, trivial⟩
  ·intro hc
   have hn : arrA u k = false := hc
   refine qK ?_
   refine ⟨(nxA u k, arrA u k), ⟨rfl, rfl⟩, ?_⟩
   exact qp [0] ⟨rfl, (congrArg (fun n : Nat => some (iA n)) (show k = nxA u k by unfold nxA; rw [hn]; rfl)), rfl, rfl, trivial⟩
 ·rintro ⟨a1, arr⟩ ⟨ha, hb⟩
  simp only at ha hb ⊢
  have hle := Zc8 u k
  refine qS (qS (qR (qM (qM ?_))))
  refine qe (Zs rfl rfl rfl rfl) ?_
  refine qe eI ?_
  refine qN ?_
  refine Z2 rfl ?_ ?_
  ·intro hc
   have he : u.size ≤ a1 := by simpa using hc
   refine qS (qR ?_)
   refine qe (Z0f rfl rfl rfl) ?_
   refine Zu 0 (w0 rfl) rfl rfl rfl rfl rfl rfl rfl rfl rfl ?_
   refine qA (qA (qN (qE ?_)))
   exact Z0k rfl (Z0v 0 rfl rfl rfl (Z01 (Nat.le_of_ble_eq_true rfl)) (Z4 rfl (Z4 rfl Z3))) (Z13 (nextR u k) rfl (by rw [Zc7 ha he]; rfl))
  ·intro hc
   have he : ¬ u.size ≤ a1 := by simpa using hc
   refine qK (qS (qR (qM (qM ?_))))
   refine qe (Z11 rfl rfl rfl (by first | omega | (simp only [List.length_map]; omega) | (simp only [List.length_map, List.length_drop]; omega)) (by first | omega | (simp only [List.length_map]; omega) | (simp only [List.length_map, List.length_drop]; omega))) ?_
   refine qN (qB (qS (qR ?_)))
   refine qe eI ?_
   refine qA (qN ?_)
   refine Z2 rfl ?_ ?_
   ·intro hc
    have h86 : byteAt u (a1 : Nat) = 86 := by simpa using hc
    refine qS (qR ?_)
    refine qe (Z0f rfl rfl rfl) ?_
    refine qM ?_
    refine qe (Z9 rfl rfl rfl (Zo (by first | omega | (simp only [List.length_map]; omega)))) ?_
    refine qM ?_
    refine qe (Zx rfl rfl) ?_
    refine Zu 0 (w0 rfl) rfl rfl rfl rfl rfl rfl rfl rfl rfl ?_
    refine qA (qA (qN (qE ?_)))
    exact Z0k rfl (Z0v 0 rfl rfl rfl (Z01 (Nat.le_of_ble_eq_true rfl)) (Z4 rfl (Z4 rfl Z3))) (Z13 (nextR u k) rfl (by rw [Zgj ha hb he h86]; rfl))
   ·intro hc
    have h86 : ¬ byteAt u (a1 : Nat) = 86 := by simpa using hc
    refine qS (qR ?_)
    refine qe eI ?_
    refine qA (qN ?_)
    refine Z2 rfl ?_ ?_
    ·intro hc
     have h73 : byteAt u (a1 : Nat) = 73 := by simpa using hc
     refine qS (qS (qR (qM (qN ?_))))
     refine Z2 rfl ?_ ?_
     ·intro hc
      have hr : arr = true := hc
      refine qS (qR ?_)
      refine qe (Z0f rfl rfl rfl) ?_
      refine qM ?_
      refine qe (Z9 rfl rfl rfl (Zo (by first | omega | (simp only [List.length_map]; omega)))) ?_
      refine Zu 0 (w0 rfl) rfl rfl rfl rfl rfl rfl rfl rfl rfl ?_
      refine qA (qA (qN (qE ?_)))
      exact Z0k rfl (Z0v 0 rfl rfl rfl (Z01 (Nat.le_of_ble_eq_true rfl)) (Z4 rfl (Z4 rfl Z3))) (Z13 (nextR u k) rfl (by rw [Zc4 ha hb he h86 h73, hr]; rfl))
     ·intro hc
      have hr : arr = false := hc
      refine qK (qS (qR ?_))
      refine qe (Z0f rfl rfl rfl) ?_
      refine qM ?_
      refine qe (Z9 rfl rfl rfl (Zo (by first | omega | (simp only [List.length_map]; omega)))) ?_
      refine Zu 0 (w0 rfl) rfl rfl rfl rfl rfl rfl rfl rfl rfl ?_
      refine qA (qA (qN (qE ?_)))
      exact Z0k rfl (Z0v 0 rfl rfl rfl (Z01 (Nat.le_of_ble_eq_true rfl)) (Z4 rfl (Z4 rfl Z3))) (Z13 (nextR u k) rfl (by rw [Zc4 ha hb he h86 h73, hr]; rfl))
    ·intro hc
     have h73 : ¬ byteAt u (a1 : Nat) = 73 := by simpa using hc
     refine qS (qR ?_)
     refine qe eI ?_
     refine qA (qN ?_)
     refine Z2 rfl ?_ ?_
     ·intro hc
      have h76 : byteAt u (a1 : Nat) = 76 := by simpa using hc
      refine qS (qR (qM (qA (qN (qS (qB ?_))))))
      refine Zj (α := Nat) (fun x => ⟨[(8, iA x), (1, iA a1), (0, sA u), (7, bA arr), (4, .ptr id1 2 0 0)], [(id1, .rows 68 2 [Ty.cells zTy])], [], 88⟩) (fun x => a1 ≤ x ∧ x ≤ u.size ∧ semi u x = semi u a1) (fun x => u.size - x) a1 ⟨Nat.le_refl _, by omega, rfl⟩ ?_ ?_
      ·exact Zi [0] ⟨rfl, rfl, rfl, rfl, rfl, trivial⟩ rfl (by decide) rfl rfl
      rintro x hJ
      refine qS (qS (qR (qM (qM ?_))))
      refine qe (Zs rfl rfl rfl rfl) ?_
      refine qe eI ?_
      refine qM (qTM (qTM ?_))
      refine Zb (wT rfl rfl rfl rfl) rfl (fun hg => (Z11 rfl (Za hg rfl) (Za hg rfl) (by (try simp at hg) <;> first | omega | (simp only [List.length_map]; omega) | (simp only [List.length_map, List.length_drop]; omega)) (by (try simp at hg) <;> first | omega | (simp only [List.length_map]; omega) | (simp only [List.length_map, List.length_drop]; omega)))) ?_
      refine Zb (wT rfl rfl rfl rfl) rfl (fun hg => (Zm rfl (Za hg rfl) rfl rfl)) ?_
      refine qe (Zq rfl rfl rfl (fun h => h)) ?_
      refine qN ?_
      refine Z2 rfl ?_ ?_
      ·intro hc
       have hx : x < u.size ∧ ¬ byteAt u (x : Nat) = 59 := ⟨by have := Z28 hc; simpa using this, by have := Z29 hc; simpa using this⟩
       refine qK (qB (qR (qM ?_)))
       refine qe (Z9 rfl rfl rfl (Zo (by first | omega | (simp only [List.length_map]; omega)))) ?_
       refine qA (qN ?_)
       refine ⟨x + 1, ⟨by omega, by omega, by rw [← Zci hx.1 hx.2]; exact hJ.2.2⟩, (by omega), ?_⟩
       exact qp [0] ⟨rfl, rfl, rfl, rfl, rfl, trivial⟩
      ·intro hc
       have hx : ¬ (x < u.size ∧ ¬ byteAt u (x : Nat) = 59) := fun h => by simp [h.1, h.2] at hc
       have hsm : semi u a1 = x := by rw [← hJ.2.2]; by_cases h : x < u.size; exact Zel (by by_cases h2 : byteAt u (x : Nat) = 59; exact h2; exact absurd ⟨h, h2⟩ hx); exact Zek h
       have hgt : x < u.size → a1 < x := fun h => by rcases Nat.lt_or_ge a1 x with h2 | h2; exact h2; exfalso; have e : x = a1 := (by omega); rw [e] at hx h; exact hx ⟨h, by omega⟩
       refine qX (qS (qS (qR (qM (qM ?_)))))
       refine qe (Zs rfl rfl rfl rfl) ?_
       refine qe eI ?_
       refine qM (qFM (qFM ?_))
       refine Zb (wF rfl rfl rfl rfl) rfl (fun hg => (Z9 rfl (Za hg rfl) rfl (Zo (by first | omega | (simp only [List.length_map]; omega))))) ?_
       refine qFM ?_
       refine Zb (wF rfl rfl rfl rfl) rfl (fun hg => (Z67 rfl (Za hg rfl) (Za hg rfl) (Za hg rfl) (by (try simp at hg) <;> first | omega | (simp only [List.length_map]; omega) | (simp only [List.length_map, List.length_drop]; omega)) (by (try simp at hg) <;> first | omega | (simp only [List.length_map]; omega) | (simp only [List.length_map, List.length_drop]; omega)) (by (try simp at hg) <;> first | omega | (simp only [List.length_map]; omega) | (simp only [List.length_map, List.length_drop]; omega)))) ?_
       refine Zb (wF rfl rfl rfl rfl) rfl (fun hg => (Z7 [] rfl rfl (Ze (Za hg rfl) Z04) (Z34 _) List.nodup_nil)) ?_
       refine Zb (wF rfl rfl rfl rfl) rfl (fun hg => (Zx rfl (Za hg rfl))) ?_
       refine qe (Z0h rfl rfl rfl (fun h => by rw [h]; rfl)) ?_
       refine qN ?_
       refine Z2 rfl ?_ ?_
       ·intro hc
        have h18 : u.size ≤ x ∨ clsW (u.extract (a1 + 1) x) = false := by rcases orT hc with h | h; left; simpa using h; right; exact Z20 h
        refine qS (qR ?_)
        refine qe (Z0f rfl rfl rfl) ?_
        refine Zu 0 (w0 rfl) rfl rfl rfl rfl rfl rfl rfl rfl rfl ?_
        refine qA (qA (qN (qE ?_)))
        exact Z0k rfl (Z0v 0 rfl rfl rfl (Z01 (Nat.le_of_ble_eq_true rfl)) (Z4 rfl (Z4 rfl Z3))) (Z13 (nextR u k) rfl (by rw [Zc6 ha he h76 hsm h18]; rfl))
       ·intro hc
        have h18 : ¬ (u.size ≤ x ∨ clsW (u.extract (a1 + 1) x) = false) := by have h := orF hc; intro h2; rcases h2 with h2 | h2; have := h.1; simp at this; omega; have h3 : clsW (u.extract (a1 + 1) x) = true := Z2s h.2; rw [h2] at h3; cases h3
        have hxs : x < u.size := by omega
        have hgt := hgt hxs
        refine qK (qS (qR (qM (qM ?_))))
        refine qe (Z9 rfl rfl rfl (Zo (by first | omega | (simp only [List.length_map]; omega)))) ?_
        refine qM ?_
        refine qe (Z67 rfl rfl rfl rfl (by first | omega | (simp only [List.length_map]; omega) | (simp only [List.length_map, List.length_drop]; omega)) (by first | omega | (simp only [List.length_map]; omega) | (simp only [List.length_map, List.length_drop]; omega)) (by first | omega | (simp only [List.length_map]; omega) | (simp only [List.length_map, List.length_drop]; omega))) ?_
        refine qe (Z0f rfl rfl rfl) ?_
        refine Z05 (w0 rfl) rfl (fun id => Z08 id rfl rfl rfl) (fun id2 => ?_)
        refine Zu 0 (w0 rfl) rfl rfl rfl rfl rfl rfl rfl rfl rfl ?_
        refine qN (qS (qS (qR (qM (qN ?_)))))
        refine Z2 rfl ?_ ?_
        ·intro hc
         have hr : arr = true := hc
         refine qR ?_
         refine qe (Z0 rfl rfl rfl) ?_
         refine Zu 0 (w0 rfl) rfl rfl rfl rfl rfl rfl rfl rfl rfl ?_
         refine qN (qS (qR ?_))
         refine qL 0 (Z01 (Nat.le_of_ble_eq_true rfl)) ?_
         refine qM ?_
         refine qe (Z9 rfl rfl rfl (Zo (by first | omega | (simp only [List.length_map]; omega)))) ?_
         refine Zu 1 (w0 rfl) rfl rfl rfl rfl rfl rfl rfl rfl rfl ?_
         refine qA (qA (qN (qE ?_)))
         exact Z0k rfl (Z0v 1 rfl rfl rfl (Z01 (Nat.le_of_ble_eq_true rfl)) (Z4 rfl (Z4 rfl Z3))) (Z13 (nextR u k) rfl (by rw [Zc5 ha hb he h76 hsm h18, hr]; rfl))
        ·intro hc
         have hr : arr = false := hc
         refine qK (qS (qR ?_))
         refine qL 0 (Z01 (Nat.le_of_ble_eq_true rfl)) ?_
         refine qM ?_
         refine qe (Z9 rfl rfl rfl (Zo (by first | omega | (simp only [List.length_map]; omega)))) ?_
         refine Zu 1 (w0 rfl) rfl rfl rfl rfl rfl rfl rfl rfl rfl ?_
         refine qA (qA (qN (qE ?_)))
         exact Z0k rfl (Z0v 1 rfl rfl rfl (Z01 (Nat.le_of_ble_eq_true rfl)) (Z4 rfl (Z4 rfl Z3))) (Z13 (nextR u k) rfl (by rw [Zc5 ha hb he h76 hsm h18, hr]; rfl))
     ·intro hc
      have h76 : ¬ byteAt u (a1 : Nat) = 76 := by simpa using hc
      refine qS (qR ?_)
      refine qe (Z0f rfl rfl rfl) ?_
      refine Zu 0 (w0 rfl) rfl rfl rfl rfl rfl rfl rfl rfl rfl ?_
      refine qA (qA (qN (qE ?_)))
      exact Z0k rfl (Z0v 0 rfl rfl rfl (Z01 (Nat.le_of_ble_eq_true rfl)) (Z4 rfl (Z4 rfl Z3))) (Z13 (nextR u k) rfl (by rw [Zea ha he h86 h73 h76]; rfl))
theorem Zb8 (u : Str) (hs : small u.size) : ACalls Tryz.prog 167 [sA u] [] (GSome prsA (fun r => r = parseR u)) := by
 refine Zd (n := 23) Tryz.func167 rfl (by decide +kernel) rfl rfl ?_
 refine qS (qR ?_)
 refine Z05 (w0 rfl) rfl (fun id => Z08 id rfl rfl rfl) (fun id1 => ?_)
 refine qA (qN (qS (qR (qM ?_))))
 refine Z14 (w0 rfl) rfl rfl rfl rfl (Zeu _ 0 hs (Nat.zero_le _)) (fun v2 hv2 => ?_)
 obtain ⟨⟨tk, tc⟩, to, ok⟩ := v2
 refine qM ?_
 refine qe (Zg rfl rfl rfl) ?_
 refine qe (Zg rfl rfl rfl) ?_
 refine qe (Zg rfl rfl rfl) ?_
 refine Z05 (w0 rfl) rfl (fun id => Z08 id rfl rfl rfl) (fun id3 => ?_)
 refine Zu 0 (w0 rfl) rfl rfl rfl rfl rfl rfl rfl rfl rfl ?_
 refine qA (qA (qN (qS (qS (qR (qM ?_))))))
 refine qe (Zx rfl rfl) ?_
 refine qM (qFM (qFM ?_))
 refine Zb (wF rfl rfl rfl rfl) rfl (fun hg => (Zs rfl (Za hg rfl) rfl rfl)) ?_
 refine Zb (wF rfl rfl rfl rfl) rfl (fun hg => (Zm rfl (Za hg rfl) (Za hg rfl) rfl)) ?_
 refine qe (Z0h rfl rfl rfl (fun h => by rw [h]; rfl)) ?_
 refine qN ?_
 refine Z2 rfl ?_ ?_
 ·intro hc
  have h2 : ok = false ∨ ¬ to = u.size := by rcases orT hc with h | h; left; exact Z20 h; right; simp at h; omega
  refine qS (qR ?_)
  refine qe (Z0f rfl rfl rfl) ?_
  refine Zu 1 (w0 rfl) rfl rfl rfl rfl rfl rfl rfl rfl rfl ?_
  refine qA (qN (qE ?_))
  exact Z0k rfl (Z0v 1 rfl rfl rfl (Z01 (Nat.le_of_ble_eq_true rfl)) (Z4 rfl Z3)) (Z13 (parseR u) rfl (by unfold parseR; rw [← hv2]; rw [if_pos h2]; rfl))
 ·intro hc
  have h2 : ¬ (ok = false ∨ ¬ to = u.size) := by have h := orF hc; intro h2; rcases h2 with h2 | h2; have := Z2s h.1; rw [h2] at this; cases this; apply h2; have := h.2; simp at this; omega
  refine qK (qS (qR ?_))
  refine qL 0 (Z01 (Nat.le_of_ble_eq_true rfl)) ?_
  refine Zu 1 (w0 rfl) rfl rfl rfl rfl rfl rfl rfl rfl rfl ?_
  refine qA (qN (qE ?_))
  exact Z0k rfl (Z0v 1 rfl rfl rfl (Z01 (Nat.le_of_ble_eq_true rfl)) (Z4 rfl Z3)) (Z13 (parseR u) rfl (by unfold parseR; rw [← hv2]; rw [if_neg h2]; rfl))
theorem Z8v {u : Str} (h : 64 < u.size) : splitR u = splitE 3 := by unfold splitR; rw [if_pos h]
theorem Z8u {u : Str} (h : ¬ 64 < u.size) (h2 : u.size = 0 ∨ ¬ byteAt u 0 = 40) : splitR u = splitE 1 := by unfold splitR; rw [if_neg h, if_pos h2]
theorem Z8x {u : Str} (h : ¬ 64 < u.size) (h2 : ¬ (u.size = 0 ∨ ¬ byteAt u 0 = 40)) (h3 : par u 1 [] = none) : splitR u = splitE 1 := by unfold splitR; rw [if_neg h, if_neg h2, h3]
theorem Zai {u : Str} {o : List Ty} {k : Nat} (h : ¬ 64 < u.size) (h2 : ¬ (u.size = 0 ∨ ¬ byteAt u 0 = 40)) (h3 : par u 1 [] = some (o, k)) (h4 : u.size ≤ k) : splitR u = splitE 1 := by unfold splitR; rw [if_neg h, if_neg h2, h3]; simp only; rw [if_pos h4]
theorem Zaj {u : Str} {o : List Ty} {k : Nat} {r : Ty × Int} (h : ¬ 64 < u.size) (h2 : ¬ (u.size = 0 ∨ ¬ byteAt u 0 = 40)) (h3 : par u 1 [] = some (o, k)) (h4 : ¬ u.size ≤ k) (hr : r = parseR (u.extract (k + 1) u.size)) (h5 : ¬ r.2 = 0) : splitR u = splitE r.2 := by unfold splitR; subst hr; rw [if_neg h, if_neg h2, h3]; simp only; rw [if_neg h4, if_pos h5]
theorem Z8w {u : Str} {o : List Ty} {k : Nat} {r : Ty × Int} (h : ¬ 64 < u.size) (h2 : ¬ (u.size = 0 ∨ ¬ byteAt u 0 = 40)) (h3 : par u 1 [] = some (o, k)) (h4 : ¬ u.size ≤ k) (hr : r = parseR (u.extract (k + 1) u.size)) (h5 : r.2 = 0) (h6 : 8 < o.length) : splitR u = splitE 3 := by unfold splitR; subst hr; rw [if_neg h, if_neg h2, h3]; simp only; rw [if_neg h4, if_neg (by simpa using h5), if_pos h6]
theorem Zcj {u : Str} {o : List Ty} {k : Nat} {r : Ty × Int} (h : ¬ 64 < u.size) (h2 : ¬ (u.size = 0 ∨ ¬ byteAt u 0 = 40)) (h3 : par u 1 [] = some (o, k)) (h4 : ¬ u.size ≤ k) (hr : r = parseR (u.extract (k + 1) u.size)) (h5 : r.2 = 0) (h6 : ¬ 8 < o.length) : splitR u = (o, r.1, 0) := by unfold splitR; subst hr; rw [if_neg h, if_neg h2, h3]; simp only; rw [if_neg h4, if_neg (by simpa using h5), if_neg h6]
theorem Z8d (u : Str) : ACalls Tryz.prog 129 [sA u] [] (GSome splA (fun r => r = splitR u)) := by
 refine Zd (n := 78) Tryz.func129 rfl (by decide +kernel) rfl rfl ?_
 refine qS (qR (qA ?_))
 refine Z05 (w0 rfl) rfl (fun id => Z08 id rfl rfl rfl) (fun id1 => ?_)
 refine qA (qN (qS (qS (qR (qM ?_)))))
 refine qe (Zs rfl rfl rfl rfl) ?_
 refine qe eI ?_
 refine qN ?_
 refine Z2 rfl ?_ ?_
 ·intro hc
  have hl : 64 < u.size := by simp at hc; omega
  refine qS (qR ?_)
  refine qe (Z0f rfl rfl rfl) ?_
  refine qe (Z23 (y := .lst []) (Z0q rfl rfl) .z) ?_
  refine Zu 0 (w0 rfl) rfl rfl rfl rfl rfl rfl rfl rfl rfl ?_
  refine qA (qN (qE ?_))
  exact Z0k rfl (Z4 rfl (Z0v 0 rfl rfl rfl (Z01 (Nat.le_of_ble_eq_true rfl)) (Z4 rfl Z3))) (Z13 (splitR u) rfl (by rw [Z8v hl]; rfl))
 ·intro hc
  have hl : ¬ 64 < u.size := by simp at hc; omega
  have hs : small u.size := by unfold small; omega
  refine qK (qS (qS (qR (qM ?_))))
  refine qe (Zs rfl rfl rfl rfl) ?_
  refine qe eI ?_
  refine qM (qFM ?_)
  refine Zb (wF rfl rfl rfl rfl) rfl (fun hg => (Z11 rfl (Za hg rfl) rfl (by (by_cases h : u.size = 0; simp [h] at hg; omega)) (by (by_cases h : u.size = 0; simp [h] at hg; omega)))) ?_
  refine Zb (wF rfl rfl rfl rfl) rfl (fun hg => (Zm rfl (Za hg rfl) rfl rfl)) ?_
  refine qe (Z0h rfl rfl rfl (fun h => by rw [h]; rfl)) ?_
  refine qN ?_
  refine Z2 rfl ?_ ?_
  ·intro hc
   have h0 : u.size = 0 ∨ ¬ byteAt u 0 = 40 := by rcases orT hc with h | h; left; simp only [beq_iff_eq] at h; omega; right; simpa using h
   refine qS (qR ?_)
   refine qe (Z0f rfl rfl rfl) ?_
   refine qe (Z23 (y := .lst []) (Z0q rfl rfl) .z) ?_
   refine Zu 0 (w0 rfl) rfl rfl rfl rfl rfl rfl rfl rfl rfl ?_
   refine qA (qN (qE ?_))
   exact Z0k rfl (Z4 rfl (Z0v 0 rfl rfl rfl (Z01 (Nat.le_of_ble_eq_true rfl)) (Z4 rfl Z3))) (Z13 (splitR u) rfl (by rw [Z8u hl h0]; rfl))
  ·intro hc
   have h0 : ¬ (u.size = 0 ∨ ¬ byteAt u 0 = 40) := by have h := orF hc; intro h2; rcases h2 with h2 | h2; have := h.1; simp [h2] at this; apply h2; have := h.2; simpa using this
   have hz : 0 < u.size := by omega
   refine qK (qS (qR ?_))
   refine Z05 (w0 rfl) rfl (fun id => Z2x id 68 2 (.inl rfl) rfl) (fun id2 => ?_)
   refine qN (qS (qR (qA (qN (qS (qB ?_))))))
   refine Zj (α := Nat × List Ty × Nat) (fun x => ⟨[(6, iA x.2.2), (5, .own x.1 2 0 x.2.1.length), (0, sA u), (3, .ptr id1 2 0 0)], [(x.1, .rows 68 2 (x.2.1.map Ty.cells)), (id1, .rows 68 2 [Ty.cells zTy])], [], 78⟩) (fun x => 1 ≤ x.2.2 ∧ x.2.2 ≤ u.size ∧ x.2.1.length ≤ x.2.2 ∧ par u x.2.2 x.2.1 = par u 1 []) (fun x => u.size - x.2.2) (id2, [], 1) ⟨by simp, by simp; omega, by simp, rfl⟩ ?_ ?_
   ·exact Zi [0, 1] ⟨rfl, rfl, rfl, rfl, trivial⟩ rfl (by decide) rfl rfl
   rintro x hJ
   refine qS (qS (qR (qM (qM ?_))))
   refine qe (Zs rfl rfl rfl rfl) ?_
   refine qe eI ?_
   refine qM (qTM (qTM ?_))
   refine Zb (wT rfl rfl rfl rfl) rfl (fun hg => (Z11 rfl (Za hg rfl) (Za hg rfl) (by (try simp at hg) <;> first | omega | (simp only [List.length_map]; omega) | (simp only [List.length_map, List.length_drop]; omega)) (by (try simp at hg) <;> first | omega | (simp only [List.length_map]; omega) | (simp only [List.length_map, List.length_drop]; omega)))) ?_
   refine Zb (wT rfl rfl rfl rfl) rfl (fun hg => (Zm rfl (Za hg rfl) rfl rfl)) ?_
   refine qe (Zq rfl rfl rfl (fun h => h)) ?_
   refine qN ?_
   refine Z2 rfl ?_ ?_
   ·intro hc
    have hk : x.2.2 < u.size ∧ ¬ byteAt u (x.2.2 : Nat) = 41 := ⟨by have := Z28 hc; simpa using this, by have := Z29 hc; simpa using this⟩
    have ht := hk.1
    refine qK (qB (qS (qR (qM (qM ?_)))))
    refine Z14 (w0 rfl) rfl rfl rfl rfl (Zeu _ x.2.2 hs (by omega)) (fun v3 hv3 => ?_)
    obtain ⟨⟨tk, tc⟩, to, ok⟩ := v3
    refine qM ?_
    refine qe (Zg rfl rfl rfl) ?_
    refine qe (Zg rfl rfl rfl) ?_
    refine qe (Zg rfl rfl rfl) ?_
    refine Z05 (w0 rfl) rfl (fun id => Z08 id rfl rfl rfl) (fun id4 => ?_)
    refine Zu 0 (w0 rfl) rfl rfl rfl rfl rfl rfl rfl rfl rfl ?_
    refine qA (qA (qN (qS (qS (qR (qM ?_))))))
    refine qe (Zx rfl rfl) ?_
    refine qM ?_
    refine Zb (wF rfl rfl rfl rfl) rfl (fun hg => (Z0 rfl rfl rfl)) ?_
    refine Zn 0 (wF rfl rfl rfl rfl) rfl rfl (fun hg => (Za hg rfl)) rfl rfl Z6 ?_
    refine Zb (wF rfl rfl rfl rfl) rfl (fun hg => (Zm rfl (Za hg rfl) rfl rfl)) ?_
    refine qe (Z0h rfl rfl rfl (fun h => by rw [h]; rfl)) ?_
    refine qN ?_
    refine Z2 rfl ?_ ?_
    ·intro hc
     have hb : (nextR u x.2.2).2.2 = false ∨ (nextR u x.2.2).1.kind = 1 := by rw [← hv3]; rcases orT hc with h | h; left; exact Z20 h; right; simpa using h
     have hpn : par u 1 [] = none := by rw [← hJ.2.2.2]; exact Zeg hk hb
     refine qS (qR ?_)
     refine qe (Z0f rfl rfl rfl) ?_
     refine qe (Z23 (y := .lst []) (Z0q rfl rfl) .z) ?_
     refine Zu 2 (w0 rfl) rfl rfl rfl rfl rfl rfl rfl rfl rfl ?_
     refine qA (qN (qE ?_))
     exact Z0k rfl (Z4 rfl (Z0v 2 rfl rfl rfl (Z01 (Nat.le_of_ble_eq_true rfl)) (Z4 rfl Z3))) (Z13 (splitR u) rfl (by rw [Z8x hl h0 hpn]; rfl))
    ·intro hc
     have hb : ¬ ((nextR u x.2.2).2.2 = false ∨ (nextR u x.2.2).1.kind = 1) := by rw [← hv3]; have h := orF hc; intro h2; rcases h2 with h2 | h2; have := Z2s h.1; simp only at h2; rw [h2] at this; cases this; have := h.2; simp at this; exact this h2
     have hnx := Zef (o := x.2.1) hk hb
     have hto := Z6w (s := u) (k := x.2.2) (by cases h : (nextR u x.2.2).2.2 with | true => rfl | false => exact absurd (.inl h) hb)
     rw [← hv3] at hnx hto
     simp only at hnx hto
     refine qK (qS (qR (qM ?_)))
     refine qL 0 (Z01 (Nat.le_of_ble_eq_true rfl)) ?_
     refine Z05 (w0 rfl) rfl (fun id => Z02 id (ps := [(0, .tmp 51)]) rfl rfl rfl rfl rfl rfl rfl rfl) (fun id5 => ?_)
     refine Z21 2 (w0 rfl) rfl rfl rfl rfl (by simp) rfl ⟨rfl, _, _, List.mem_of_getElem? (i := 0) rfl, by simp, rfl⟩ (by first | omega | (simp; omega) | (simp [maxLen]; omega) | (simp; done) | (simp [maxLen]; done)) (by first | omega | (simp; omega) | (simp [maxLen]; omega) | (simp; done) | (simp [maxLen]; done)) (fun id6 => ?_)
     refine qA (qN (qR (qM (qA (qN ?_)))))
     refine ⟨(id6, x.2.1 ++ [⟨tk, tc⟩], to), ⟨by simp only; omega, by simp only; omega, by simp only [List.length_append, List.length_singleton]; omega, by simp only; rw [← hnx]; exact hJ.2.2.2⟩, (by simp only; omega), ?_⟩
     exact Zi [2, 3] ⟨rfl, (by show some (AV.own _ _ _ _) = some (AV.own _ _ _ _); simp), rfl, rfl, trivial⟩ (by show some [(_, AObj.rows _ _ _), _] = some [(_, AObj.rows _ _ _), _]; simp [cellsA, Ty.av, Ty.cells]) (by decide) rfl rfl
   ·intro hc
    have hk : ¬ (x.2.2 < u.size ∧ ¬ byteAt u (x.2.2 : Nat) = 41) := fun h => by simp [h.1, h.2] at hc
    have hpe : par u 1 [] = some (x.2.1, x.2.2) := by rw [← hJ.2.2.2]; exact Zeh hk
    refine qX (qS (qS (qR (qM (qM ?_)))))
    refine qe (Zs rfl rfl rfl rfl) ?_
    refine qe eI ?_
    refine qN ?_
    refine Z2 rfl ?_ ?_
    ·intro hc
     have h4 : u.size ≤ x.2.2 := by simpa using hc
     refine qS (qR ?_)
     refine qe (Z0f rfl rfl rfl) ?_
     refine qe (Z23 (y := .lst []) (Z0q rfl rfl) .z) ?_
     refine Zu 1 (w0 rfl) rfl rfl rfl rfl rfl rfl rfl rfl rfl ?_
     refine qA (qN (qE ?_))
     exact Z0k rfl (Z4 rfl (Z0v 1 rfl rfl rfl (Z01 (Nat.le_of_ble_eq_true rfl)) (Z4 rfl Z3))) (Z13 (splitR u) rfl (by rw [Zai hl h0 hpe h4]; rfl))
    ·intro hc
     have h4 : ¬ u.size ≤ x.2.2 := by simpa using hc
     refine qK (qS (qR (qM (qM ?_))))
     refine qe (Z9 rfl rfl rfl (Zo (by first | omega | (simp only [List.length_map]; omega)))) ?_
     refine qe (Z2y rfl rfl rfl (by first | omega | (simp only [List.length_map]; omega) | (simp only [List.length_map, List.length_drop]; omega)) (by first | omega | (simp only [List.length_map]; omega) | (simp only [List.length_map, List.length_drop]; omega))) ?_
     refine Z14 (w0 rfl) rfl rfl rfl rfl (Zb8 _ (by have := Za8 u ((x.2.2 : Int) + 1).toNat u.size; unfold small; omega)) (fun v7 hv7 => ?_)
     obtain ⟨⟨rk, rc⟩, er⟩ := v7
     have hpr : ((⟨rk, rc⟩, er) : Ty × Int) = parseR (u.extract (x.2.2 + 1) u.size) := hv7
     refine qM ?_
     refine qe (Zg rfl rfl rfl) ?_
     refine qe (Zg rfl rfl rfl) ?_
     refine Z05 (w0 rfl) rfl (fun id => Z08 id rfl rfl rfl) (fun id8 => ?_)
     refine Zu 0 (w0 rfl) rfl rfl rfl rfl rfl rfl rfl rfl rfl ?_
     refine qA (qN (qS (qS (qR (qM ?_)))))
     refine qe eI ?_
     refine qN ?_
     refine Z2 rfl ?_ ?_
     ·intro hc
      have h5 : ¬ er = 0 := by simpa using hc
      refine qS (qR ?_)
      refine qe (Z0f rfl rfl rfl) ?_
      refine qM ?_
      refine qe (Z23 (y := .lst []) (Z0q rfl rfl) .z) ?_
      refine Zu 2 (w0 rfl) rfl rfl rfl rfl rfl rfl rfl rfl rfl ?_
      refine qA (qN (qE ?_))
      exact Z0k rfl (Z4 rfl (Z0v 2 rfl rfl rfl (Z01 (Nat.le_of_ble_eq_true rfl)) (Z4 rfl Z3))) (Z13 (splitR u) rfl (by rw [Zaj hl h0 hpe h4 hpr h5]; rfl))
     ·intro hc
      have h5 : er = 0 := by simpa using hc
      refine qK (qS (qS (qR (qM ?_))))
      refine qe (Zs rfl rfl rfl rfl) ?_
      refine qe eI ?_
      refine qN ?_
      refine Z2 rfl ?_ ?_
      ·intro hc
       have h6 : 8 < x.2.1.length := by simp at hc; omega
       refine qS (qR ?_)
       refine qe (Z0f rfl rfl rfl) ?_
       refine qe (Z23 (y := .lst []) (Z0q rfl rfl) .z) ?_
       refine Zu 2 (w0 rfl) rfl rfl rfl rfl rfl rfl rfl rfl rfl ?_
       refine qA (qN (qE ?_))
       exact Z0k rfl (Z4 rfl (Z0v 2 rfl rfl rfl (Z01 (Nat.le_of_ble_eq_true rfl)) (Z4 rfl Z3))) (Z13 (splitR u) rfl (by rw [Z8w hl h0 hpe h4 hpr h5 h6]; rfl))
      ·intro hc
       have h6 : ¬ 8 < x.2.1.length := by simp at hc; omega
       refine qK (qS ?_)
       refine Z1g (Z9r 1 5 (T' := [(3, .ptr _ _ _ _), (10, .ptr _ _ _ _), (11, _)]) rfl rfl (by simp) ⟨rfl, rfl, rfl, trivial⟩) ?_
       refine Z0o 3 rfl (by kernel_rfl) ?_
       refine cM2 ?_
       refine Z8 0 (w0 rfl) rfl rfl rfl rfl rfl (Z01 (Nat.le_of_ble_eq_true rfl)) ?_
       refine ce (Z0q rfl rfl) ?_
       refine .done ?_
       refine Zu 1 (w0 rfl) rfl rfl rfl rfl rfl rfl rfl rfl rfl ?_
       refine qA (qN (qE ?_))
       exact Z0k rfl (Z4 rfl (Z0v 1 rfl rfl rfl (Z01 (Nat.le_of_ble_eq_true rfl)) (Z4 rfl Z3))) (Z13 (splitR u) rfl (by rw [Zcj hl h0 hpe h4 hpr h5 h6]; rfl))
end Go.Sx
namespace Go.Sx
open Go Go.Proofs
theorem Zfg (x : Instr) (u : Str) (hs : small u.size) : ACalls Tryz.prog 169 [.agg x.cells, sA u] [] (Gives (bA (emptyI x u))) := by
 refine Zd (n := 102) Tryz.func169 rfl (by decide +kernel) rfl rfl ?_
 refine qS (qR ?_)
 refine Z05 (w0 rfl) rfl (fun id => Z0c id rfl rfl rfl rfl rfl) (fun id1 => ?_)
 refine qA (qN (qS (qR (qM ?_))))
 refine qe (Z7 [] rfl rfl rfl (Z2k _ _ hs) List.nodup_nil) ?_
 refine qM (qFM ?_)
 refine Zb (wF rfl rfl rfl rfl) rfl (fun hg => (Z7 [] rfl rfl (Ze (Za hg rfl) (Ze rfl Z04)) (Z2k _ _ hs) List.nodup_nil)) ?_
 refine qe (Z0h rfl rfl rfl (fun h => by rw [h]; rfl)) ?_
 refine qM (qFM ?_)
 refine Zb (wF rfl rfl rfl rfl) rfl (fun hg => (Z7 [] rfl rfl (Ze (Za hg rfl) (Ze rfl Z04)) (Z2k _ _ hs) List.nodup_nil)) ?_
 refine qe (Z0h rfl rfl rfl (fun h => by rw [h]; rfl)) ?_
 refine qA (qN (qS (qR (qM ?_))))
 refine qe (Z7 [] rfl rfl rfl (Z2k _ _ hs) List.nodup_nil) ?_
 refine qM (qFM ?_)
 refine Zb (wF rfl rfl rfl rfl) rfl (fun hg => (Z7 [] rfl rfl (Ze (Za hg rfl) (Ze rfl Z04)) (Z2k _ _ hs) List.nodup_nil)) ?_
 refine qe (Z0h rfl rfl rfl (fun h => by rw [h]; rfl)) ?_
 refine qA (qN (qS (qR (qM ?_))))
 refine qe (Z7 [] rfl rfl rfl (Z2k _ _ hs) List.nodup_nil) ?_
 refine qM (qFM ?_)
 refine Zb (wF rfl rfl rfl rfl) rfl (fun hg => (Z7 [] rfl rfl (Ze (Za hg rfl) (Ze rfl Z04)) (Z2k _ _ hs) List.nodup_nil)) ?_
 refine qe (Z0h rfl rfl rfl (fun h => by rw [h]; rfl)) ?_
 refine qM (qFM ?_)
 refine Zb (wF rfl rfl rfl rfl) rfl (fun hg => (Z7 [] rfl rfl (Ze (Za hg rfl) (Ze rfl Z04)) (Z2k _ _ hs) List.nodup_nil)) ?_
 refine qe (Z0h rfl rfl rfl (fun h => by rw [h]; rfl)) ?_
 refine qA (qN (qS (qR (qM ?_))))
 refine qe (Z7 [] rfl rfl rfl (Z2k _ _ hs) List.nodup_nil) ?_
 refine qM ?_
 refine Zb (wF rfl rfl rfl rfl) rfl (fun hg => (Z0 rfl rfl rfl)) ?_
 refine Zn 0 (wF rfl rfl rfl rfl) rfl rfl (fun hg => (Za hg rfl)) rfl rfl Z6 ?_
 refine Zb (wF rfl rfl rfl rfl) rfl (fun hg => (Zm rfl (Za hg rfl) rfl rfl)) ?_
 refine qe (Z0h rfl rfl rfl (fun h => by rw [h]; rfl)) ?_
 refine qM (qTM ?_)
 refine Zb (wT rfl rfl rfl rfl) rfl (fun hg => (Z7 [] rfl rfl (Ze (Za hg rfl) (Ze rfl Z04)) (Z2k _ _ hs) List.nodup_nil)) ?_
 refine Zb (wT rfl rfl rfl rfl) rfl (fun hg => (Z00 rfl (Za hg rfl))) ?_
 refine Zb (wFg rfl rfl rfl rfl) rfl (fun hg => (Z0 rfl rfl rfl)) ?_
 refine Zn 0 (wFg rfl rfl rfl rfl) rfl rfl (fun hg => (Za hg rfl)) rfl rfl Z6 ?_
 refine Zb (wFg rfl rfl rfl rfl) rfl (fun hg => (Zm rfl (Za hg rfl) rfl rfl)) ?_
 refine Zb (wT rfl rfl rfl rfl) rfl (fun hg => (Z0h rfl (Za hg rfl) rfl (fun h => by first | (simp [h, hg]; done) | (rw [hg, h]; rfl) | (simp_all; done)))) ?_
 refine qe (Zq rfl rfl rfl (fun h => h)) ?_
 refine qM (qTM ?_)
 refine Zb (wT rfl rfl rfl rfl) rfl (fun hg => (Z7 [] rfl rfl (Ze (Za hg rfl) (Ze rfl Z04)) (Z2k _ _ hs) List.nodup_nil)) ?_
 refine Zb (wT rfl rfl rfl rfl) rfl (fun hg => (Z00 rfl (Za hg rfl))) ?_
 refine Zb (wFg rfl rfl rfl rfl) rfl (fun hg => (Z0 rfl rfl rfl)) ?_
 refine Zn 0 (wFg rfl rfl rfl rfl) rfl rfl (fun hg => (Za hg rfl)) rfl rfl Z6 ?_
 refine Zb (wFg rfl rfl rfl rfl) rfl (fun hg => (Zm rfl (Za hg rfl) rfl rfl)) ?_
 refine Zb (wT rfl rfl rfl rfl) rfl (fun hg => (Z0h rfl (Za hg rfl) rfl (fun h => by first | (simp [h, hg]; done) | (rw [hg, h]; rfl) | (simp_all; done)))) ?_
 refine qe (Zq rfl rfl rfl (fun h => h)) ?_
 refine qM (qTM ?_)
 refine Zb (wT rfl rfl rfl rfl) rfl (fun hg => (Z00 rfl (Za hg rfl))) ?_
 refine Zb (wFg rfl rfl rfl rfl) rfl (fun hg => (Z0 rfl rfl rfl)) ?_
 refine Zn 0 (wFg rfl rfl rfl rfl) rfl rfl (fun hg => (Za hg rfl)) rfl rfl Z6 ?_
 refine Zb (wFg rfl rfl rfl rfl) rfl (fun hg => (Zm rfl (Za hg rfl) rfl rfl)) ?_
 refine Zb (wT rfl rfl rfl rfl) rfl (fun hg => (Z0h rfl (Za hg rfl) rfl (fun h => by first | (simp [h, hg]; done) | (rw [hg, h]; rfl) | (simp_all; done)))) ?_
 refine qe (Zq rfl rfl rfl (fun h => h)) ?_
 refine qM (qTM ?_)
 refine Zb (wT rfl rfl rfl rfl) rfl (fun hg => (Z00 rfl (Za hg rfl))) ?_
 refine Zb (wFg rfl rfl rfl rfl) rfl (fun hg => (Z0 rfl rfl rfl)) ?_
 refine Zn 0 (wFg rfl rfl rfl rfl) rfl rfl (fun hg => (Za hg rfl)) rfl rfl Z6 ?_
 refine Zb (wFg rfl rfl rfl rfl) rfl (fun hg => (Z0l rfl (Za hg rfl) rfl rfl)) ?_
 refine Zb (wT rfl rfl rfl rfl) rfl (fun hg => (Z0h rfl (Za hg rfl) rfl (fun h => by first | (simp [h, hg]; done) | (rw [hg, h]; rfl) | (simp_all; done)))) ?_
 refine qe (Zq rfl rfl rfl (fun h => h)) ?_
 refine qM (qTM ?_)
 refine Zb (wT rfl rfl rfl rfl) rfl (fun hg => (Z00 rfl (Za hg rfl))) ?_
 refine Zb (wFg rfl rfl rfl rfl) rfl (fun hg => (Z0 rfl rfl rfl)) ?_
 refine Zn 0 (wFg rfl rfl rfl rfl) rfl rfl (fun hg => (Za hg rfl)) rfl rfl Z6 ?_
 refine Zb (wFg rfl rfl rfl rfl) rfl (fun hg => (Z0l rfl (Za hg rfl) rfl rfl)) ?_
 refine Zb (wT rfl rfl rfl rfl) rfl (fun hg => (Z0h rfl (Za hg rfl) rfl (fun h => by first | (simp [h, hg]; done) | (rw [hg, h]; rfl) | (simp_all; done)))) ?_
 refine qe (Zq rfl rfl rfl (fun h => h)) ?_
 refine qM (qTM ?_)
 refine Zb (wT rfl rfl rfl rfl) rfl (fun hg => (Z7 [] rfl rfl (Ze (Za hg rfl) (Ze rfl Z04)) (Z2k _ _ hs) List.nodup_nil)) ?_
 refine Zb (wT rfl rfl rfl rfl) rfl (fun hg => (Z00 rfl (Za hg rfl))) ?_
 refine Zb (wFg rfl rfl rfl rfl) rfl (fun hg => (Z0 rfl rfl rfl)) ?_
 refine Zn 0 (wFg rfl rfl rfl rfl) rfl rfl (fun hg => (Za hg rfl)) rfl rfl Z6 ?_
 refine Zb (wFg rfl rfl rfl rfl) rfl (fun hg => (Z0l rfl (Za hg rfl) rfl rfl)) ?_
 refine Zb (wT rfl rfl rfl rfl) rfl (fun hg => (Z0h rfl (Za hg rfl) rfl (fun h => by first | (simp [h, hg]; done) | (rw [hg, h]; rfl) | (simp_all; done)))) ?_
 refine qe (Zq rfl rfl rfl (fun h => h)) ?_
 refine qM (qTM ?_)
 refine Zb (wT rfl rfl rfl rfl) rfl (fun hg => (Z7 [] rfl rfl (Ze (Za hg rfl) (Ze rfl Z04)) (Z2k _ _ hs) List.nodup_nil)) ?_
 refine Zb (wT rfl rfl rfl rfl) rfl (fun hg => (Z00 rfl (Za hg rfl))) ?_
 refine Zb (wFg rfl rfl rfl rfl) rfl (fun hg => (Z0 rfl rfl rfl)) ?_
 refine Zn 0 (wFg rfl rfl rfl rfl) rfl rfl (fun hg => (Za hg rfl)) rfl rfl Z6 ?_
 refine Zb (wFg rfl rfl rfl rfl) rfl (fun hg => (Zs rfl (Za hg rfl) rfl rfl)) ?_
 refine Zb (wFg rfl rfl rfl rfl) rfl (fun hg => (Zm rfl (Za hg rfl) rfl rfl)) ?_
 refine Zb (wT rfl rfl rfl rfl) rfl (fun hg => (Z0h rfl (Za hg rfl) rfl (fun h => by first | (simp [h, hg]; done) | (rw [hg, h]; rfl) | (simp_all; done)))) ?_
 refine qe (Zq rfl rfl rfl (fun h => h)) ?_
 refine qA (qN (qE ?_))
 exact Z0k rfl (Z4 rfl Z3) (gb (by rw [List.length_map]; rfl))
theorem Zfv (x : Instr) (u : Str) (hs : small u.size) : ACalls Tryz.prog 170 [.agg x.cells, sA u] [] (Gives (bA (namedI x u))) := by
 refine Zd (n := 50) Tryz.func170 rfl (by decide +kernel) rfl rfl ?_
 refine qS (qR ?_)
 refine Z05 (w0 rfl) rfl (fun id => Z0c id rfl rfl rfl rfl rfl) (fun id1 => ?_)
 refine qA (qN (qS (qS (qR (qM ?_)))))
 refine qe (Z7 [] rfl rfl rfl (Z2k _ _ hs) List.nodup_nil) ?_
 refine qM (qFM ?_)
 refine Zb (wF rfl rfl rfl rfl) rfl (fun hg => (Z7 [] rfl rfl (Ze (Za hg rfl) (Ze rfl Z04)) (Z2k _ _ hs) List.nodup_nil)) ?_
 refine qe (Z0h rfl rfl rfl (fun h => by rw [h]; rfl)) ?_
 refine qM (qFM ?_)
 refine Zb (wF rfl rfl rfl rfl) rfl (fun hg => (Z7 [] rfl rfl (Ze (Za hg rfl) (Ze rfl Z04)) (Z2k _ _ hs) List.nodup_nil)) ?_
 refine qe (Z0h rfl rfl rfl (fun h => by rw [h]; rfl)) ?_
 refine qM ?_
 refine Zb (wT rfl rfl rfl rfl) rfl (fun hg => (Z0 rfl rfl rfl)) ?_
 refine Zn 0 (wT rfl rfl rfl rfl) rfl rfl (fun hg => (Za hg rfl)) rfl rfl Z6 ?_
 refine Zb (wT rfl rfl rfl rfl) rfl (fun hg => (Z7 [] rfl rfl (Ze (Za hg rfl) Z04) (Z34 _) List.nodup_nil)) ?_
 refine Zb (wT rfl rfl rfl rfl) rfl (fun hg => (Zx rfl (Za hg rfl))) ?_
 refine qe (Zq rfl rfl rfl (fun h => h)) ?_
 refine qN ?_
 refine Z2 rfl ?_ ?_
 ·intro hc
  have t1 : (hCls u && !clsW x.cls) = true := hc
  refine qS (qR (qA (qN (qE ?_))))
  exact Z0k rfl (Z4 rfl Z3) (gb (by unfold namedI; rw [t1]; rfl))
 ·intro hc
  have t1 : (hCls u && !clsW x.cls) = false := hc
  refine qK (qS (qS (qR (qM ?_))))
  refine qe (Z7 [] rfl rfl rfl (Z2k _ _ hs) List.nodup_nil) ?_
  refine qM (qFM ?_)
  refine Zb (wF rfl rfl rfl rfl) rfl (fun hg => (Z7 [] rfl rfl (Ze (Za hg rfl) (Ze rfl Z04)) (Z2k _ _ hs) List.nodup_nil)) ?_
  refine qe (Z0h rfl rfl rfl (fun h => by rw [h]; rfl)) ?_
  refine qM ?_
  refine Zb (wT rfl rfl rfl rfl) rfl (fun hg => (Z0 rfl rfl rfl)) ?_
  refine Zn 0 (wT rfl rfl rfl rfl) rfl rfl (fun hg => (Za hg rfl)) rfl rfl Z6 ?_
  refine Zb (wT rfl rfl rfl rfl) rfl (fun hg => (Z7 [] rfl rfl (Ze (Za hg rfl) Z04) (Z5g _) List.nodup_nil)) ?_
  refine Zb (wT rfl rfl rfl rfl) rfl (fun hg => (Zx rfl (Za hg rfl))) ?_
  refine qe (Zq rfl rfl rfl (fun h => h)) ?_
  refine qN ?_
  refine Z2 rfl ?_ ?_
  ·intro hc
   have t2 : (hNam u && !nameW x.name) = true := hc
   refine qS (qR (qA (qN (qE ?_))))
   exact Z0k rfl (Z4 rfl Z3) (gb (by unfold namedI; rw [t1, t2]; rfl))
  ·intro hc
   have t2 : (hNam u && !nameW x.name) = false := hc
   refine qK (qS (qR ?_))
   refine qe (Z0 rfl rfl rfl) ?_
   refine qL 0 Z6 ?_
   refine Z14 (w0 rfl) rfl rfl rfl rfl (Z8d _) (fun v2 hv2 => ?_)
   obtain ⟨ps, ⟨tk, tc⟩, er⟩ := v2
   have hsp := hv2
   have hps : ps.length ≤ 8 := Z5u hv2
   refine qM ?_
   refine qe (Zg rfl rfl rfl) ?_
   refine qe (Zg rfl rfl rfl) ?_
   refine qe (Zg rfl rfl rfl) ?_
   refine Z05 (w0 rfl) rfl (fun id => Z08 id rfl rfl rfl) (fun id3 => ?_)
   refine qA ?_
   refine Zu 0 (w0 rfl) rfl rfl rfl rfl rfl rfl rfl rfl rfl ?_
   refine qA (qN (qS (qR (qM ?_))))
   refine qe (Z7 [] rfl rfl rfl (Z2k _ _ hs) List.nodup_nil) ?_
   refine qe (Zx rfl rfl) ?_
   refine qM (qFM ?_)
   refine Zb (wF rfl rfl rfl rfl) rfl (fun hg => (Zm rfl (Za hg rfl) rfl rfl)) ?_
   refine qe (Z0h rfl rfl rfl (fun h => by rw [h]; rfl)) ?_
   refine qA (qN (qE ?_))
   exact Z0k rfl (Z4 rfl Z3) (gb (by unfold namedI; rw [t1, t2, ← hsp]; rfl))
theorem Zgv (x : Instr) (hx : x.ok) (n m : Int) : ACalls Tryz.prog 130 [.agg x.cells, iA n, iA m] [] (Gives (iA (fitsI x n m))) := by
 have ha := hx.args.1
 simp only [small] at ha
 refine Zd (n := 143) Tryz.func130 rfl (by decide +kernel) rfl rfl ?_
 refine qS (qR ?_)
 refine Z05 (w0 rfl) rfl (fun id => Z0c id rfl rfl rfl rfl rfl) (fun id1 => ?_)
 refine qA (qN (qS (qR ?_)))
 refine qe (Z0 rfl rfl rfl) ?_
 refine qL 0 Z6 ?_
 refine Z14 (w0 rfl) rfl rfl rfl rfl (Zfx _) (fun v2 hv2 => ?_)
 have hs : small v2.size := (by rw [hv2]; have := Zem x.op; unfold small; omega)
 have hsh : v2 = shapeS x.op := hv2
 refine qA (qN (qS (qS (qR ?_))))
 refine qe (Z0 rfl rfl rfl) ?_
 refine qL 0 Z6 ?_
 refine qe eI ?_
 refine qM ?_
 refine Zb (wF rfl rfl rfl rfl) rfl (fun hg => (Z0 rfl rfl rfl)) ?_
 refine Zn 0 (wF rfl rfl rfl rfl) rfl rfl (fun hg => (Za hg rfl)) rfl rfl Z6 ?_
 refine Zb (wF rfl rfl rfl rfl) rfl (fun hg => (Zm rfl (Za hg rfl) rfl rfl)) ?_
 refine qe (Z0h rfl rfl rfl (fun h => by rw [h]; rfl)) ?_
 refine qM ?_
 refine Zn 0 (wF rfl rfl rfl rfl) rfl rfl (fun hg => rfl) rfl rfl (Z01 (Nat.le_of_ble_eq_true rfl)) ?_
 refine qFM ?_
 refine Zb (wF rfl rfl rfl rfl) rfl (fun hg => (Z7 [] rfl rfl (Ze (Za hg rfl) (Ze (Za hg rfl) Z04)) (Zfg _ _ hs) List.nodup_nil)) ?_
 refine Zb (wF rfl rfl rfl rfl) rfl (fun hg => (Zx rfl (Za hg rfl))) ?_
 refine qe (Z0h rfl rfl rfl (fun h => by rw [h]; rfl)) ?_
 refine qM ?_
 refine Zn 0 (wF rfl rfl rfl rfl) rfl rfl (fun hg => rfl) rfl rfl (Z01 (Nat.le_of_ble_eq_true rfl)) ?_
 refine qFM ?_
 refine Zb (wF rfl rfl rfl rfl) rfl (fun hg => (Z7 [] rfl rfl (Ze (Za hg rfl) (Ze (Za hg rfl) Z04)) (Zfv _ _ hs) List.nodup_nil)) ?_
 refine Zb (wF rfl rfl rfl rfl) rfl (fun hg => (Zx rfl (Za hg rfl))) ?_
 refine qe (Z0h rfl rfl rfl (fun h => by rw [h]; rfl)) ?_
 refine qN ?_
 refine Z2 rfl ?_ ?_
 ·intro hc
  have t2 : (((decide (x.op < 1) || decide (x.op > 32)) || !emptyI x v2) || !namedI x v2) = true := hc
  refine qS (qR (qA (qN (qE ?_))))
  exact Z0k rfl (Z4 rfl Z3) (gi (by unfold fitsI; rw [← hsh, if_pos t2]))
 ·intro hc
  have t2 : (((decide (x.op < 1) || decide (x.op > 32)) || !emptyI x v2) || !namedI x v2) = false := hc
  refine qK (qS (qR (qA (qN ?_))))
  refine Z3q (α := Unit) (fun zu => ⟨[(3, .ptr id1 9 0 0), (1, iA n), (2, iA m), (7, sA v2), (8, bA (voidI x))], [(id1, .rows 60 9 [x.cells])], [], 143⟩) (fun zu => (isCallO x.op && !((x.args.length : Int) == argsN x)) = false) ?_ ?_
  ·skip
   refine qS (qR ?_)
   refine qe (Z0 rfl rfl rfl) ?_
   refine qL 0 Z6 ?_
   refine qe (Z7 [] rfl rfl rfl (Zdo _) List.nodup_nil) ?_
   refine qN ?_
   refine Z2 rfl ?_ ?_
   ·intro hc
    have t5 : isCallO x.op = true := hc
    refine qS (qR ?_)
    refine qe (Z0 rfl rfl rfl) ?_
    refine qL 0 Z6 ?_
    refine Z14 (w0 rfl) rfl rfl rfl rfl (Z8d _) (fun v3 hv3 => ?_)
    obtain ⟨ps, ⟨tk, tc⟩, er⟩ := v3
    have hsp := hv3
    have hps : ps.length ≤ 8 := Z5u hv3
    refine qM ?_
    refine qe (Zg rfl rfl rfl) ?_
    refine qe (Zg rfl rfl rfl) ?_
    refine qe (Zg rfl rfl rfl) ?_
    refine Z05 (w0 rfl) rfl (fun id => Z08 id rfl rfl rfl) (fun id4 => ?_)
    refine qA ?_
    refine Zu 0 (w0 rfl) rfl rfl rfl rfl rfl rfl rfl rfl rfl ?_
    refine qA (qN (qS (qR (qM ?_))))
    refine qe (Zs rfl rfl rfl rfl) ?_
    refine qA (qN ?_)
    refine Z3q (α := Unit) (fun zu => ⟨[(3, .ptr id1 9 0 0), (1, iA n), (2, iA m), (7, sA v2), (10, .ptr id4 2 0 0), (12, iA (argsN x))], [(id4, .rows 68 2 [[iA tk, sA tc]]), (id1, .rows 60 9 [x.cells])], [], 143⟩) (fun zu => True) ?_ ?_
    ·skip
     refine qS (qR ?_)
     refine qe (Z0 rfl rfl rfl) ?_
     refine qL 1 Z6 ?_
     refine qe eI ?_
     refine qN ?_
     refine Z2 rfl ?_ ?_
     ·intro hc
      have t8 : (x.op != 19) = true := hc
      refine qR (qM ?_)
      refine qe (Z9 rfl rfl rfl (Zo (by first | omega | (simp only [List.length_map]; omega)))) ?_
      refine qA (qN ?_)
      refine ⟨(), trivial, ?_⟩
      exact qp [0, 1] ⟨rfl, rfl, rfl, rfl, rfl, (congrArg (fun b => some (iA b)) (by unfold argsN; rw [if_pos (by simpa using t8), ← hsp]; simp)), trivial⟩
     ·intro hc
      have t8 : (x.op != 19) = false := hc
      refine qK ?_
      refine ⟨(), trivial, ?_⟩
      exact qp [0, 1] ⟨rfl, rfl, rfl, rfl, rfl, (congrArg (fun b => some (iA b)) (by unfold argsN; rw [if_neg (by simpa using t8), ← hsp]; simp)), trivial⟩
    ·rintro ⟨⟩ _
     refine qS (qS (qR ?_))
     refine qe (Z0 rfl rfl rfl) ?_
     refine qL 1 Z6 ?_
     refine qe (Zs rfl rfl rfl rfl) ?_
     refine qM ?_
     refine qe eI ?_
     refine qN ?_
     refine Z2 rfl ?_ ?_
     ·intro hc
      have t10 : (!((x.args.length : Int) == argsN x)) = true := by have h := hc; rw [List.length_map] at h; exact h
      refine qS (qR (qA (qN (qE ?_))))
      exact Z0k rfl (Z4 rfl Z3) (gi (by unfold fitsI; rw [← hsh, if_neg (by rw [t2]; simp), if_pos (by rw [t5, Bool.true_and]; exact t10)]))
     ·intro hc
      have t10 : (!((x.args.length : Int) == argsN x)) = false := by have h := hc; rw [List.length_map] at h; exact h
      refine qK (qR ?_)
      refine qe (Z0 rfl rfl rfl) ?_
      refine qL 0 Z6 ?_
      refine qe eI ?_
      refine qA (qN ?_)
      refine ⟨(), (by rw [t5, Bool.true_and, t10]), ?_⟩
      exact qp [1] ⟨rfl, rfl, rfl, rfl, (congrArg (fun b => some (bA b)) (by unfold voidI; rw [t5, ← hsp]; rfl)), trivial⟩
   ·intro hc
    have t5 : isCallO x.op = false := hc
    refine qK ?_
    refine ⟨(), (by rw [t5]; rfl), ?_⟩
    exact qp [0] ⟨rfl, rfl, rfl, rfl, (congrArg (fun b => some (bA b)) (by unfold voidI; rw [t5]; rfl)), trivial⟩
  ·rintro ⟨⟩ hJ5
   refine qS (qS (qR (qM ?_)))
   refine qe (Z7 [] rfl rfl rfl (Z2k _ _ hs) List.nodup_nil) ?_
   refine qM ?_
   refine Zb (wT rfl rfl rfl rfl) rfl (fun hg => (Z0 rfl rfl rfl)) ?_
   refine Zn 0 (wT rfl rfl rfl rfl) rfl rfl (fun hg => (Za hg rfl)) rfl rfl Z6 ?_
   refine qTM ?_
   refine Zb (wT rfl rfl rfl rfl) rfl (fun hg => (Z7 [] rfl rfl (Ze (Za hg rfl) (Ze (Za hg rfl) Z04)) (Zdu _ _) List.nodup_nil)) ?_
   refine Zb (wT rfl rfl rfl rfl) rfl (fun hg => (Zx rfl (Za hg rfl))) ?_
   refine qe (Zq rfl rfl rfl (fun h => h)) ?_
   refine qM (qFM ?_)
   refine Zb (wF rfl rfl rfl rfl) rfl (fun hg => (Z7 [] rfl rfl (Ze (Za hg rfl) (Ze rfl Z04)) (Z2k _ _ hs) List.nodup_nil)) ?_
   refine Zb (wF rfl rfl rfl rfl) rfl (fun hg => (Z00 rfl (Za hg rfl))) ?_
   refine Zb (wTg rfl rfl rfl rfl) rfl (fun hg => (Z0 rfl rfl rfl)) ?_
   refine Zn 0 (wTg rfl rfl rfl rfl) rfl rfl (fun hg => (Za hg rfl)) rfl rfl Z6 ?_
   refine Zb (wTg rfl rfl rfl rfl) rfl (fun hg => (Z00 rfl rfl)) ?_
   refine Zb (wTg rfl rfl rfl rfl) rfl (fun hg => (Z7 [] rfl rfl (Ze (Za hg rfl) (Ze (Za hg rfl) Z04)) (Zdu _ _) List.nodup_nil)) ?_
   refine Zb (wTg rfl rfl rfl rfl) rfl (fun hg => (Zx rfl (Za hg rfl))) ?_
   refine Zb (wF rfl rfl rfl rfl) rfl (fun hg => (Zq rfl (Za hg rfl) rfl (fun h => by first | (simp [h, hg]; done) | (rw [hg, h]; rfl) | (simp_all; done)))) ?_
   refine qe (Z0h rfl rfl rfl (fun h => by rw [h]; rfl)) ?_
   refine qM (qFM ?_)
   refine Zb (wF rfl rfl rfl rfl) rfl (fun hg => (Z7 [] rfl rfl (Ze (Za hg rfl) (Ze rfl Z04)) (Z2k _ _ hs) List.nodup_nil)) ?_
   refine Zb (wF rfl rfl rfl rfl) rfl (fun hg => (Z00 rfl (Za hg rfl))) ?_
   refine Zb (wTg rfl rfl rfl rfl) rfl (fun hg => (Z0 rfl rfl rfl)) ?_
   refine Zn 0 (wTg rfl rfl rfl rfl) rfl rfl (fun hg => (Za hg rfl)) rfl rfl Z6 ?_
   refine Zb (wTg rfl rfl rfl rfl) rfl (fun hg => (Z00 rfl rfl)) ?_
   refine Zb (wTg rfl rfl rfl rfl) rfl (fun hg => (Z7 [] rfl rfl (Ze (Za hg rfl) (Ze (Za hg rfl) Z04)) (Zdu _ _) List.nodup_nil)) ?_
   refine Zb (wTg rfl rfl rfl rfl) rfl (fun hg => (Zx rfl (Za hg rfl))) ?_
   refine Zb (wF rfl rfl rfl rfl) rfl (fun hg => (Zq rfl (Za hg rfl) rfl (fun h => by first | (simp [h, hg]; done) | (rw [hg, h]; rfl) | (simp_all; done)))) ?_
   refine qe (Z0h rfl rfl rfl (fun h => by rw [h]; rfl)) ?_
   refine qM (qFM ?_)
   refine Zb (wF rfl rfl rfl rfl) rfl (fun hg => (Z00 rfl (Za hg rfl))) ?_
   refine Zb (wTg rfl rfl rfl rfl) rfl (fun hg => (Z0 rfl rfl rfl)) ?_
   refine Zn 0 (wTg rfl rfl rfl rfl) rfl rfl (fun hg => (Za hg rfl)) rfl rfl Z6 ?_
   refine Zb (wTg rfl rfl rfl rfl) rfl (fun hg => (Zm rfl (Za hg rfl) rfl rfl)) ?_
   refine Zb (wF rfl rfl rfl rfl) rfl (fun hg => (Zq rfl (Za hg rfl) rfl (fun h => by first | (simp [h, hg]; done) | (rw [hg, h]; rfl) | (simp_all; done)))) ?_
   refine qe (Z0h rfl rfl rfl (fun h => by rw [h]; rfl)) ?_
   refine qN ?_
   refine Z2 rfl ?_ ?_
   ·intro hc
    have t13 : ((((hasL v2 97 && !wthI x.a n) || (hasL v2 98 && !wthI x.b n)) || (hasL v2 99 && !wthI x.c n)) || (voidI x && !(x.a == 0))) = true := hc
    refine qS (qR (qA (qN (qE ?_))))
    exact Z0k rfl (Z4 rfl Z3) (gi (by unfold fitsI; rw [← hsh, if_neg (by rw [t2]; simp), if_neg (by rw [hJ5]; simp), if_pos t13]))
   ·intro hc
    have t13 : ((((hasL v2 97 && !wthI x.a n) || (hasL v2 98 && !wthI x.b n)) || (hasL v2 99 && !wthI x.c n)) || (voidI x && !(x.a == 0))) = false := hc
    refine qK (qS (qS (qR (qA (qN (qB ?_))))))
    refine Zj (α := Nat) (fun i => ⟨[(13, iA i), (3, .ptr id1 9 0 0), (1, iA n), (2, iA m), (7, sA v2)], [(id1, .rows 60 9 [x.cells])], [], 143⟩) (fun i => (x.args.drop i).any (fun a => !wthI a n) = x.args.any (fun a => !wthI a n)) (fun i => x.args.length - i) 0 rfl ?_ ?_
    ·exact Zi [0] ⟨rfl, rfl, rfl, rfl, rfl, trivial⟩ rfl (by decide) rfl rfl
    rintro i hJ
    refine qS (qS (qR (qM ?_)))
    refine qe (Z0 rfl rfl rfl) ?_
    refine qL 0 Z6 ?_
    refine qe (Zs rfl rfl rfl rfl) ?_
    refine qe eI ?_
    refine qN ?_
    refine Z2 rfl ?_ ?_
    ·intro hc
     have hi : i < x.args.length := by simpa using hc
     refine qK (qS (qB (qS (qR ?_))))
     refine qe (Z0 rfl rfl rfl) ?_
     refine qL 0 Z6 ?_
     refine qM ?_
     refine qe (Zf rfl rfl rfl (Z0a (fun _ => rfl)) (by first | omega | (simp only [List.length_map]; omega) | (simp only [List.length_map, List.length_drop]; omega)) (by first | omega | (simp only [List.length_map]; omega) | (simp only [List.length_map, List.length_drop]; omega))) ?_
     refine qe (Z03 rfl rfl (Z0e (by first | assumption | omega | (simp only [List.length_drop]; omega))) Z6) ?_
     refine qM ?_
     refine qe (Z7 [] rfl rfl rfl (Zdu _ _) List.nodup_nil) ?_
     refine qe (Zx rfl rfl) ?_
     refine qN ?_
     refine Z2 rfl ?_ ?_
     ·intro hc
      have hq : (fun a => !wthI a n) x.args[i] = true := hc
      have t16 : x.args.any (fun a => !wthI a n) = true := Z1x hJ hi hq
      refine qS (qR (qA (qN (qE ?_))))
      exact Z0k rfl (Z4 rfl Z3) (gi (by unfold fitsI; rw [← hsh, if_neg (by rw [t2]; simp), if_neg (by rw [hJ5]; simp), if_neg (by rw [t13]; simp), if_pos t16]))
     ·intro hc
      have hq : (fun a => !wthI a n) x.args[i] = false := hc
      refine qK (qR (qM ?_))
      refine qe (Z9 rfl rfl rfl (Zo (by first | omega | (simp only [List.length_map]; omega)))) ?_
      refine qA (qN ?_)
      refine ⟨i + 1, (Z1v hJ hi hq), (by omega), ?_⟩
      exact qp [0] ⟨rfl, rfl, rfl, rfl, rfl, trivial⟩
    ·intro hc
     have hi : ¬ i < x.args.length := by simpa using hc
     have t16 : x.args.any (fun a => !wthI a n) = false := Z2a hJ hi
     refine qX (qS (qS (qR (qM ?_))))
     refine qe (Z7 [] rfl rfl rfl (Z2k _ _ hs) List.nodup_nil) ?_
     refine qM ?_
     refine Zb (wT rfl rfl rfl rfl) rfl (fun hg => (Z0 rfl rfl rfl)) ?_
     refine Zn 0 (wT rfl rfl rfl rfl) rfl rfl (fun hg => (Za hg rfl)) rfl rfl Z6 ?_
     refine Zb (wT rfl rfl rfl rfl) rfl (fun hg => (Zm rfl (Za hg rfl) rfl rfl)) ?_
     refine Zb (wT rfl rfl rfl rfl) rfl (fun hg => (Z00 rfl (Za hg rfl))) ?_
     refine Zb (wFg rfl rfl rfl rfl) rfl (fun hg => (Z0 rfl rfl rfl)) ?_
     refine Zn 0 (wFg rfl rfl rfl rfl) rfl rfl (fun hg => (Za hg rfl)) rfl rfl Z6 ?_
     refine Zb (wFg rfl rfl rfl rfl) rfl (fun hg => (Z00 rfl rfl)) ?_
     refine Zb (wFg rfl rfl rfl rfl) rfl (fun hg => (Zm rfl (Za hg rfl) (Za hg rfl) rfl)) ?_
     refine Zb (wT rfl rfl rfl rfl) rfl (fun hg => (Z0h rfl (Za hg rfl) rfl (fun h => by first | (simp [h, hg]; done) | (rw [hg, h]; rfl) | (simp_all; done)))) ?_
     refine qe (Zq rfl rfl rfl (fun h => h)) ?_
     refine qM (qFM ?_)
     refine Zb (wF rfl rfl rfl rfl) rfl (fun hg => (Z7 [] rfl rfl (Ze (Za hg rfl) (Ze rfl Z04)) (Z2k _ _ hs) List.nodup_nil)) ?_
     refine Zb (wF rfl rfl rfl rfl) rfl (fun hg => (Z00 rfl (Za hg rfl))) ?_
     refine Zb (wTg rfl rfl rfl rfl) rfl (fun hg => (Z0 rfl rfl rfl)) ?_
     refine Zn 0 (wTg rfl rfl rfl rfl) rfl rfl (fun hg => (Za hg rfl)) rfl rfl Z6 ?_
     refine Zb (wTg rfl rfl rfl rfl) rfl (fun hg => (Zm rfl (Za hg rfl) rfl rfl)) ?_
     refine Zb (wTg rfl rfl rfl rfl) rfl (fun hg => (Z00 rfl (Za hg rfl))) ?_
     refine Zb (wFg rfl rfl rfl rfl) rfl (fun hg => (Z0 rfl rfl rfl)) ?_
     refine Zn 0 (wFg rfl rfl rfl rfl) rfl rfl (fun hg => (Za hg rfl)) rfl rfl Z6 ?_
     refine Zb (wFg rfl rfl rfl rfl) rfl (fun hg => (Zm rfl (Za hg rfl) rfl rfl)) ?_
     refine Zb (wTg rfl rfl rfl rfl) rfl (fun hg => (Z0h rfl (Za hg rfl) rfl (fun h => by first | (simp [h, hg]; done) | (rw [hg, h]; rfl) | (simp_all; done)))) ?_
     refine Zb (wF rfl rfl rfl rfl) rfl (fun hg => (Zq rfl (Za hg rfl) rfl (fun h => by first | (simp [h, hg]; done) | (rw [hg, h]; rfl) | (simp_all; done)))) ?_
     refine qe (Z0h rfl rfl rfl (fun h => by rw [h]; rfl)) ?_
     refine qN ?_
     refine Z2 rfl ?_ ?_
     ·intro hc
      have t20 : ((hasL v2 116 && (decide (x.k < 0) || decide (x.k ≥ m))) || (hasL v2 114 && (decide (x.k < 0) || decide (x.k > 9)))) = true := hc
      refine qS (qR (qA (qN (qE ?_))))
      exact Z0k rfl (Z4 rfl Z3) (gi (by unfold fitsI; rw [← hsh, if_neg (by rw [t2]; simp), if_neg (by rw [hJ5]; simp), if_neg (by rw [t13]; simp), if_neg (by rw [t16]; simp), if_pos t20]))
     ·intro hc
      have t20 : ((hasL v2 116 && (decide (x.k < 0) || decide (x.k ≥ m))) || (hasL v2 114 && (decide (x.k < 0) || decide (x.k > 9)))) = false := hc
      refine qK (qS (qR (qA (qN (qE ?_)))))
      exact Z0k rfl (Z4 rfl Z3) (gi (by unfold fitsI; rw [← hsh, if_neg (by rw [t2]; simp), if_neg (by rw [hJ5]; simp), if_neg (by rw [t13]; simp), if_neg (by rw [t16]; simp), if_neg (by rw [t20]; simp)]))
theorem Zdr (m : Meth) (hm : m.ok) : ACalls Tryz.prog 104 [.agg m.cells] [] (Gives (bA (methR m))) := by
 have hcl := hm.code.1
 simp only [small] at hcl
 refine Zd (n := 108) Tryz.func104 rfl (by decide +kernel) rfl rfl ?_
 refine qS (qR ?_)
 refine Z05 (w0 rfl) rfl (fun id => Z0c id rfl rfl rfl rfl rfl) (fun id1 => ?_)
 refine qA (qN (qS (qR ?_)))
 refine qe (Z0 rfl rfl rfl) ?_
 refine qL 0 Z6 ?_
 refine Z14 (w0 rfl) rfl rfl rfl rfl (Z8d _) (fun v2 hv2 => ?_)
 obtain ⟨ps, ⟨tk, tc⟩, er⟩ := v2
 have hsp := hv2
 have hps : ps.length ≤ 8 := Z5u hv2
 have hs1 : (splitR m.desc).1 = ps := by rw [← hsp]
 have hs2 : (splitR m.desc).2.2 = er := by rw [← hsp]
 refine qM ?_
 refine qe (Zg rfl rfl rfl) ?_
 refine qe (Zg rfl rfl rfl) ?_
 refine qe (Zg rfl rfl rfl) ?_
 refine Z05 (w0 rfl) rfl (fun id => Z08 id rfl rfl rfl) (fun id3 => ?_)
 refine qA ?_
 refine Zu 0 (w0 rfl) rfl rfl rfl rfl rfl rfl rfl rfl rfl ?_
 refine qA (qN (qS (qS (qR (qM ?_)))))
 refine qe eI ?_
 refine qM ?_
 refine Zb (wF rfl rfl rfl rfl) rfl (fun hg => (Z0 rfl rfl rfl)) ?_
 refine Zn 1 (wF rfl rfl rfl rfl) rfl rfl (fun hg => (Za hg rfl)) rfl rfl Z6 ?_
 refine Zb (wF rfl rfl rfl rfl) rfl (fun hg => (Z7 [] rfl rfl (Ze (Za hg rfl) Z04) (Z5g _) List.nodup_nil)) ?_
 refine Zb (wF rfl rfl rfl rfl) rfl (fun hg => (Zx rfl (Za hg rfl))) ?_
 refine qe (Z0h rfl rfl rfl (fun h => by rw [h]; rfl)) ?_
 refine qM ?_
 refine Zb (wF rfl rfl rfl rfl) rfl (fun hg => (Z0 rfl rfl rfl)) ?_
 refine Zn 1 (wF rfl rfl rfl rfl) rfl rfl (fun hg => (Za hg rfl)) rfl rfl Z6 ?_
 refine Zb (wF rfl rfl rfl rfl) rfl (fun hg => (Zm rfl (Za hg rfl) rfl rfl)) ?_
 refine qe (Z0h rfl rfl rfl (fun h => by rw [h]; rfl)) ?_
 refine qM ?_
 refine Zb (wF rfl rfl rfl rfl) rfl (fun hg => (Z0 rfl rfl rfl)) ?_
 refine Zn 1 (wF rfl rfl rfl rfl) rfl rfl (fun hg => (Za hg rfl)) rfl rfl Z6 ?_
 refine Zb (wF rfl rfl rfl rfl) rfl (fun hg => (Zm rfl (Za hg rfl) rfl rfl)) ?_
 refine qe (Z0h rfl rfl rfl (fun h => by rw [h]; rfl)) ?_
 refine qN ?_
 refine Z2 rfl ?_ ?_
 ·intro hc
  have t2 : (((!((splitR m.desc).2.2 == 0) || !nameW m.name) || decide (m.regs < 0)) || decide (m.regs > 32)) = true := by rw [hs2]; exact hc
  refine qS (qR (qA (qN (qE ?_))))
  exact Z0k rfl (Z4 rfl Z3) (gb (by unfold methR; rw [if_pos t2]))
 ·intro hc
  have t2 : (((!((splitR m.desc).2.2 == 0) || !nameW m.name) || decide (m.regs < 0)) || decide (m.regs > 32)) = false := by rw [hs2]; exact hc
  refine qK (qS (qS (qR ?_)))
  refine qe (Z0 rfl rfl rfl) ?_
  refine qL 1 Z6 ?_
  refine qN ?_
  refine Z2 rfl ?_ ?_
  ·intro hc
   have t4 : m.abs = true := hc
   refine qS (qR ?_)
   refine qe (Z0 rfl rfl rfl) ?_
   refine qL 1 Z6 ?_
   refine qe (Zx rfl rfl) ?_
   refine qM ?_
   refine Zb (wT rfl rfl rfl rfl) rfl (fun hg => (Z0 rfl rfl rfl)) ?_
   refine Zn 1 (wT rfl rfl rfl rfl) rfl rfl (fun hg => (Za hg rfl)) rfl rfl Z6 ?_
   refine Zb (wT rfl rfl rfl rfl) rfl (fun hg => (Z0l rfl (Za hg rfl) rfl rfl)) ?_
   refine qe (Zq rfl rfl rfl (fun h => h)) ?_
   refine qM ?_
   refine Zb (wT rfl rfl rfl rfl) rfl (fun hg => (Z0 rfl rfl rfl)) ?_
   refine Zn 1 (wT rfl rfl rfl rfl) rfl rfl (fun hg => (Za hg rfl)) rfl rfl Z6 ?_
   refine Zb (wT rfl rfl rfl rfl) rfl (fun hg => (Zs rfl (Za hg rfl) rfl rfl)) ?_
   refine Zb (wT rfl rfl rfl rfl) rfl (fun hg => (Zm rfl (Za hg rfl) rfl rfl)) ?_
   refine qe (Zq rfl rfl rfl (fun h => h)) ?_
   refine qM ?_
   refine Zb (wT rfl rfl rfl rfl) rfl (fun hg => (Z0 rfl rfl rfl)) ?_
   refine Zn 1 (wT rfl rfl rfl rfl) rfl rfl (fun hg => (Za hg rfl)) rfl rfl Z6 ?_
   refine Zb (wT rfl rfl rfl rfl) rfl (fun hg => (Zm rfl (Za hg rfl) rfl rfl)) ?_
   refine qe (Zq rfl rfl rfl (fun h => h)) ?_
   refine qA (qN (qE ?_))
   exact Z0k rfl (Z4 rfl Z3) (gb (by unfold methR; rw [if_neg (by rw [t2]; simp), if_pos t4]; rw [List.length_map]; rfl))
  ·intro hc
   have t4 : m.abs = false := hc
   refine qK (qS (qR (qM ?_)))
   refine qe (Zs rfl rfl rfl rfl) ?_
   refine qA (qN ?_)
   refine Z3q (α := Unit) (fun zu => ⟨[(1, .ptr id1 6 0 0), (6, iA (if m.static then (ps.length : Int) else (ps.length : Int) + 1))], [(id1, .rows 56 6 [m.cells])], [], 108⟩) (fun zu => True) ?_ ?_
   ·skip
    refine qS (qR ?_)
    refine qe (Z0 rfl rfl rfl) ?_
    refine qL 1 Z6 ?_
    refine qe (Zx rfl rfl) ?_
    refine qN ?_
    refine Z2 rfl ?_ ?_
    ·intro hc
     have t7 : (!m.static) = true := hc
     refine qR (qM ?_)
     refine qe (Z9 rfl rfl rfl (Zo (by first | omega | (simp only [List.length_map]; omega)))) ?_
     refine qA (qN ?_)
     refine ⟨(), trivial, ?_⟩
     exact qp [1] ⟨rfl, (congrArg (fun b => some (iA b)) (by rw [if_neg (by simpa using t7)]; simp)), trivial⟩
    ·intro hc
     have t7 : (!m.static) = false := hc
     refine qK ?_
     refine ⟨(), trivial, ?_⟩
     exact qp [1] ⟨rfl, (congrArg (fun b => some (iA b)) (by rw [if_pos (by simpa using t7)]; simp)), trivial⟩
   ·rintro ⟨⟩ _
    refine qS (qS (qR ?_))
    refine qe (Z0 rfl rfl rfl) ?_
    refine qL 0 Z6 ?_
    refine qe (Zs rfl rfl rfl rfl) ?_
    refine qe eI ?_
    refine qM ?_
    refine Zb (wF rfl rfl rfl rfl) rfl (fun hg => (Z0 rfl rfl rfl)) ?_
    refine Zn 0 (wF rfl rfl rfl rfl) rfl rfl (fun hg => (Za hg rfl)) rfl rfl Z6 ?_
    refine Zb (wF rfl rfl rfl rfl) rfl (fun hg => (Zs rfl (Za hg rfl) rfl rfl)) ?_
    refine Zb (wF rfl rfl rfl rfl) rfl (fun hg => (Zm rfl (Za hg rfl) rfl rfl)) ?_
    refine qe (Z0h rfl rfl rfl (fun h => by rw [h]; rfl)) ?_
    refine qM ?_
    refine Zb (wF rfl rfl rfl rfl) rfl (fun hg => (Z0 rfl rfl rfl)) ?_
    refine Zn 0 (wF rfl rfl rfl rfl) rfl rfl (fun hg => (Za hg rfl)) rfl rfl Z6 ?_
    refine qFM ?_
    refine Zb (wF rfl rfl rfl rfl) rfl (fun hg => (Zm rfl (Za hg rfl) (Za hg rfl) rfl)) ?_
    refine qe (Z0h rfl rfl rfl (fun h => by rw [h]; rfl)) ?_
    refine qN ?_
    refine Z2 rfl ?_ ?_
    ·intro hc
     have t9 : ((decide ((m.code.length : Int) < 1) || decide ((m.code.length : Int) > 256)) || decide (m.regs < (if m.static then ((splitR m.desc).1.length : Int) else ((splitR m.desc).1.length : Int) + 1))) = true := by have h := hc; simp only [List.length_map] at h; rw [hs1]; exact h
     refine qS (qR (qA (qN (qE ?_))))
     exact Z0k rfl (Z4 rfl Z3) (gb (by unfold methR; rw [if_neg (by rw [t2]; simp), if_neg (by rw [t4]; simp), if_pos t9]))
    ·intro hc
     have t9 : ((decide ((m.code.length : Int) < 1) || decide ((m.code.length : Int) > 256)) || decide (m.regs < (if m.static then ((splitR m.desc).1.length : Int) else ((splitR m.desc).1.length : Int) + 1))) = false := by have h := hc; simp only [List.length_map] at h; rw [hs1]; exact h
     refine qK (qS (qS (qR (qA (qN (qB ?_))))))
     refine Zj (α := Nat) (fun i => ⟨[(7, iA i), (1, .ptr id1 6 0 0)], [(id1, .rows 56 6 [m.cells])], [], 108⟩) (fun i => (m.code.drop i).any (fun x : Instr => !(fitsI x m.regs m.code.length == 0)) = m.code.any (fun x : Instr => !(fitsI x m.regs m.code.length == 0))) (fun i => m.code.length - i) 0 rfl ?_ ?_
     ·exact Zi [0] ⟨rfl, rfl, trivial⟩ rfl (by decide) rfl rfl
     rintro i hJ
     refine qS (qS (qR (qM ?_)))
     refine qe (Z0 rfl rfl rfl) ?_
     refine qL 0 Z6 ?_
     refine qe (Zs rfl rfl rfl rfl) ?_
     refine qe eI ?_
     refine qN ?_
     refine Z2 rfl ?_ ?_
     ·intro hc
      have hi : i < m.code.length := by simpa using hc
      refine qK (qS (qB (qS ?_)))
      refine Z0o 12 rfl (by kernel_rfl) ?_
      refine ce (Z0 rfl rfl rfl) ?_
      refine Z8 0 (w0 rfl) rfl rfl rfl rfl rfl Z6 ?_
      refine cM2 ?_
      refine ce (Zf rfl rfl rfl (Z0a (fun _ => rfl)) (by first | omega | (simp only [List.length_map]; omega) | (simp only [List.length_map, List.length_drop]; omega)) (by first | omega | (simp only [List.length_map]; omega) | (simp only [List.length_map, List.length_drop]; omega))) ?_
      refine ce (Z03 rfl rfl (Z0e (by first | assumption | omega | (simp only [List.length_drop]; omega))) (Z01 (Nat.le_of_ble_eq_true rfl))) ?_
      refine ce (Z0 rfl rfl rfl) ?_
      refine Z8 0 (w0 rfl) rfl rfl rfl rfl rfl Z6 ?_
      refine ce (Z0 rfl rfl rfl) ?_
      refine Z8 0 (w0 rfl) rfl rfl rfl rfl rfl Z6 ?_
      refine ce (Zs rfl rfl rfl rfl) ?_
      refine ce (Z7 [] rfl rfl rfl (Zgv _ (hm.code.2 _ (List.getElem_mem hi)) _ _) List.nodup_nil) ?_
      refine ce eI ?_
      refine .done (qN ?_)
      refine Z2 rfl ?_ ?_
      ·intro hc
       have hq : (fun x : Instr => !(fitsI x m.regs m.code.length == 0)) m.code[i] = true := by have h := hc; simp only [List.length_map] at h; exact h
       have t12 : m.code.any (fun x : Instr => !(fitsI x m.regs m.code.length == 0)) = true := Z1x hJ hi hq
       refine qS (qR (qA (qN (qE ?_))))
       exact Z0k rfl (Z4 rfl Z3) (gb (by unfold methR; rw [if_neg (by rw [t2]; simp), if_neg (by rw [t4]; simp), if_neg (by rw [t9]; simp), if_pos t12]))
      ·intro hc
       have hq : (fun x : Instr => !(fitsI x m.regs m.code.length == 0)) m.code[i] = false := by have h := hc; simp only [List.length_map] at h; exact h
       refine qK (qR (qM ?_))
       refine qe (Z9 rfl rfl rfl (Zo (by first | omega | (simp only [List.length_map]; omega)))) ?_
       refine qA (qN ?_)
       refine ⟨i + 1, (Z1v hJ hi hq), (by omega), ?_⟩
       exact qp [0] ⟨rfl, rfl, trivial⟩
     ·intro hc
      have hi : ¬ i < m.code.length := by simpa using hc
      have t12 : m.code.any (fun x : Instr => !(fitsI x m.regs m.code.length == 0)) = false := Z2a hJ hi
      refine qX (qS (qR ?_))
      refine qe (Z0 rfl rfl rfl) ?_
      refine qL 0 Z6 ?_
      refine qe (Z0l rfl rfl rfl rfl) ?_
      refine qM ?_
      refine Zb (wF rfl rfl rfl rfl) rfl (fun hg => (Z0 rfl rfl rfl)) ?_
      refine Zn 0 (wF rfl rfl rfl rfl) rfl rfl (fun hg => (Za hg rfl)) rfl rfl Z6 ?_
      refine Zb (wF rfl rfl rfl rfl) rfl (fun hg => (Z00 rfl (Za hg rfl))) ?_
      refine Zb (wTg rfl rfl rfl rfl) rfl (fun hg => (Z0 rfl rfl rfl)) ?_
      refine Zn 0 (wTg rfl rfl rfl rfl) rfl rfl (fun hg => (Za hg rfl)) rfl rfl Z6 ?_
      refine Zb (wTg rfl rfl rfl rfl) rfl (fun hg => (Z0l rfl (Za hg rfl) rfl rfl)) ?_
      refine Zb (wF rfl rfl rfl rfl) rfl (fun hg => (Zq rfl (Za hg rfl) rfl (fun h => by first | (simp [h, hg]; done) | (rw [hg, h]; rfl) | (simp_all; done)))) ?_
      refine qe (Z0h rfl rfl rfl (fun h => by rw [h]; rfl)) ?_
      refine qA (qN (qE ?_))
      exact Z0k rfl (Z4 rfl Z3) (gb (by unfold methR; rw [if_neg (by rw [t2]; simp), if_neg (by rw [t4]; simp), if_neg (by rw [t9]; simp), if_neg (by rw [t12]; simp)]; rfl))
theorem Zfd (c : Cls) (hc0 : c.ok) : ACalls Tryz.prog 59 [c.av] [] (Gives (bA (clsR8 c))) := by
 have h1 := hc0.ifaces.1
 have h2 := hc0.fields.1
 have h3 := hc0.methods.1
 simp only [small] at h1 h2 h3
 refine Zd (n := 128) Tryz.func59 rfl (by decide +kernel) rfl rfl ?_
 refine qS (qR ?_)
 refine Z05 (w0 rfl) rfl (fun id => Z0c id rfl rfl rfl rfl rfl) (fun id1 => ?_)
 refine qA (qN (qS (qS (qR ?_))))
 refine qe (Z0 rfl rfl rfl) ?_
 refine qL 0 Z6 ?_
 refine qe (Z7 [] rfl rfl rfl (Z34 _) List.nodup_nil) ?_
 refine qe (Zx rfl rfl) ?_
 refine qM ?_
 refine Zb (wF rfl rfl rfl rfl) rfl (fun hg => (Z0 rfl rfl rfl)) ?_
 refine Zn 0 (wF rfl rfl rfl rfl) rfl rfl (fun hg => (Za hg rfl)) rfl rfl Z6 ?_
 refine Zb (wF rfl rfl rfl rfl) rfl (fun hg => (Z0l rfl (Za hg rfl) rfl rfl)) ?_
 refine Zb (wF rfl rfl rfl rfl) rfl (fun hg => (Z00 rfl (Za hg rfl))) ?_
 refine Zb (wTg rfl rfl rfl rfl) rfl (fun hg => (Z0 rfl rfl rfl)) ?_
 refine Zn 0 (wTg rfl rfl rfl rfl) rfl rfl (fun hg => (Za hg rfl)) rfl rfl Z6 ?_
 refine Zb (wTg rfl rfl rfl rfl) rfl (fun hg => (Z7 [] rfl rfl (Ze (Za hg rfl) Z04) (Z34 _) List.nodup_nil)) ?_
 refine Zb (wTg rfl rfl rfl rfl) rfl (fun hg => (Zx rfl (Za hg rfl))) ?_
 refine Zb (wTg rfl rfl rfl rfl) rfl (fun hg => (Z00 rfl (Za hg rfl))) ?_
 refine Zb (wFg rfl rfl rfl rfl) rfl (fun hg => (Z0 rfl rfl rfl)) ?_
 refine Zn 0 (wFg rfl rfl rfl rfl) rfl rfl (fun hg => (Za hg rfl)) rfl rfl Z6 ?_
 refine Zb (wFg rfl rfl rfl rfl) rfl (fun hg => (Z0 rfl rfl rfl)) ?_
 refine Zn 0 (wFg rfl rfl rfl rfl) rfl rfl (fun hg => (Za hg rfl)) rfl rfl Z6 ?_
 refine Zb (wFg rfl rfl rfl rfl) rfl (fun hg => (Z0l rfl (Za hg rfl) (Za hg rfl) rfl)) ?_
 refine Zb (wTg rfl rfl rfl rfl) rfl (fun hg => (Z0h rfl (Za hg rfl) rfl (fun h => by first | (simp [h, hg]; done) | (rw [hg, h]; rfl) | (simp_all; done)))) ?_
 refine Zb (wF rfl rfl rfl rfl) rfl (fun hg => (Zq rfl (Za hg rfl) rfl (fun h => by first | (simp [h, hg]; done) | (rw [hg, h]; rfl) | (simp_all; done)))) ?_
 refine qe (Z0h rfl rfl rfl (fun h => by rw [h]; rfl)) ?_
 refine qN ?_
 refine Z2 rfl ?_ ?_
 ·intro hc
  have t1 : (!clsW c.name || (!beqS c.super zS && (!clsW c.super || beqS c.super c.name))) = true := hc
  refine qS (qR (qA (qN (qE ?_))))
  exact Z0k rfl (Z4 rfl Z3) (gb (by unfold clsR8; rw [if_pos t1]))
 ·intro hc
  have t1 : (!clsW c.name || (!beqS c.super zS && (!clsW c.super || beqS c.super c.name))) = false := hc
  refine qK (qS (qS (qR ?_)))
  refine qe (Z0 rfl rfl rfl) ?_
  refine qL 0 Z6 ?_
  refine qM ?_
  refine Zb (wT rfl rfl rfl rfl) rfl (fun hg => (Z0 rfl rfl rfl)) ?_
  refine Zn 0 (wT rfl rfl rfl rfl) rfl rfl (fun hg => (Za hg rfl)) rfl rfl Z6 ?_
  refine Zb (wT rfl rfl rfl rfl) rfl (fun hg => (Zx rfl (Za hg rfl))) ?_
  refine Zb (wT rfl rfl rfl rfl) rfl (fun hg => (Z00 rfl (Za hg rfl))) ?_
  refine Zb (wFg rfl rfl rfl rfl) rfl (fun hg => (Z0 rfl rfl rfl)) ?_
  refine Zn 0 (wFg rfl rfl rfl rfl) rfl rfl (fun hg => (Za hg rfl)) rfl rfl Z6 ?_
  refine Zb (wFg rfl rfl rfl rfl) rfl (fun hg => (Z0l rfl (Za hg rfl) rfl rfl)) ?_
  refine Zb (wT rfl rfl rfl rfl) rfl (fun hg => (Z0h rfl (Za hg rfl) rfl (fun h => by first | (simp [h, hg]; done) | (rw [hg, h]; rfl) | (simp_all; done)))) ?_
  refine Zb (wT rfl rfl rfl rfl) rfl (fun hg => (Z00 rfl (Za hg rfl))) ?_
  refine Zb (wFg rfl rfl rfl rfl) rfl (fun hg => (Z0 rfl rfl rfl)) ?_
  refine Zn 0 (wFg rfl rfl rfl rfl) rfl rfl (fun hg => (Za hg rfl)) rfl rfl Z6 ?_
  refine Zb (wFg rfl rfl rfl rfl) rfl (fun hg => (Zs rfl (Za hg rfl) rfl rfl)) ?_
  refine Zb (wFg rfl rfl rfl rfl) rfl (fun hg => (Zm rfl (Za hg rfl) rfl rfl)) ?_
  refine Zb (wT rfl rfl rfl rfl) rfl (fun hg => (Z0h rfl (Za hg rfl) rfl (fun h => by first | (simp [h, hg]; done) | (rw [hg, h]; rfl) | (simp_all; done)))) ?_
  refine qe (Zq rfl rfl rfl (fun h => h)) ?_
  refine qN ?_
  refine Z2 rfl ?_ ?_
  ·intro hc
   have t3 : (c.iface && ((!c.abs || !beqS c.super zS) || decide ((c.fields.length : Int) > 0))) = true := by have h := hc; simp only [List.length_map] at h; exact h
   refine qS (qR (qA (qN (qE ?_))))
   exact Z0k rfl (Z4 rfl Z3) (gb (by unfold clsR8; rw [if_neg (by rw [t1]; simp), if_pos t3]))
  ·intro hc
   have t3 : (c.iface && ((!c.abs || !beqS c.super zS) || decide ((c.fields.length : Int) > 0))) = false := by have h := hc; simp only [List.length_map] at h; exact h
   refine qK (qS (qS (qR (qA (qN (qB ?_))))))
   refine Zj (α := Nat) (fun i => ⟨[(3, iA i), (1, .ptr id1 7 0 0)], [(id1, .rows 53 7 [c.cells])], [], 128⟩) (fun i => (c.ifaces.drop i).any (fun s => !clsW s) = c.ifaces.any (fun s => !clsW s)) (fun i => c.ifaces.length - i) 0 rfl ?_ ?_
   ·exact Zi [0] ⟨rfl, rfl, trivial⟩ rfl (by decide) rfl rfl
   rintro i hJ
   refine qS (qS (qR (qM ?_)))
   refine qe (Z0 rfl rfl rfl) ?_
   refine qL 0 Z6 ?_
   refine qe (Zs rfl rfl rfl rfl) ?_
   refine qe eI ?_
   refine qN ?_
   refine Z2 rfl ?_ ?_
   ·intro hc
    have hi : i < c.ifaces.length := by simpa using hc
    refine qK (qS (qB (qS (qR ?_))))
    refine qe (Z0 rfl rfl rfl) ?_
    refine qL 0 Z6 ?_
    refine qM ?_
    refine qe (Zf rfl rfl rfl (Z0a (fun _ => rfl)) (by first | omega | (simp only [List.length_map]; omega) | (simp only [List.length_map, List.length_drop]; omega)) (by first | omega | (simp only [List.length_map]; omega) | (simp only [List.length_map, List.length_drop]; omega))) ?_
    refine qe (Z03 rfl rfl (Z0e (by first | assumption | omega | (simp only [List.length_drop]; omega))) Z6) ?_
    refine qe (Z7 [] rfl rfl rfl (Z34 _) List.nodup_nil) ?_
    refine qe (Zx rfl rfl) ?_
    refine qN ?_
    refine Z2 rfl ?_ ?_
    ·intro hc
     have hq : (fun s => !clsW s) c.ifaces[i] = true := hc
     have t6 : c.ifaces.any (fun s => !clsW s) = true := Z1x hJ hi hq
     refine qS (qR (qA (qN (qE ?_))))
     exact Z0k rfl (Z4 rfl Z3) (gb (by unfold clsR8; rw [if_neg (by rw [t1]; simp), if_neg (by rw [t3]; simp), if_pos t6]))
    ·intro hc
     have hq : (fun s => !clsW s) c.ifaces[i] = false := hc
     refine qK (qR (qM ?_))
     refine qe (Z9 rfl rfl rfl (Zo (by first | omega | (simp only [List.length_map]; omega)))) ?_
     refine qA (qN ?_)
     refine ⟨i + 1, (Z1v hJ hi hq), (by omega), ?_⟩
     exact qp [0] ⟨rfl, rfl, trivial⟩
   ·intro hc
    have hi : ¬ i < c.ifaces.length := by simpa using hc
    have t6 : c.ifaces.any (fun s => !clsW s) = false := Z2a hJ hi
    refine qX (qS (qS (qR (qA (qN (qB ?_))))))
    refine Zj (α := Nat) (fun i => ⟨[(4, iA i), (1, .ptr id1 7 0 0)], [(id1, .rows 53 7 [c.cells])], [], 128⟩) (fun i => (c.fields.drop i).any (fun f => !fldR f) = c.fields.any (fun f => !fldR f)) (fun i => c.fields.length - i) 0 rfl ?_ ?_
    ·exact Zi [0] ⟨rfl, rfl, trivial⟩ rfl (by decide) rfl rfl
    rintro i hJ
    refine qS (qS (qR (qM ?_)))
    refine qe (Z0 rfl rfl rfl) ?_
    refine qL 0 Z6 ?_
    refine qe (Zs rfl rfl rfl rfl) ?_
    refine qe eI ?_
    refine qN ?_
    refine Z2 rfl ?_ ?_
    ·intro hc
     have hi : i < c.fields.length := by simpa using hc
     have hcr := Za3 (c.fields[i]).type
     refine qK (qS (qB (qS (qR ?_))))
     refine qe (Z0 rfl rfl rfl) ?_
     refine qL 0 Z6 ?_
     refine qM ?_
     refine qe (Zf rfl rfl rfl (Z0a (fun _ => rfl)) (by first | omega | (simp only [List.length_map]; omega) | (simp only [List.length_map, List.length_drop]; omega)) (by first | omega | (simp only [List.length_map]; omega) | (simp only [List.length_map, List.length_drop]; omega))) ?_
     refine qe (Z03 rfl rfl (Z0e (by first | assumption | omega | (simp only [List.length_drop]; omega))) (Z01 (Nat.le_of_ble_eq_true rfl))) ?_
     refine Z05 (w0 rfl) rfl (fun id => Z08 id rfl rfl rfl) (fun id2 => ?_)
     refine Zu 0 (w0 rfl) rfl rfl rfl rfl rfl rfl rfl rfl rfl ?_
     refine qN (qS (qR ?_))
     refine qe (Z0 rfl rfl rfl) ?_
     refine qL 0 Z6 ?_
     refine qe (Z7 [] rfl rfl rfl (Z5g _) List.nodup_nil) ?_
     refine qe (Zx rfl rfl) ?_
     refine qM ?_
     refine Zb (wF rfl rfl rfl rfl) rfl (fun hg => (Z0 rfl rfl rfl)) ?_
     refine Zn 0 (wF rfl rfl rfl rfl) rfl rfl (fun hg => (Za hg rfl)) rfl rfl Z6 ?_
     refine Zb (wF rfl rfl rfl rfl) rfl (fun hg => (Z0l rfl (Za hg rfl) rfl rfl)) ?_
     refine qe (Z0h rfl rfl rfl (fun h => by rw [h]; rfl)) ?_
     refine qM ?_
     refine Zb (wF rfl rfl rfl rfl) rfl (fun hg => (Z0 rfl rfl rfl)) ?_
     refine Zn 0 (wF rfl rfl rfl rfl) rfl rfl (fun hg => (Za hg rfl)) rfl rfl (Z01 (Nat.le_of_ble_eq_true rfl)) ?_
     refine Zb (wF rfl rfl rfl rfl) rfl (fun hg => (Z7 [] rfl rfl (Ze (Za hg rfl) Z04) hcr List.nodup_nil)) ?_
     refine Zb (wF rfl rfl rfl rfl) rfl (fun hg => (Zx rfl (Za hg rfl))) ?_
     refine qe (Z0h rfl rfl rfl (fun h => by rw [h]; rfl)) ?_
     refine qM ?_
     refine Zb (wF rfl rfl rfl rfl) rfl (fun hg => (Z0 rfl rfl rfl)) ?_
     refine Zb (wF rfl rfl rfl rfl) rfl (fun hg => (Z0 rfl (Za hg rfl) rfl)) ?_
     refine Zn 0 (wF rfl rfl rfl rfl) rfl rfl (fun hg => (Za hg rfl)) rfl rfl Z6 ?_
     refine Zb (wF rfl rfl rfl rfl) rfl (fun hg => (Zm rfl (Za hg rfl) rfl rfl)) ?_
     refine qe (Z0h rfl rfl rfl (fun h => by rw [h]; rfl)) ?_
     refine qN ?_
     refine Z2 rfl ?_ ?_
     ·intro hc
      have hq : (fun f => !fldR f) c.fields[i] = true := by have h : (((!nameW (c.fields[i]).name || beqS (c.fields[i]).name nInit') || !rightT (c.fields[i]).type) || ((c.fields[i]).type.kind == 1)) = true := hc; show (!(((nameW _ && !beqS _ _) && rightT _) && !(_ == _))) = true; revert h; cases nameW (c.fields[i]).name <;> cases beqS (c.fields[i]).name nInit' <;> cases rightT (c.fields[i]).type <;> cases ((c.fields[i]).type.kind == 1) <;> simp
      have t11 : c.fields.any (fun f => !fldR f) = true := Z1x hJ hi hq
      refine qS (qR (qA (qN (qE ?_))))
      exact Z0k rfl (Z4 rfl Z3) (gb (by unfold clsR8; rw [if_neg (by rw [t1]; simp), if_neg (by rw [t3]; simp), if_neg (by rw [t6]; simp), if_pos t11]))
     ·intro hc
      have hq : (fun f => !fldR f) c.fields[i] = false := by have h : (((!nameW (c.fields[i]).name || beqS (c.fields[i]).name nInit') || !rightT (c.fields[i]).type) || ((c.fields[i]).type.kind == 1)) = false := hc; show (!(((nameW _ && !beqS _ _) && rightT _) && !(_ == _))) = false; revert h; cases nameW (c.fields[i]).name <;> cases beqS (c.fields[i]).name nInit' <;> cases rightT (c.fields[i]).type <;> cases ((c.fields[i]).type.kind == 1) <;> simp
      refine qK (qR (qM ?_))
      refine qe (Z9 rfl rfl rfl (Zo (by first | omega | (simp only [List.length_map]; omega)))) ?_
      refine qA (qN ?_)
      refine ⟨i + 1, (Z1v hJ hi hq), (by omega), ?_⟩
      exact qp [1] ⟨rfl, rfl, trivial⟩
    ·intro hc
     have hi : ¬ i < c.fields.length := by simpa using hc
     have t11 : c.fields.any (fun f => !fldR f) = false := Z2a hJ hi
     refine qX (qS (qS (qR (qA (qN (qB ?_))))))
     refine Zj (α := Nat) (fun i => ⟨[(6, iA i), (1, .ptr id1 7 0 0)], [(id1, .rows 53 7 [c.cells])], [], 128⟩) (fun i => (c.methods.drop i).any (fun m => !cmR c m) = c.methods.any (fun m => !cmR c m)) (fun i => c.methods.length - i) 0 rfl ?_ ?_
     ·exact Zi [0] ⟨rfl, rfl, trivial⟩ rfl (by decide) rfl rfl
     rintro i hJ
     refine qS (qS (qR (qM ?_)))
     refine qe (Z0 rfl rfl rfl) ?_
     refine qL 0 Z6 ?_
     refine qe (Zs rfl rfl rfl rfl) ?_
     refine qe eI ?_
     refine qN ?_
     refine Z2 rfl ?_ ?_
     ·intro hc
      have hi : i < c.methods.length := by simpa using hc
      refine qK (qS (qB (qS (qR ?_))))
      refine qe (Z0 rfl rfl rfl) ?_
      refine qL 0 Z6 ?_
      refine qM ?_
      refine qe (Zf rfl rfl rfl (Z0a (fun _ => rfl)) (by first | omega | (simp only [List.length_map]; omega) | (simp only [List.length_map, List.length_drop]; omega)) (by first | omega | (simp only [List.length_map]; omega) | (simp only [List.length_map, List.length_drop]; omega))) ?_
      refine qe (Z03 rfl rfl (Z0e (by first | assumption | omega | (simp only [List.length_drop]; omega))) (Z01 (Nat.le_of_ble_eq_true rfl))) ?_
      refine Z05 (w0 rfl) rfl (fun id => Z08 id rfl rfl rfl) (fun id3 => ?_)
      refine Zu 0 (w0 rfl) rfl rfl rfl rfl rfl rfl rfl rfl rfl ?_
      refine qN (qS (qR ?_))
      refine qL 0 (Z01 (Nat.le_of_ble_eq_true rfl)) ?_
      refine qe (Z7 [] rfl rfl rfl (Zdr _ (hc0.methods.2 _ (List.getElem_mem hi))) List.nodup_nil) ?_
      refine qe (Zx rfl rfl) ?_
      refine qM ?_
      refine Zb (wF rfl rfl rfl rfl) rfl (fun hg => (Z0 rfl rfl rfl)) ?_
      refine Zn 1 (wF rfl rfl rfl rfl) rfl rfl (fun hg => (Za hg rfl)) rfl rfl Z6 ?_
      refine Zb (wF rfl rfl rfl rfl) rfl (fun hg => (Z00 rfl (Za hg rfl))) ?_
      refine Zb (wTg rfl rfl rfl rfl) rfl (fun hg => (Z0 rfl rfl rfl)) ?_
      refine Zn 0 (wTg rfl rfl rfl rfl) rfl rfl (fun hg => (Za hg rfl)) rfl rfl Z6 ?_
      refine Zb (wTg rfl rfl rfl rfl) rfl (fun hg => (Zx rfl (Za hg rfl))) ?_
      refine Zb (wF rfl rfl rfl rfl) rfl (fun hg => (Zq rfl (Za hg rfl) rfl (fun h => by first | (simp [h, hg]; done) | (rw [hg, h]; rfl) | (simp_all; done)))) ?_
      refine qe (Z0h rfl rfl rfl (fun h => by rw [h]; rfl)) ?_
      refine qM ?_
      refine Zb (wF rfl rfl rfl rfl) rfl (fun hg => (Z0 rfl rfl rfl)) ?_
      refine Zn 0 (wF rfl rfl rfl rfl) rfl rfl (fun hg => (Za hg rfl)) rfl rfl Z6 ?_
      refine Zb (wF rfl rfl rfl rfl) rfl (fun hg => (Z00 rfl (Za hg rfl))) ?_
      refine Zb (wTg rfl rfl rfl rfl) rfl (fun hg => (Z0 rfl rfl rfl)) ?_
      refine Zn 1 (wTg rfl rfl rfl rfl) rfl rfl (fun hg => (Za hg rfl)) rfl rfl Z6 ?_
      refine Zb (wTg rfl rfl rfl rfl) rfl (fun hg => (Zx rfl (Za hg rfl))) ?_
      refine Zb (wF rfl rfl rfl rfl) rfl (fun hg => (Zq rfl (Za hg rfl) rfl (fun h => by first | (simp [h, hg]; done) | (rw [hg, h]; rfl) | (simp_all; done)))) ?_
      refine qe (Z0h rfl rfl rfl (fun h => by rw [h]; rfl)) ?_
      refine qN ?_
      refine Z2 rfl ?_ ?_
      ·intro hc
       have hq : (fun m => !cmR c m) c.methods[i] = true := by have h : ((!methR c.methods[i] || (c.iface && !(c.methods[i]).abs)) || ((c.methods[i]).abs && !c.abs)) = true := hc; show (!((methR _ && !(_ && !_)) && !(_ && !_))) = true; revert h; cases methR c.methods[i] <;> cases c.iface <;> cases (c.methods[i]).abs <;> cases c.abs <;> simp
       have t17 : c.methods.any (fun m => !cmR c m) = true := Z1x hJ hi hq
       refine qS (qR (qA (qN (qE ?_))))
       exact Z0k rfl (Z4 rfl Z3) (gb (by unfold clsR8; rw [if_neg (by rw [t1]; simp), if_neg (by rw [t3]; simp), if_neg (by rw [t6]; simp), if_neg (by rw [t11]; simp), t17]; rfl))
      ·intro hc
       have hq : (fun m => !cmR c m) c.methods[i] = false := by have h : ((!methR c.methods[i] || (c.iface && !(c.methods[i]).abs)) || ((c.methods[i]).abs && !c.abs)) = false := hc; show (!((methR _ && !(_ && !_)) && !(_ && !_))) = false; revert h; cases methR c.methods[i] <;> cases c.iface <;> cases (c.methods[i]).abs <;> cases c.abs <;> simp
       refine qK (qR (qM ?_))
       refine qe (Z9 rfl rfl rfl (Zo (by first | omega | (simp only [List.length_map]; omega)))) ?_
       refine qA (qN ?_)
       refine ⟨i + 1, (Z1v hJ hi hq), (by omega), ?_⟩
       exact qp [1] ⟨rfl, rfl, trivial⟩
     ·intro hc
      have hi : ¬ i < c.methods.length := by simpa using hc
      have t17 : c.methods.any (fun m => !cmR c m) = false := Z2a hJ hi
      refine qX (qS (qR (qA (qN (qE ?_)))))
      exact Z0k rfl (Z4 rfl Z3) (gb (by unfold clsR8; rw [if_neg (by rw [t1]; simp), if_neg (by rw [t3]; simp), if_neg (by rw [t6]; simp), if_neg (by rw [t11]; simp), t17]; rfl))
theorem Zaw (m : MRef) : ACalls Tryz.prog 60 [.agg m.cells] [] (Gives (bA (entryR m))) := by
 refine Zd (n := 39) Tryz.func60 rfl (by decide +kernel) rfl rfl ?_
 refine qS (qR ?_)
 refine Z05 (w0 rfl) rfl (fun id => Z0c id rfl rfl rfl rfl rfl) (fun id1 => ?_)
 refine qA (qN (qS (qS (qR ?_))))
 refine qe (Z0 rfl rfl rfl) ?_
 refine qL 0 Z6 ?_
 refine qe (Z0l rfl rfl rfl rfl) ?_
 refine qM ?_
 refine Zb (wT rfl rfl rfl rfl) rfl (fun hg => (Z0 rfl rfl rfl)) ?_
 refine Zn 0 (wT rfl rfl rfl rfl) rfl rfl (fun hg => (Za hg rfl)) rfl rfl Z6 ?_
 refine Zb (wT rfl rfl rfl rfl) rfl (fun hg => (Z0l rfl (Za hg rfl) rfl rfl)) ?_
 refine qe (Zq rfl rfl rfl (fun h => h)) ?_
 refine qM ?_
 refine Zb (wT rfl rfl rfl rfl) rfl (fun hg => (Z0 rfl rfl rfl)) ?_
 refine Zn 0 (wT rfl rfl rfl rfl) rfl rfl (fun hg => (Za hg rfl)) rfl rfl Z6 ?_
 refine Zb (wT rfl rfl rfl rfl) rfl (fun hg => (Z0l rfl (Za hg rfl) rfl rfl)) ?_
 refine qe (Zq rfl rfl rfl (fun h => h)) ?_
 refine qN ?_
 refine Z2 rfl ?_ ?_
 ·intro hc
  have t1 : ((beqS m.cls zS && beqS m.name zS) && beqS m.desc zS) = true := hc
  refine qS (qR (qA (qN (qE ?_))))
  exact Z0k rfl (Z4 rfl Z3) (gb (by unfold entryR; rw [t1]; rfl))
 ·intro hc
  have t1 : ((beqS m.cls zS && beqS m.name zS) && beqS m.desc zS) = false := hc
  refine qK (qS (qR ?_))
  refine qe (Z0 rfl rfl rfl) ?_
  refine qL 0 Z6 ?_
  refine qe (Z7 [] rfl rfl rfl (Z34 _) List.nodup_nil) ?_
  refine qM ?_
  refine Zb (wT rfl rfl rfl rfl) rfl (fun hg => (Z0 rfl rfl rfl)) ?_
  refine Zn 0 (wT rfl rfl rfl rfl) rfl rfl (fun hg => (Za hg rfl)) rfl rfl Z6 ?_
  refine Zb (wT rfl rfl rfl rfl) rfl (fun hg => (Z7 [] rfl rfl (Ze (Za hg rfl) Z04) (Z5g _) List.nodup_nil)) ?_
  refine qe (Zq rfl rfl rfl (fun h => h)) ?_
  refine qM ?_
  refine Zb (wT rfl rfl rfl rfl) rfl (fun hg => (Z0 rfl rfl rfl)) ?_
  refine Zn 0 (wT rfl rfl rfl rfl) rfl rfl (fun hg => (Za hg rfl)) rfl rfl Z6 ?_
  refine Zb (wT rfl rfl rfl rfl) rfl (fun hg => (Z0l rfl (Za hg rfl) rfl rfl)) ?_
  refine qe (Zq rfl rfl rfl (fun h => h)) ?_
  refine qM ?_
  refine Zb (wT rfl rfl rfl rfl) rfl (fun hg => (Z0 rfl rfl rfl)) ?_
  refine Zn 0 (wT rfl rfl rfl rfl) rfl rfl (fun hg => (Za hg rfl)) rfl rfl Z6 ?_
  refine Zb (wT rfl rfl rfl rfl) rfl (fun hg => (Z0l rfl (Za hg rfl) rfl rfl)) ?_
  refine Zb (wT rfl rfl rfl rfl) rfl (fun hg => (Z00 rfl (Za hg rfl))) ?_
  refine Zb (wFg rfl rfl rfl rfl) rfl (fun hg => (Z0 rfl rfl rfl)) ?_
  refine Zn 0 (wFg rfl rfl rfl rfl) rfl rfl (fun hg => (Za hg rfl)) rfl rfl Z6 ?_
  refine Zb (wFg rfl rfl rfl rfl) rfl (fun hg => (Z0l rfl (Za hg rfl) rfl rfl)) ?_
  refine Zb (wT rfl rfl rfl rfl) rfl (fun hg => (Z0h rfl (Za hg rfl) rfl (fun h => by first | (simp [h, hg]; done) | (rw [hg, h]; rfl) | (simp_all; done)))) ?_
  refine qe (Zq rfl rfl rfl (fun h => h)) ?_
  refine qA (qN (qE ?_))
  exact Z0k rfl (Z4 rfl Z3) (gb (by unfold entryR; rw [t1]; rfl))
theorem Zdq (p : Prog) (hp : p.ok) : ACalls Tryz.prog 58 [p.av] [] (Gives (bA (longR p))) := by
 have hb := hp.classes.1
 have hn := hp.names.1
 simp only [small] at hb hn
 refine Zd (n := 58) Tryz.func58 rfl (by decide +kernel) rfl rfl ?_
 refine qS (qR ?_)
 refine Z05 (w0 rfl) rfl (fun id => Z0c id rfl rfl rfl rfl rfl) (fun id1 => ?_)
 refine qA (qN (qS (qS (qR ?_))))
 refine qe (Z0 rfl rfl rfl) ?_
 refine qL 0 Z6 ?_
 refine qe (Zs rfl rfl rfl rfl) ?_
 refine qe eI ?_
 refine qM ?_
 refine Zb (wF rfl rfl rfl rfl) rfl (fun hg => (Z0 rfl rfl rfl)) ?_
 refine Zn 0 (wF rfl rfl rfl rfl) rfl rfl (fun hg => (Za hg rfl)) rfl rfl Z6 ?_
 refine Zb (wF rfl rfl rfl rfl) rfl (fun hg => (Zs rfl (Za hg rfl) rfl rfl)) ?_
 refine Zb (wF rfl rfl rfl rfl) rfl (fun hg => (Zm rfl (Za hg rfl) rfl rfl)) ?_
 refine qe (Z0h rfl rfl rfl (fun h => by rw [h]; rfl)) ?_
 refine qN ?_
 refine Z2 rfl ?_ ?_
 ·intro hc
  have t1 : (decide ((p.classes.length : Int) > 64) || decide ((p.names.length : Int) > 64)) = true := by have h := hc; simp only [List.length_map] at h; exact h
  refine qS (qR (qA (qN (qE ?_))))
  exact Z0k rfl (Z4 rfl Z3) (gb (by unfold longR; rw [if_pos t1]))
 ·intro hc
  have t1 : (decide ((p.classes.length : Int) > 64) || decide ((p.names.length : Int) > 64)) = false := by have h := hc; simp only [List.length_map] at h; exact h
  refine qK (qS (qS (qR (qA (qN (qB ?_))))))
  refine Zj (α := Nat) (fun i => ⟨[(3, iA i), (1, .ptr id1 5 0 0)], [(id1, .rows 27 5 [p.cells])], [], 58⟩) (fun i => (p.classes.drop i).any longC = p.classes.any longC) (fun i => p.classes.length - i) 0 rfl ?_ ?_
  ·exact Zi [0] ⟨rfl, rfl, trivial⟩ rfl (by decide) rfl rfl
  rintro i hJ
  refine qS (qS (qR (qM ?_)))
  refine qe (Z0 rfl rfl rfl) ?_
  refine qL 0 Z6 ?_
  refine qe (Zs rfl rfl rfl rfl) ?_
  refine qe eI ?_
  refine qN ?_
  refine Z2 rfl ?_ ?_
  ·intro hc
   have hi : i < p.classes.length := by simpa using hc
   refine qK (qS (qB (qS (qR ?_))))
   refine qe (Z0 rfl rfl rfl) ?_
   refine qL 0 Z6 ?_
   refine qM ?_
   refine qe (Zf rfl rfl rfl (Z0a (fun _ => rfl)) (by first | omega | (simp only [List.length_map]; omega) | (simp only [List.length_map, List.length_drop]; omega)) (by first | omega | (simp only [List.length_map]; omega) | (simp only [List.length_map, List.length_drop]; omega))) ?_
   refine qe (Z03 rfl rfl (Z0e (by first | assumption | omega | (simp only [List.length_drop]; omega))) (Z01 (Nat.le_of_ble_eq_true rfl))) ?_
   refine Z05 (w0 rfl) rfl (fun id => Z08 id rfl rfl rfl) (fun id2 => ?_)
   refine Zu 0 (w0 rfl) rfl rfl rfl rfl rfl rfl rfl rfl rfl ?_
   refine qN (qS (qR ?_))
   refine qe (Z0 rfl rfl rfl) ?_
   refine qL 0 Z6 ?_
   refine qe (Zs rfl rfl rfl rfl) ?_
   refine qe eI ?_
   refine qM ?_
   refine Zb (wF rfl rfl rfl rfl) rfl (fun hg => (Z0 rfl rfl rfl)) ?_
   refine Zn 0 (wF rfl rfl rfl rfl) rfl rfl (fun hg => (Za hg rfl)) rfl rfl Z6 ?_
   refine Zb (wF rfl rfl rfl rfl) rfl (fun hg => (Zs rfl (Za hg rfl) rfl rfl)) ?_
   refine Zb (wF rfl rfl rfl rfl) rfl (fun hg => (Zm rfl (Za hg rfl) rfl rfl)) ?_
   refine qe (Z0h rfl rfl rfl (fun h => by rw [h]; rfl)) ?_
   refine qM ?_
   refine Zb (wF rfl rfl rfl rfl) rfl (fun hg => (Z0 rfl rfl rfl)) ?_
   refine Zn 0 (wF rfl rfl rfl rfl) rfl rfl (fun hg => (Za hg rfl)) rfl rfl Z6 ?_
   refine Zb (wF rfl rfl rfl rfl) rfl (fun hg => (Zs rfl (Za hg rfl) rfl rfl)) ?_
   refine Zb (wF rfl rfl rfl rfl) rfl (fun hg => (Zm rfl (Za hg rfl) rfl rfl)) ?_
   refine qe (Z0h rfl rfl rfl (fun h => by rw [h]; rfl)) ?_
   refine qN ?_
   refine Z2 rfl ?_ ?_
   ·intro hc
    have hq : longC p.classes[i] = true := by have h := hc; simp only [List.length_map] at h; exact h
    have t4 : p.classes.any longC = true := Z1x hJ hi hq
    refine qS (qR (qA (qN (qE ?_))))
    exact Z0k rfl (Z4 rfl Z3) (gb (by unfold longR; rw [if_neg (by rw [t1]; simp), if_pos t4]))
   ·intro hc
    have hq : longC p.classes[i] = false := by have h := hc; simp only [List.length_map] at h; exact h
    refine qK (qR (qM ?_))
    refine qe (Z9 rfl rfl rfl (Zo (by first | omega | (simp only [List.length_map]; omega)))) ?_
    refine qA (qN ?_)
    refine ⟨i + 1, (Z1v hJ hi hq), (by omega), ?_⟩
    exact qp [1] ⟨rfl, rfl, trivial⟩
  ·intro hc
   have hi : ¬ i < p.classes.length := by simpa using hc
   have t4 : p.classes.any longC = false := Z2a hJ hi
   refine qX (qS (qS (qR (qA (qN (qB ?_))))))
   refine Zj (α := Nat) (fun i => ⟨[(5, iA i), (1, .ptr id1 5 0 0)], [(id1, .rows 27 5 [p.cells])], [], 58⟩) (fun i => (p.names.drop i).any (fun s : Str => decide ((s.size : Int) > 64)) = p.names.any (fun s : Str => decide ((s.size : Int) > 64))) (fun i => p.names.length - i) 0 rfl ?_ ?_
   ·exact Zi [0] ⟨rfl, rfl, trivial⟩ rfl (by decide) rfl rfl
   rintro i hJ
   refine qS (qS (qR (qM ?_)))
   refine qe (Z0 rfl rfl rfl) ?_
   refine qL 0 Z6 ?_
   refine qe (Zs rfl rfl rfl rfl) ?_
   refine qe eI ?_
   refine qN ?_
   refine Z2 rfl ?_ ?_
   ·intro hc
    have hi : i < p.names.length := by simpa using hc
    refine qK (qS (qB (qS (qR ?_))))
    refine qe (Z0 rfl rfl rfl) ?_
    refine qL 0 Z6 ?_
    refine qM ?_
    refine qe (Zf rfl rfl rfl (Z0a (fun _ => rfl)) (by first | omega | (simp only [List.length_map]; omega) | (simp only [List.length_map, List.length_drop]; omega)) (by first | omega | (simp only [List.length_map]; omega) | (simp only [List.length_map, List.length_drop]; omega))) ?_
    refine qe (Z03 rfl rfl (Z0e (by first | assumption | omega | (simp only [List.length_drop]; omega))) Z6) ?_
    refine qe (Zs rfl rfl rfl rfl) ?_
    refine qe eI ?_
    refine qN ?_
    refine Z2 rfl ?_ ?_
    ·intro hc
     have hq : (fun s : Str => decide ((s.size : Int) > 64)) p.names[i] = true := hc
     have t10 : p.names.any (fun s : Str => decide ((s.size : Int) > 64)) = true := Z1x hJ hi hq
     refine qS (qR (qA (qN (qE ?_))))
     exact Z0k rfl (Z4 rfl Z3) (gb (by unfold longR; rw [if_neg (by rw [t1]; simp), if_neg (by rw [t4]; simp), t10]))
    ·intro hc
     have hq : (fun s : Str => decide ((s.size : Int) > 64)) p.names[i] = false := hc
     refine qK (qR (qM ?_))
     refine qe (Z9 rfl rfl rfl (Zo (by first | omega | (simp only [List.length_map]; omega)))) ?_
     refine qA (qN ?_)
     refine ⟨i + 1, (Z1v hJ hi hq), (by omega), ?_⟩
     exact qp [0] ⟨rfl, rfl, trivial⟩
   ·intro hc
    have hi : ¬ i < p.names.length := by simpa using hc
    have t10 : p.names.any (fun s : Str => decide ((s.size : Int) > 64)) = false := Z2a hJ hi
    refine qX (qS (qR (qA (qN (qE ?_)))))
    exact Z0k rfl (Z4 rfl Z3) (gb (by unfold longR; rw [if_neg (by rw [t1]; simp), if_neg (by rw [t4]; simp), t10]))
theorem Zau (a b : Meth) : ACalls Tryz.prog 131 [.agg a.cells, .agg b.cells] [] (Gives (bA (belowM a b))) := by
 refine Zd (n := 24) Tryz.func131 rfl (by decide +kernel) rfl rfl ?_
 refine qS (qR ?_)
 refine Z05 (w0 rfl) rfl (fun id => Z0c id rfl rfl rfl rfl rfl) (fun id1 => ?_)
 refine Z05 (w0 rfl) rfl (fun id => Z0c id rfl rfl rfl rfl rfl) (fun id2 => ?_)
 refine qA (qN (qS (qR ?_)))
 refine qe (Z0 rfl rfl rfl) ?_
 refine qL 1 Z6 ?_
 refine qe (Z0 rfl rfl rfl) ?_
 refine qL 0 Z6 ?_
 refine qe (Z0l rfl rfl rfl rfl) ?_
 refine qM ?_
 refine Zb (wF rfl rfl rfl rfl) rfl (fun hg => (Z0 rfl rfl rfl)) ?_
 refine Zn 1 (wF rfl rfl rfl rfl) rfl rfl (fun hg => (Za hg rfl)) rfl rfl Z6 ?_
 refine Zb (wF rfl rfl rfl rfl) rfl (fun hg => (Z0 rfl rfl rfl)) ?_
 refine Zn 0 (wF rfl rfl rfl rfl) rfl rfl (fun hg => (Za hg rfl)) rfl rfl Z6 ?_
 refine Zb (wF rfl rfl rfl rfl) rfl (fun hg => (Z0l rfl (Za hg rfl) (Za hg rfl) rfl)) ?_
 refine Zb (wF rfl rfl rfl rfl) rfl (fun hg => (Z00 rfl (Za hg rfl))) ?_
 refine Zb (wTg rfl rfl rfl rfl) rfl (fun hg => (Z0 rfl rfl rfl)) ?_
 refine Zn 1 (wTg rfl rfl rfl rfl) rfl rfl (fun hg => (Za hg rfl)) rfl rfl Z6 ?_
 refine Zb (wTg rfl rfl rfl rfl) rfl (fun hg => (Z0 rfl rfl rfl)) ?_
 refine Zn 0 (wTg rfl rfl rfl rfl) rfl rfl (fun hg => (Za hg rfl)) rfl rfl Z6 ?_
 refine Zb (wTg rfl rfl rfl rfl) rfl (fun hg => (Z0l rfl (Za hg rfl) (Za hg rfl) rfl)) ?_
 refine Zb (wF rfl rfl rfl rfl) rfl (fun hg => (Zq rfl (Za hg rfl) rfl (fun h => by first | (simp [h, hg]; done) | (rw [hg, h]; rfl) | (simp_all; done)))) ?_
 refine qe (Z0h rfl rfl rfl (fun h => by rw [h]; rfl)) ?_
 refine qA (qN (qE ?_))
 exact Z0k rfl (Z4 rfl Z3) (gb rfl)
theorem Zb7 (c : Cls) (hc0 : c.ok) : ACalls Tryz.prog 105 [c.av] [] (Gives (bA (orderedC c))) := by
 have h1 := hc0.ifaces.1
 have h2 := hc0.fields.1
 have h3 := hc0.methods.1
 simp only [small] at h1 h2 h3
 refine Zd (n := 66) Tryz.func105 rfl (by decide +kernel) rfl rfl ?_
 refine qS (qR ?_)
 refine Z05 (w0 rfl) rfl (fun id => Z0c id rfl rfl rfl rfl rfl) (fun id1 => ?_)
 refine qA (qN (qS (qS (qR (qA (qN (qB ?_)))))))
 refine Zj (α := Nat) (fun i => ⟨[(3, iA i), (1, .ptr id1 7 0 0)], [(id1, .rows 53 7 [c.cells])], [], 66⟩) (fun i => 0 < i ∧ ∀ k, k < i → 0 < k → gI c k = true) (fun i => c.ifaces.length - i) 1 ⟨by omega, fun k h1 h2 => by omega⟩ ?_ ?_
 ·exact Zi [0] ⟨rfl, rfl, trivial⟩ rfl (by decide) rfl rfl
 rintro i hJ
 refine qS (qS (qR (qM ?_)))
 refine qe (Z0 rfl rfl rfl) ?_
 refine qL 0 Z6 ?_
 refine qe (Zs rfl rfl rfl rfl) ?_
 refine qe eI ?_
 refine qN ?_
 refine Z2 rfl ?_ ?_
 ·intro hc
  have hi : i < c.ifaces.length := by simpa using hc
  refine qK (qS (qB (qS ?_)))
  refine Z0o 12 rfl (by kernel_rfl) ?_
  refine ce (Z0 rfl rfl rfl) ?_
  refine Z8 0 (w0 rfl) rfl rfl rfl rfl rfl Z6 ?_
  refine cM2 ?_
  refine ce (Z9 rfl rfl rfl (Z0b (by first | omega | (simp only [List.length_map]; omega)))) ?_
  refine ce (Zf rfl rfl rfl (Z0a (fun _ => rfl)) (by first | omega | (simp only [List.length_map]; omega) | (simp only [List.length_map, List.length_drop]; omega)) (by first | omega | (simp only [List.length_map]; omega) | (simp only [List.length_map, List.length_drop]; omega))) ?_
  refine ce (Z03 rfl rfl (Z0e (by first | assumption | omega | (simp only [List.length_drop]; omega))) Z6) ?_
  refine ce (Z0 rfl rfl rfl) ?_
  refine Z8 0 (w0 rfl) rfl rfl rfl rfl rfl Z6 ?_
  refine cM2 ?_
  refine ce (Zf rfl rfl rfl (Z0a (fun _ => rfl)) (by first | omega | (simp only [List.length_map]; omega) | (simp only [List.length_map, List.length_drop]; omega)) (by first | omega | (simp only [List.length_map]; omega) | (simp only [List.length_map, List.length_drop]; omega))) ?_
  refine ce (Z03 rfl rfl (Z0e (by first | assumption | omega | (simp only [List.length_drop]; omega))) Z6) ?_
  refine ce (Z0l rfl rfl rfl rfl) ?_
  refine .done (qN ?_)
  refine Z2 rfl ?_ ?_
  ·intro hc
   have hg : gI c i = false := by rw [gI, ← Z31 hJ.1 hi (by omega), ← Z2r hi]; exact Z20 hc
   refine qS (qR (qA (qN (qE ?_))))
   exact Z0k rfl (Z4 rfl Z3) (gb (by unfold orderedC; rw [Z4h hi hJ.1 hg]; rfl))
  ·intro hc
   have hg : gI c i = true := by rw [gI, ← Z31 hJ.1 hi (by omega), ← Z2r hi]; exact Z2s hc
   refine qK (qR (qM ?_))
   refine qe (Z9 rfl rfl rfl (Zo (by first | omega | (simp only [List.length_map]; omega)))) ?_
   refine qA (qN ?_)
   refine ⟨i + 1, ⟨by omega, fun k h1 h2 => by rcases Nat.lt_succ_iff_lt_or_eq.1 h1 with h | h; exact hJ.2 k h h2; rw [h]; exact hg⟩, (by omega), ?_⟩
   exact qp [0] ⟨rfl, rfl, trivial⟩
 ·intro hc
  have hi : ¬ i < c.ifaces.length := by simpa using hc
  have all4 := Z55 hJ.2 (by omega : c.ifaces.length ≤ i)
  refine qX (qS (qS (qR (qA (qN (qB ?_))))))
  refine Zj (α := Nat) (fun i => ⟨[(4, iA i), (1, .ptr id1 7 0 0)], [(id1, .rows 53 7 [c.cells])], [], 66⟩) (fun i => 0 < i ∧ ∀ k, k < i → 0 < k → gF c k = true) (fun i => c.fields.length - i) 1 ⟨by omega, fun k h1 h2 => by omega⟩ ?_ ?_
  ·exact Zi [0] ⟨rfl, rfl, trivial⟩ rfl (by decide) rfl rfl
  rintro i hJ
  refine qS (qS (qR (qM ?_)))
  refine qe (Z0 rfl rfl rfl) ?_
  refine qL 0 Z6 ?_
  refine qe (Zs rfl rfl rfl rfl) ?_
  refine qe eI ?_
  refine qN ?_
  refine Z2 rfl ?_ ?_
  ·intro hc
   have hi : i < c.fields.length := by simpa using hc
   refine qK (qS (qB (qS ?_)))
   refine Zw [0, 1, 0, 4, 15, 31, 63, 0, 128, 0, 896, 1920, 3968, 8191] 14 rfl (by kernel_rfl) ?_
   refine ce (Z0 rfl rfl rfl) ?_
   refine Z8 0 (w0 rfl) rfl rfl rfl rfl rfl Z6 ?_
   refine cM2 ?_
   refine ce (Z9 rfl rfl rfl (Z0b (by first | omega | (simp only [List.length_map]; omega)))) ?_
   refine ce (Zf rfl rfl rfl (Z0a (fun _ => rfl)) (by first | omega | (simp only [List.length_map]; omega) | (simp only [List.length_map, List.length_drop]; omega)) (by first | omega | (simp only [List.length_map]; omega) | (simp only [List.length_map, List.length_drop]; omega))) ?_
   refine ce (Z0 rfl rfl rfl) ?_
   refine ce (Z03 rfl rfl (Z0e (by first | assumption | omega | (simp only [List.length_drop]; omega))) Z6) ?_
   refine ce (Z0 rfl rfl rfl) ?_
   refine Z8 0 (w0 rfl) rfl rfl rfl rfl rfl Z6 ?_
   refine cM2 ?_
   refine ce (Zf rfl rfl rfl (Z0a (fun _ => rfl)) (by first | omega | (simp only [List.length_map]; omega) | (simp only [List.length_map, List.length_drop]; omega)) (by first | omega | (simp only [List.length_map]; omega) | (simp only [List.length_map, List.length_drop]; omega))) ?_
   refine ce (Z0 rfl rfl rfl) ?_
   refine ce (Z03 rfl rfl (Z0e (by first | assumption | omega | (simp only [List.length_drop]; omega))) Z6) ?_
   refine ce (Z0l rfl rfl rfl rfl) ?_
   refine .done (qN ?_)
   refine Z2 rfl ?_ ?_
   ·intro hc
    have hg : gF c i = false := by rw [gF, ← Z31 hJ.1 hi (by omega), ← Z2r hi]; exact Z20 hc
    refine qS (qR (qA (qN (qE ?_))))
    exact Z0k rfl (Z4 rfl Z3) (gb (by unfold orderedC; rw [all4, Z4h hi hJ.1 hg]; rfl))
   ·intro hc
    have hg : gF c i = true := by rw [gF, ← Z31 hJ.1 hi (by omega), ← Z2r hi]; exact Z2s hc
    refine qK (qR (qM ?_))
    refine qe (Z9 rfl rfl rfl (Zo (by first | omega | (simp only [List.length_map]; omega)))) ?_
    refine qA (qN ?_)
    refine ⟨i + 1, ⟨by omega, fun k h1 h2 => by rcases Nat.lt_succ_iff_lt_or_eq.1 h1 with h | h; exact hJ.2 k h h2; rw [h]; exact hg⟩, (by omega), ?_⟩
    exact qp [0] ⟨rfl, rfl, trivial⟩
  ·intro hc
   have hi : ¬ i < c.fields.length := by simpa using hc
   have all9 := Z55 hJ.2 (by omega : c.fields.length ≤ i)
   refine qX (qS (qS (qR (qA (qN (qB ?_))))))
   refine Zj (α := Nat) (fun i => ⟨[(5, iA i), (1, .ptr id1 7 0 0)], [(id1, .rows 53 7 [c.cells])], [], 66⟩) (fun i => 0 < i ∧ ∀ k, k < i → 0 < k → gM c k = true) (fun i => c.methods.length - i) 1 ⟨by omega, fun k h1 h2 => by omega⟩ ?_ ?_
   ·exact Zi [0] ⟨rfl, rfl, trivial⟩ rfl (by decide) rfl rfl
   rintro i hJ
   refine qS (qS (qR (qM ?_)))
   refine qe (Z0 rfl rfl rfl) ?_
   refine qL 0 Z6 ?_
   refine qe (Zs rfl rfl rfl rfl) ?_
   refine qe eI ?_
   refine qN ?_
   refine Z2 rfl ?_ ?_
   ·intro hc
    have hi : i < c.methods.length := by simpa using hc
    refine qK (qS (qB (qS ?_)))
    refine Zw [0, 1, 0, 4, 15, 31, 0, 64, 0, 448, 960, 2047, 4095] 13 rfl (by kernel_rfl) ?_
    refine ce (Z0 rfl rfl rfl) ?_
    refine Z8 0 (w0 rfl) rfl rfl rfl rfl rfl Z6 ?_
    refine cM2 ?_
    refine ce (Z9 rfl rfl rfl (Z0b (by first | omega | (simp only [List.length_map]; omega)))) ?_
    refine ce (Zf rfl rfl rfl (Z0a (fun _ => rfl)) (by first | omega | (simp only [List.length_map]; omega) | (simp only [List.length_map, List.length_drop]; omega)) (by first | omega | (simp only [List.length_map]; omega) | (simp only [List.length_map, List.length_drop]; omega))) ?_
    refine ce (Z03 rfl rfl (Z0e (by first | assumption | omega | (simp only [List.length_drop]; omega))) (Z01 (Nat.le_of_ble_eq_true rfl))) ?_
    refine ce (Z0 rfl rfl rfl) ?_
    refine Z8 0 (w0 rfl) rfl rfl rfl rfl rfl Z6 ?_
    refine cM2 ?_
    refine ce (Zf rfl rfl rfl (Z0a (fun _ => rfl)) (by first | omega | (simp only [List.length_map]; omega) | (simp only [List.length_map, List.length_drop]; omega)) (by first | omega | (simp only [List.length_map]; omega) | (simp only [List.length_map, List.length_drop]; omega))) ?_
    refine ce (Z03 rfl rfl (Z0e (by first | assumption | omega | (simp only [List.length_drop]; omega))) (Z01 (Nat.le_of_ble_eq_true rfl))) ?_
    refine ce (Z7 [] rfl rfl rfl (Zau _ _) List.nodup_nil) ?_
    refine ce (Zx rfl rfl) ?_
    refine .done (qN ?_)
    refine Z2 rfl ?_ ?_
    ·intro hc
     have hg : gM c i = false := by rw [gM, ← Z31 hJ.1 hi (by omega), ← Z2r hi]; exact Z20 hc
     refine qS (qR (qA (qN (qE ?_))))
     exact Z0k rfl (Z4 rfl Z3) (gb (by unfold orderedC; rw [all4, all9, Z4h hi hJ.1 hg]; rfl))
    ·intro hc
     have hg : gM c i = true := by rw [gM, ← Z31 hJ.1 hi (by omega), ← Z2r hi]; exact Z2s hc
     refine qK (qR (qM ?_))
     refine qe (Z9 rfl rfl rfl (Zo (by first | omega | (simp only [List.length_map]; omega)))) ?_
     refine qA (qN ?_)
     refine ⟨i + 1, ⟨by omega, fun k h1 h2 => by rcases Nat.lt_succ_iff_lt_or_eq.1 h1 with h | h; exact hJ.2 k h h2; rw [h]; exact hg⟩, (by omega), ?_⟩
     exact qp [0] ⟨rfl, rfl, trivial⟩
   ·intro hc
    have hi : ¬ i < c.methods.length := by simpa using hc
    have all14 := Z55 hJ.2 (by omega : c.methods.length ≤ i)
    refine qX (qS (qR (qA (qN (qE ?_)))))
    exact Z0k rfl (Z4 rfl Z3) (gb (by unfold orderedC; rw [all4, all9, all14]; rfl))
theorem Z9i {p : Prog} {i : Nat} (hi : i < p.classes.length) : inOrdK p i = !(!orderedC p.classes[i] || (decide ((i : Int) > 0) && !ltS (p.classes.getD ((i : Int) - 1).toNat default).name (p.classes.getD (i : Int).toNat default).name)) := by
 unfold inOrdK gC
 rw [show (i : Int).toNat = i from rfl, ← Z2r hi]
 cases i with
 | zero => simp
 | succ k =>
  rw [show Nat.beq (k + 1) 0 = false from rfl, decide_eq_true (by omega : ((k + 1 : Nat) : Int) > 0), show (((k + 1 : Nat) : Int) - 1).toNat = k + 1 - 1 by omega]
  cases orderedC p.classes[k + 1] <;> simp
theorem Zfr (p : Prog) (hp : p.ok) : ACalls Tryz.prog 61 [p.av] [] (Gives (bA (inOrdR p))) := by
 have hb := hp.classes.1
 simp only [small] at hb
 refine Zd (n := 38) Tryz.func61 rfl (by decide +kernel) rfl rfl ?_
 refine qS (qR ?_)
 refine Z05 (w0 rfl) rfl (fun id => Z0c id rfl rfl rfl rfl rfl) (fun id1 => ?_)
 refine qA (qN (qS (qS (qR (qA (qN (qB ?_)))))))
 refine Zj (α := Nat) (fun i => ⟨[(3, iA i), (1, .ptr id1 5 0 0)], [(id1, .rows 27 5 [p.cells])], [], 38⟩) (fun i => ∀ k, k < i → inOrdK p k = true) (fun i => p.classes.length - i) 0 (fun k h => by omega) ?_ ?_
 ·exact Zi [0] ⟨rfl, rfl, trivial⟩ rfl (by decide) rfl rfl
 rintro i hJ
 refine qS (qS (qR (qM ?_)))
 refine qe (Z0 rfl rfl rfl) ?_
 refine qL 0 Z6 ?_
 refine qe (Zs rfl rfl rfl rfl) ?_
 refine qe eI ?_
 refine qN ?_
 refine Z2 rfl ?_ ?_
 ·intro hc
  have hi : i < p.classes.length := by simpa using hc
  refine qK (qS (qB (qS ?_)))
  refine Zw [0, 1, 0, 7, 15, 31, 63, 127, 255, 511, 1023, 2047, 4095, 2047, 10239, 32767, 65535, 131071, 2047, 264191, 2047, 1837055, 3934207, 8128511, 16777215, 33554431, 67108863] 27 rfl (by kernel_rfl) ?_
  refine ce (Z0 rfl rfl rfl) ?_
  refine Z8 0 (w0 rfl) rfl rfl rfl rfl rfl Z6 ?_
  refine cM2 ?_
  refine ce (Zf rfl rfl rfl (Z0a (fun _ => rfl)) (by first | omega | (simp only [List.length_map]; omega) | (simp only [List.length_map, List.length_drop]; omega)) (by first | omega | (simp only [List.length_map]; omega) | (simp only [List.length_map, List.length_drop]; omega))) ?_
  refine ce (Z03 rfl rfl (Z0e (by first | assumption | omega | (simp only [List.length_drop]; omega))) (Z01 (Nat.le_of_ble_eq_true rfl))) ?_
  refine ce (Z7 [] rfl rfl rfl (Zb7 _ (hp.classes.2 _ (List.getElem_mem hi))) List.nodup_nil) ?_
  refine ce (Zx rfl rfl) ?_
  refine cM2 (cFM ?_)
  refine Zc (wF rfl rfl rfl rfl) rfl (fun hg => (Zm rfl (Za hg rfl) rfl rfl)) ?_
  refine Zc (wF rfl rfl rfl rfl) rfl (fun hg => (Z00 rfl (Za hg rfl))) ?_
  refine Zc (wTg rfl rfl rfl rfl) rfl (fun hg => (Z0 rfl rfl rfl)) ?_
  refine Z1e 0 (wTg rfl rfl rfl rfl) rfl rfl (fun hg => (Za hg rfl)) rfl rfl Z6 ?_
  refine Zc (wTg rfl rfl rfl rfl) rfl (fun hg => (Z00 rfl rfl)) ?_
  refine Zc (wTg rfl rfl rfl rfl) rfl (fun hg => (Z9 rfl (Za hg rfl) rfl (Z0b (by first | omega | (simp only [List.length_map]; omega))))) ?_
  refine Zc (wTg rfl rfl rfl rfl) rfl (fun hg => (Zf rfl (Za hg rfl) (Za hg rfl) (Z0a (fun _ => rfl)) (by (try simp at hg) <;> first | omega | (simp only [List.length_map]; omega) | (simp only [List.length_map, List.length_drop]; omega)) (by (try simp at hg) <;> first | omega | (simp only [List.length_map]; omega) | (simp only [List.length_map, List.length_drop]; omega)))) ?_
  refine Zc (wTg rfl rfl rfl rfl) rfl (fun hg => (Z0 rfl (Za hg rfl) rfl)) ?_
  refine Zc (wTg rfl rfl rfl rfl) rfl (fun hg => (Z03 rfl (Za hg rfl) (Z4d (by (try simp at hg) <;> first | assumption | omega | (simp only [List.length_drop]; omega))) Z6)) ?_
  refine Zc (wTg rfl rfl rfl rfl) rfl (fun hg => (Z0 rfl rfl rfl)) ?_
  refine Z1e 0 (wTg rfl rfl rfl rfl) rfl rfl (fun hg => (Za hg rfl)) rfl rfl Z6 ?_
  refine Zc (wTg rfl rfl rfl rfl) rfl (fun hg => (Z00 rfl rfl)) ?_
  refine Zc (wTg rfl rfl rfl rfl) rfl (fun hg => (Zf rfl (Za hg rfl) (Za hg rfl) (Z0a (fun _ => rfl)) (by (try simp at hg) <;> first | omega | (simp only [List.length_map]; omega) | (simp only [List.length_map, List.length_drop]; omega)) (by (try simp at hg) <;> first | omega | (simp only [List.length_map]; omega) | (simp only [List.length_map, List.length_drop]; omega)))) ?_
  refine Zc (wTg rfl rfl rfl rfl) rfl (fun hg => (Z0 rfl (Za hg rfl) rfl)) ?_
  refine Zc (wTg rfl rfl rfl rfl) rfl (fun hg => (Z03 rfl (Za hg rfl) (Z4d (by (try simp at hg) <;> first | assumption | omega | (simp only [List.length_drop]; omega))) Z6)) ?_
  refine Zc (wTg rfl rfl rfl rfl) rfl (fun hg => (Z0l rfl (Za hg rfl) (Za hg rfl) rfl)) ?_
  refine Zc (wF rfl rfl rfl rfl) rfl (fun hg => (Zq rfl (Za hg rfl) rfl (fun h => by first | (simp [h, hg]; done) | (rw [hg, h]; rfl) | (simp_all; done)))) ?_
  refine ce (Z0h rfl rfl rfl (fun h => by rw [h]; rfl)) ?_
  refine .done (qN ?_)
  refine Z2 rfl ?_ ?_
  ·intro hc
   have hg : inOrdK p i = false := by rw [Z9i hi]; exact congrArg (!·) hc
   refine qS (qR (qA (qN (qE ?_))))
   exact Z0k rfl (Z4 rfl Z3) (gb (Z73 hi hg).symm)
  ·intro hc
   have hg : inOrdK p i = true := by rw [Z9i hi]; exact congrArg (!·) hc
   refine qK (qR (qM ?_))
   refine qe (Z9 rfl rfl rfl (Zo (by first | omega | (simp only [List.length_map]; omega)))) ?_
   refine qA (qN ?_)
   refine ⟨i + 1, (fun k h => by rcases Nat.lt_succ_iff_lt_or_eq.1 h with h | h; exact hJ k h; rw [h]; exact hg), (by omega), ?_⟩
   exact qp [0] ⟨rfl, rfl, trivial⟩
 ·intro hc
  have hi : ¬ i < p.classes.length := by simpa using hc
  refine qX (qS (qR (qA (qN (qE ?_)))))
  exact Z0k rfl (Z4 rfl Z3) (gb (Z56 fun k hk => hJ k (by omega)).symm)
theorem Zb9 (p : Prog) (hp : p.ok) : ACalls Tryz.prog 19 [p.av] [] (Gives (iA (rightR p))) := by
 have hb := hp.classes.1
 simp only [small] at hb
 refine Zd (n := 27) Tryz.func19 rfl (by decide +kernel) rfl rfl ?_
 refine qS (qR ?_)
 refine Z05 (w0 rfl) rfl (fun id => Z0c id rfl rfl rfl rfl rfl) (fun id1 => ?_)
 refine qA (qN (qS (qS (qR ?_))))
 refine qL 0 (Z01 (Nat.le_of_ble_eq_true rfl)) ?_
 refine qe (Z7 [] rfl rfl rfl (Zdq p hp) List.nodup_nil) ?_
 refine qN ?_
 refine Z2 rfl ?_ ?_
 ·intro hc
  have t1 : longR p = true := hc
  refine qS (qR (qA (qN (qE ?_))))
  exact Z0k rfl (Z4 rfl Z3) (gi (by unfold rightR; rw [if_pos t1]))
 ·intro hc
  have t1 : longR p = false := hc
  refine qK (qS (qS (qR (qA (qN (qB ?_))))))
  refine Zj (α := Nat) (fun i => ⟨[(3, iA i), (1, .ptr id1 5 0 0)], [(id1, .rows 27 5 [p.cells])], [], 27⟩) (fun i => (p.classes.drop i).any (fun c => !clsR8 c) = p.classes.any (fun c => !clsR8 c)) (fun i => p.classes.length - i) 0 rfl ?_ ?_
  ·exact Zi [0] ⟨rfl, rfl, trivial⟩ rfl (by decide) rfl rfl
  rintro i hJ
  refine qS (qS (qR (qM ?_)))
  refine qe (Z0 rfl rfl rfl) ?_
  refine qL 0 Z6 ?_
  refine qe (Zs rfl rfl rfl rfl) ?_
  refine qe eI ?_
  refine qN ?_
  refine Z2 rfl ?_ ?_
  ·intro hc
   have hi : i < p.classes.length := by simpa using hc
   refine qK (qS (qB (qS (qR ?_))))
   refine qe (Z0 rfl rfl rfl) ?_
   refine qL 0 Z6 ?_
   refine qM ?_
   refine qe (Zf rfl rfl rfl (Z0a (fun _ => rfl)) (by first | omega | (simp only [List.length_map]; omega) | (simp only [List.length_map, List.length_drop]; omega)) (by first | omega | (simp only [List.length_map]; omega) | (simp only [List.length_map, List.length_drop]; omega))) ?_
   refine qe (Z03 rfl rfl (Z0e (by first | assumption | omega | (simp only [List.length_drop]; omega))) (Z01 (Nat.le_of_ble_eq_true rfl))) ?_
   refine qe (Z7 [] rfl rfl rfl (Zfd _ (hp.classes.2 _ (List.getElem_mem hi))) List.nodup_nil) ?_
   refine qe (Zx rfl rfl) ?_
   refine qN ?_
   refine Z2 rfl ?_ ?_
   ·intro hc
    have hq : (fun c => !clsR8 c) p.classes[i] = true := hc
    have t4 : p.classes.any (fun c => !clsR8 c) = true := Z1x hJ hi hq
    refine qS (qR (qA (qN (qE ?_))))
    exact Z0k rfl (Z4 rfl Z3) (gi (by unfold rightR; rw [if_neg (by rw [t1]; simp), if_pos t4]))
   ·intro hc
    have hq : (fun c => !clsR8 c) p.classes[i] = false := hc
    refine qK (qR (qM ?_))
    refine qe (Z9 rfl rfl rfl (Zo (by first | omega | (simp only [List.length_map]; omega)))) ?_
    refine qA (qN ?_)
    refine ⟨i + 1, (Z1v hJ hi hq), (by omega), ?_⟩
    exact qp [0] ⟨rfl, rfl, trivial⟩
  ·intro hc
   have hi : ¬ i < p.classes.length := by simpa using hc
   have t4 : p.classes.any (fun c => !clsR8 c) = false := Z2a hJ hi
   refine qX (qS (qS (qR ?_)))
   refine qe (Z0 rfl rfl rfl) ?_
   refine qL 0 (Z01 (Nat.le_of_ble_eq_true rfl)) ?_
   refine qe (Z7 [] rfl rfl rfl (Zaw p.entry) List.nodup_nil) ?_
   refine qe (Zx rfl rfl) ?_
   refine qN ?_
   refine Z2 rfl ?_ ?_
   ·intro hc
    have t8 : (!entryR p.entry) = true := hc
    refine qS (qR (qA (qN (qE ?_))))
    exact Z0k rfl (Z4 rfl Z3) (gi (by unfold rightR; rw [if_neg (by rw [t1]; simp), if_neg (by rw [t4]; simp), if_pos t8]))
   ·intro hc
    have t8 : (!entryR p.entry) = false := hc
    refine qK (qS (qS (qR ?_)))
    refine qL 0 (Z01 (Nat.le_of_ble_eq_true rfl)) ?_
    refine qe (Z7 [] rfl rfl rfl (Zfr p hp) List.nodup_nil) ?_
    refine qe (Zx rfl rfl) ?_
    refine qN ?_
    refine Z2 rfl ?_ ?_
    ·intro hc
     have t10 : (!inOrdR p) = true := hc
     refine qS (qR (qA (qN (qE ?_))))
     exact Z0k rfl (Z4 rfl Z3) (gi (by unfold rightR; rw [if_neg (by rw [t1]; simp), if_neg (by rw [t4]; simp), if_neg (by rw [t8]; simp), if_pos t10]))
    ·intro hc
     have t10 : (!inOrdR p) = false := hc
     refine qK (qS (qR (qA (qN (qE ?_)))))
     exact Z0k rfl (Z4 rfl Z3) (gi (by unfold rightR; rw [if_neg (by rw [t1]; simp), if_neg (by rw [t4]; simp), if_neg (by rw [t8]; simp), if_neg (by rw [t10]; simp)]))
end Go.Sx
namespace Go.Sx
open Go
theorem Z41 {a b : Str} {i : Nat} (h : i < a.size) : byteAt (a ++ b) (i : Nat) = byteAt a (i : Nat) := by
 rw [Z2m (show i < (a ++ b).size by rw [ByteArray.size_append]; omega), Z2m h, ByteArray.getElem_append_left h]
theorem Z59 {a b : Str} {i : Nat} (h : a.size ≤ i) (h2 : i < (a ++ b).size) : byteAt (a ++ b) (i : Nat) = byteAt b ((i - a.size : Nat) : Int) := by
 have h3 : i - a.size < b.size := by rw [ByteArray.size_append] at h2; omega
 rw [Z2m h2, Z2m h3, ByteArray.getElem_append_right h]
theorem Z64 {s : Str} {a b i : Nat} (h : i < (s.extract a b).size) : byteAt (s.extract a b) (i : Nat) = byteAt s ((a + i : Nat) : Int) := by
 have h2 : a + i < s.size := by rw [ByteArray.size_extract] at h; omega
 rw [Z2m h, Z2m h2, ByteArray.getElem_extract]
def okC (c : Int) : Bool := letW c || (c == 47 || (c == 59 || (c == 91 || (c == 40 || c == 41))))
def okS (s : Str) : Prop := ∀ i, i < s.size → okC (byteAt s (i : Nat)) = true
theorem Z69 {c : Int} (h : letW c = true) : 33 ≤ c ∧ c ≤ 126 ∧ c ≠ 42 ∧ c ≠ 63 ∧ c ≠ 46 ∧ c ≠ 40 := by
 unfold letW at h
 simp only [Bool.or_eq_true, Bool.and_eq_true, beq_iff_eq, decide_eq_true_eq] at h
 omega
theorem Zgk {c : Int} (h : letW c = true) : okC c = true := by unfold okC; rw [h]; rfl
theorem Zhg {s : Str} (h : beqS s zS = false) : 1 ≤ s.size := by
 rcases Nat.lt_or_ge s.size 1 with h1 | h1
 ·have : s = zS := ByteArray.size_eq_zero_iff.1 (by omega)
  rw [this, Z47] at h; cases h
 ·exact h1
structure NmOk (s : Str) : Prop where
 ok : okS s
 lo : 1 ≤ s.size
 hi : s.size ≤ 32
theorem Zao {s : Str} {m : Int} (hm : okC m = true) (h : allW s m = true) : NmOk s := by
 unfold allW at h
 simp only [Bool.and_eq_true, Bool.not_eq_true', decide_eq_true_eq] at h
 refine ⟨fun i hi => ?_, Zhg h.2.1, h.2.2⟩
 have := Z80 h.1 hi
 rcases Bool.or_eq_true _ _ ▸ this with h3 | h3
 ·exact Zgk h3
 ·rw [beq_iff_eq.1 h3]; exact hm
theorem Zbo {s : Str} (h : clsW s = true) : NmOk s := Zao (m := 47) (by decide) h
theorem Ze9 {s : Str} (h : nameW s = true) (hn : s ≠ nInit') : NmOk s := by
 unfold nameW at h
 rcases Bool.or_eq_true _ _ ▸ h with h | h
 ·exact absurd (beqS_iff.1 h) hn
 ·exact Zao (m := 95) (by decide) h
theorem Zeb {s : Str} {k : Nat} (h : nxA s k = k + 1) : byteAt s (k : Nat) = 91 := by
 unfold nxA at h
 split at h
 ·rename_i ha
  unfold arrA at ha
  simp only [Bool.and_eq_true, beq_iff_eq] at ha
  exact ha.2
 ·omega
theorem Z6a {s : Str} {k : Nat} (h : (nextR s k).2.2 = true) (i : Nat) (h1 : k ≤ i) (h2 : i < (nextR s k).2.1) : okC (byteAt s (i : Nat)) = true := by
 have h0 := Zc8 s k
 have hfst : i < nxA s k → okC (byteAt s (i : Nat)) = true := fun hlt => by
  have e : nxA s k = k + 1 := by omega
  have e2 : i = k := by omega
  rw [e2, Zeb e]; decide
 unfold nextR at h h2
 split at h
 ·cases h
 ·rename_i c1
  rw [if_neg c1] at h2
  split at h
  ·rename_i c2
   rw [if_pos c2] at h2
   rcases Nat.lt_or_ge i (nxA s k) with g | g
   ·exact hfst g
   ·have e : i = nxA s k := by simp only at h2; omega
    rw [e, c2]; decide
  ·rename_i c2
   rw [if_neg c2] at h2
   split at h
   ·rename_i c3
    rw [if_pos c3] at h2
    rcases Nat.lt_or_ge i (nxA s k) with g | g
    ·exact hfst g
    ·have e : i = nxA s k := by simp only at h2; omega
     rw [e, c3]; decide
   ·rename_i c3
    rw [if_neg c3] at h2
    split at h
    ·rename_i c4
     rw [if_pos c4] at h2
     split at h
     ·cases h
     ·rename_i c5
      rw [if_neg c5] at h2
      simp only at h2
      have hsl := Zch (s := s) (t := nxA s k) (by omega)
      have hlt : semi s (nxA s k) < s.size := by rcases Nat.lt_or_ge (semi s (nxA s k)) s.size with g | g; exact g; exact absurd (.inl g) c5
      have hcls : clsW (s.extract (nxA s k + 1) (semi s (nxA s k))) = true := by
       cases hc : clsW (s.extract (nxA s k + 1) (semi s (nxA s k))) with
       | true => rfl
       | false => exact absurd (.inr hc) c5
      have hok := Zbo hcls
      rcases Nat.lt_or_ge i (nxA s k) with g | g
      ·exact hfst g
      ·rcases Nat.eq_or_lt_of_le g with g | g
       ·rw [← g, c4]; decide
       ·rcases Nat.lt_or_ge i (semi s (nxA s k)) with g2 | g2
        ·have hsz : (s.extract (nxA s k + 1) (semi s (nxA s k))).size = semi s (nxA s k) - (nxA s k + 1) := by rw [ByteArray.size_extract]; omega
         have h5 := hok.ok (i - (nxA s k + 1)) (by omega)
         rw [Z64 (by omega), show nxA s k + 1 + (i - (nxA s k + 1)) = i by omega] at h5
         exact h5
        ·have e : i = semi s (nxA s k) := by omega
         rw [e, Zgo hlt]; decide
    ·cases h
theorem Z6b {s : Str} : ∀ (n k : Nat) (o o' : List Ty) (k' : Nat), parF s n k o = some (o', k') → k ≤ k' ∧ (∀ i, k ≤ i → i < k' → okC (byteAt s (i : Nat)) = true) ∧ (k' < s.size → byteAt s (k' : Nat) = 41)
 | 0, _, _, _, _, h => by cases h
 | n + 1, k, o, o', k', h => by
  rw [parF] at h
  split at h
  ·split at h
   ·cases h
   ·rename_i h1 h2
    have hok : (nextR s k).2.2 = true := by
     cases hc : (nextR s k).2.2 with
     | true => rfl
     | false => exact absurd (.inl hc) h2
    have hn := Z6w hok
    obtain ⟨g1, g2, g3⟩ := Z6b n _ _ _ _ h
    refine ⟨by omega, fun i a b => ?_, g3⟩
    rcases Nat.lt_or_ge i (nextR s k).2.1 with g | g
    ·exact Z6a hok i a g
    ·exact g2 i g b
  ·rename_i h1
   cases h
   refine ⟨Nat.le_refl _, fun i a b => by omega, fun hlt => ?_⟩
   by_cases h2 : byteAt s (k : Nat) = 41
   ·exact h2
   ·exact absurd ⟨hlt, h2⟩ h1
structure DsOk (s : Str) : Prop where
 ok : okS s
 lo : 1 ≤ s.size
 hi : s.size ≤ 64
 b0 : byteAt s ((0 : Nat) : Int) = 40
theorem Zeo {s : Str} (h : (splitR s).2.2 = 0) : DsOk s := by
 unfold splitR at h
 split at h
 ·exact absurd h (by unfold splitE; simp)
 ·rename_i h1
  split at h
  ·exact absurd h (by unfold splitE; simp)
  ·rename_i h2
   split at h
   ·exact absurd h (by unfold splitE; simp)
   ·rename_i o k hp
    split at h
    ·exact absurd h (by unfold splitE; simp)
    ·rename_i h4
     split at h
     ·rename_i h5; exact absurd h (by unfold splitE; simpa using h5)
     ·rename_i h5
      have h5 : (parseR (s.extract (k + 1) s.size)).2 = 0 := by simpa using h5
      obtain ⟨g1, g2, g3⟩ := Z6b _ _ _ _ _ hp
      have hr : (nextR (s.extract (k + 1) s.size) 0).2.2 = true ∧ (nextR (s.extract (k + 1) s.size) 0).2.1 = (s.extract (k + 1) s.size).size := by
       unfold parseR at h5
       split at h5
       ·simp at h5
       ·rename_i h6
        constructor
        ·cases hc : (nextR (s.extract (k + 1) s.size) 0).2.2 with
         | true => rfl
         | false => exact absurd (.inl hc) h6
        ·by_cases h7 : (nextR (s.extract (k + 1) s.size) 0).2.1 = (s.extract (k + 1) s.size).size
         ·exact h7
         ·exact absurd (.inr h7) h6
      have hsz : (s.extract (k + 1) s.size).size = s.size - (k + 1) := by rw [ByteArray.size_extract]; omega
      have h0 : byteAt s ((0 : Nat) : Int) = 40 := by
       by_cases h6 : byteAt s 0 = 40
       ·exact h6
       ·exact absurd (.inr h6) h2
      refine ⟨fun i hi => ?_, by omega, by omega, h0⟩
      rcases Nat.eq_zero_or_pos i with g | g
      ·rw [g, h0]; decide
      ·rcases Nat.lt_or_ge i k with g4 | g4
       ·exact g2 i g g4
       ·rcases Nat.eq_or_lt_of_le g4 with g4 | g4
        ·rw [← g4, g3 (by omega)]; decide
        ·have h7 := Z6a hr.1 (i - (k + 1)) (Nat.zero_le _) (by rw [hr.2]; omega)
         rw [Z64 (by omega), show k + 1 + (i - (k + 1)) = i by omega] at h7
         exact h7
theorem Z3n {p : Prog} (h : rightR p = 0) {c : Cls} (hc : c ∈ p.classes) : clsR8 c = true := by
 unfold rightR at h
 split at h
 ·cases h
 ·split at h
  ·cases h
  ·rename_i h2
   cases h3 : clsR8 c with
   | true => rfl
   | false => exact absurd (List.any_eq_true.2 ⟨c, hc, by rw [h3]; rfl⟩) h2
theorem Z7c {c : Cls} (h : clsR8 c = true) : NmOk c.name := by
 unfold clsR8 at h
 split at h
 ·cases h
 ·rename_i h1
  cases h2 : clsW c.name with
  | true => exact Zbo h2
  | false => exact absurd (by rw [h2]; rfl) h1
theorem Zbn {c : Cls} (h : clsR8 c = true) : clsW c.name = true := by
 unfold clsR8 at h
 split at h
 ·cases h
 ·rename_i h1
  cases h2 : clsW c.name with
  | true => rfl
  | false => exact absurd (by rw [h2]; rfl) h1
theorem Z9e {c : Cls} (h : clsR8 c = true) {m : Meth} (hm : m ∈ c.methods) : methR m = true := by
 unfold clsR8 at h
 split at h
 ·cases h
 ·split at h
  ·cases h
  ·split at h
   ·cases h
   ·split at h
    ·cases h
    ·cases h2 : methR m with
     | true => rfl
     | false =>
      have : c.methods.any (fun m => !cmR c m) = true := List.any_eq_true.2 ⟨m, hm, by unfold cmR; rw [h2]; rfl⟩
      rw [this] at h; cases h
theorem Z7n {m : Meth} (h : methR m = true) : DsOk m.desc ∧ nameW m.name = true := by
 unfold methR at h
 split at h
 ·cases h
 ·rename_i h1
  have h2 : (((!((splitR m.desc).2.2 == 0) || !nameW m.name) || decide (m.regs < 0)) || decide (m.regs > 32)) = false := by
   cases hb : (((!((splitR m.desc).2.2 == 0) || !nameW m.name) || decide (m.regs < 0)) || decide (m.regs > 32)) with
   | false => rfl
   | true => exact absurd hb h1
  simp only [Bool.or_eq_false_iff, Bool.not_eq_false', beq_iff_eq] at h2
  exact ⟨Zeo h2.1.1.1, h2.1.1.2⟩
end Go.Sx
namespace Go.Sx
open Go
theorem any_iff {l : List Rule} {f : Rule → Bool} : anyR l f = true ↔ ∃ r, r ∈ l ∧ f r = true := by unfold anyR; rw [List.any_eq_true]
theorem memR_parts {r : Rule} {c n d : Str} : memR r c n d = true ↔ r.member = true ∧ ruleR r = true ∧ n ≠ nInit' ∧ globM r.cls c = true ∧ globM r.name n = true ∧ globM r.desc d = true := by
 unfold memR
 simp only [Bool.and_eq_true, Bool.not_eq_true', and_assoc]
 rw [beqS_no]
section
variable {p : Prog} (hR : rightR p = 0) (l : List Rule)
structure FOk (p : Prog) (r : FRef) (f : Fld) : Prop where
 at_ : fldP p r = some f
 name : f.name = r.name
 cls : NmOk r.cls
 nm : NmOk r.name
 ty : rightT f.type = true
 ini : r.name ≠ nInit'
structure MOk (p : Prog) (m : MRef) : Prop where
 at_ : (getP p m).isSome = true
 cls : NmOk m.cls
 nm : NmOk m.name
 ds : DsOk m.desc
 ini : m.name ≠ nInit'
include hR in
theorem Zhx {m : MRef} (h : m ∈ (gaP textT p l).md) : MOk p m := by
 obtain ⟨c, hc, m0, hm0, ha, e⟩ := mem_md.1 h
 obtain ⟨x, hx, hh⟩ := any_iff.1 ha
 unfold mHold at hh
 rw [Bool.and_eq_true] at hh
 have hp := memR_parts.1 hh.2
 have hd := Z7n (Z9e (Z3n hR hc) hm0)
 have h3 : m.name ≠ nInit' := hp.2.2.1
 have h4 : m.name = m0.name := by rw [e]
 refine ⟨hh.1, by rw [e]; exact Z7c (Z3n hR hc), by rw [h4]; exact Ze9 hd.2 (by rw [← h4]; exact h3), by rw [e]; exact hd.1, h3⟩
abbrev gA (p : Prog) (l : List Rule) : Ga := gaP textT p l
abbrev exL (p : Prog) (l : List Rule) : List Rule := exactR p (rootsG (gaP textT p l))
theorem Zgg {x : Str} : x ∈ (rootsG (gA p l)).classes ↔ x ∈ (gA p l).cl := Z39 _ _
theorem Zhu {x : FRef} : x ∈ (rootsG (gA p l)).fields ↔ x ∈ (gA p l).fd := Z39 _ _
theorem Zh6 {x : MRef} : x ∈ (rootsG (gA p l)).methods ↔ x ∈ (gA p l).md := Z39 _ _
theorem Zhm (hR : rightR p = 0) {s : Str} (h : s ∈ (gA p l).cl) : NmOk s := by
 obtain ⟨c, hc, e, _⟩ := mem_cl.1 h
 rw [e]; exact Z7c (Z3n hR hc)
theorem Zh7 {c : Cls} (hc : c ∈ p.classes) {m : Meth} (hm : m ∈ c.methods) : (⟨c.name, m.name, m.desc⟩ : MRef) ∈ (gA p l).md ↔ anyR l (mHold p ⟨c.name, m.name, m.desc⟩) = true := by
 constructor
 ·intro h; obtain ⟨_, _, _, _, h1, _⟩ := mem_md.1 h; exact h1
 ·intro h; exact mem_md.2 ⟨c, hc, m, hm, h, rfl⟩
theorem Zht {r : FRef} (h : r ∈ (gA p l).fd) : r.cls ∈ (gA p l).cl := by
 obtain ⟨c, hc, f, hf, h1, e⟩ := mem_fd.1 h
 rw [e] at h1 ⊢
 exact mem_cl.2 ⟨c, hc, rfl, .inr (.inl ⟨f, hf, h1⟩)⟩
theorem Zhw {r : MRef} (h : r ∈ (gA p l).md) : r.cls ∈ (gA p l).cl := by
 obtain ⟨c, hc, f, hf, h1, e⟩ := mem_md.1 h
 rw [e] at h1 ⊢
 exact mem_cl.2 ⟨c, hc, rfl, .inr (.inr ⟨f, hf, h1⟩)⟩
end
theorem Zi0 {n k : Nat} (h : n ≤ k) (hk : k ≤ 1000) : small n := by unfold small; omega
def SplP (s : Str) (r : Str × Str × Bool) : Prop := ∀ c n, clsW c = true → nameW n = true → s = (c ++ nDot) ++ n → r = (c, n, true)
theorem Zab : ∀ i, i < nInit'.size → byteAt nInit' (i : Nat) ≠ 46 := by
 intro i hi
 have h : i < 8 := hi
 rcases i with _ | _ | _ | _ | _ | _ | _ | _ | i
 all_goals first | decide | omega
theorem Zbp {c : Str} (h : clsW c = true) {i : Nat} (hi : i < c.size) : byteAt c (i : Nat) ≠ 46 := by
 unfold clsW at h
 rw [Bool.and_eq_true] at h
 have := Z80 h.1 hi
 rcases Bool.or_eq_true _ _ ▸ this with h3 | h3
 ·have := Z69 h3; omega
 ·rw [beq_iff_eq] at h3; omega
theorem Zad {n : Str} (h : nameW n = true) {i : Nat} (hi : i < n.size) : byteAt n (i : Nat) ≠ 46 := by
 unfold nameW at h
 rcases Bool.or_eq_true _ _ ▸ h with h | h
 ·have e := beqS_iff.1 h; subst e; exact Zab i hi
 ·unfold allW at h
  rw [Bool.and_eq_true] at h
  have := Z80 h.1 hi
  rcases Bool.or_eq_true _ _ ▸ this with h3 | h3
  ·have := Z69 h3; omega
  ·rw [beq_iff_eq] at h3; omega
theorem Z4p : nDot.size = 1 := rfl
section
variable {c n u : Str} (hc : clsW c = true) (hn : nameW n = true) (he : u = (c ++ nDot) ++ n)
include he in
theorem Z53 : u.size = c.size + 1 + n.size := by rw [he, ByteArray.size_append, ByteArray.size_append, Z4p]
include he in
theorem Zgq : byteAt u (c.size : Nat) = 46 := by
 rw [he, Z41 (by rw [ByteArray.size_append, Z4p]; omega), Z59 (Nat.le_refl _) (by rw [ByteArray.size_append, Z4p]; omega), Nat.sub_self]
 decide +kernel
include hc hn he in
theorem Zen {i : Nat} (hi : i < u.size) (h : byteAt u (i : Nat) = 46) : i = c.size := by
 have hs := Z53 he
 rcases Nat.lt_trichotomy i c.size with g | g | g
 ·rw [he, Z41 (by rw [ByteArray.size_append, Z4p]; omega), Z41 g] at h
  exact absurd h (Zbp hc g)
 ·exact g
 ·rw [he, Z59 (by rw [ByteArray.size_append, Z4p]; omega) (by rw [← he]; exact hi)] at h
  exact absurd h (Zad hn (by rw [ByteArray.size_append, Z4p]; omega))
include hc hn he in
theorem Z7v {k : Nat} (hk : 1 ≤ k) (hk2 : k ≤ u.size) (h : byteAt u ((k - 1 : Nat) : Int) = 46) : u.extract 0 (k - 1) = c ∧ u.extract k u.size = n := by
 have e := Zen hc hn he (by omega) h
 have hs := Z53 he
 rw [e, show k = c.size + 1 by omega]
 constructor
 ·rw [he, ByteArray.append_assoc]; exact ByteArray.extract_append_eq_left rfl
 ·rw [hs, he]
  exact ByteArray.extract_append_eq_right (by rw [ByteArray.size_append, Z4p]) (by rw [ByteArray.size_append, Z4p])
end
theorem SplP.hit {u : Str} {k : Nat} (hk : 1 ≤ k) (hk2 : k ≤ u.size) (h : byteAt u ((k - 1 : Nat) : Int) = 46) : SplP u (u.extract 0 (k - 1), u.extract k u.size, true) := fun c n hc hn he => by
 obtain ⟨e1, e2⟩ := Z7v hc hn he hk hk2 h
 rw [e1, e2]
theorem SplP.not {u : Str} {k : Nat} (hk : 1 ≤ k) (hk2 : k ≤ u.size) (h : byteAt u ((k - 1 : Nat) : Int) = 46) (hb : (clsW (u.extract 0 (k - 1)) && nameW (u.extract k u.size)) = false) (r : Str × Str × Bool) : SplP u r := fun c n hc hn he => by
 obtain ⟨e1, e2⟩ := Z7v hc hn he hk hk2 h
 rw [e1, e2, hc, hn] at hb; cases hb
theorem SplP.none {u : Str} (h : ∀ k, k < u.size → ¬ byteAt u (k : Nat) = 46) (r : Str × Str × Bool) : SplP u r := fun c n hc hn he =>
 absurd (Zgq he) (h _ (by rw [Z53 he]; omega))
theorem Zc1 {p : Prog} (hR : rightR p = 0) (l : List Rule) {s : Str} (hs : s ∈ (rootsG (gA p l)).lookups) {r : Str × Str × Bool} (h : SplP s r) :
  (hasG (rootsG (gA p l)).classes s || (r.2.2 && hasG (rootsG (gA p l)).methods ⟨r.1, r.2.1, nAsk⟩)) = true := by
 have h2 : s ∈ (gA p l).lk ++ (gA p l).cl := (Z39 _ _).1 hs
 rcases List.mem_append.1 h2 with h2 | h2
 ·obtain ⟨c, hc, m, hm, h3, e⟩ := mem_lk.1 h2
  simp only [Bool.and_eq_true] at h3
  have hmd := (Zh7 l hc hm).2 h3.1
  have hk := h _ _ (Zbn (Z3n hR hc)) (Z7n (Z9e (Z3n hR hc) hm)).2 e
  rw [hk]
  have : hasG (rootsG (gA p l)).methods ⟨c.name, m.name, nAsk⟩ = true := hasG_mem.2 ((Zh6 l).2 (by rw [← beqS_iff.1 h3.2.2]; exact hmd))
  rw [this]; simp
 ·rw [hasG_mem.2 ((Zgg l).2 h2)]; rfl
theorem Z7m {p : Prog} (hR : rightR p = 0) (l : List Rule) (s : Str) (hs : s ∈ (rootsG (gA p l)).lookups) : small s.size := by
 have h2 : s ∈ (gA p l).lk ++ (gA p l).cl := (Z39 _ _).1 hs
 rcases List.mem_append.1 h2 with h2 | h2
 ·obtain ⟨c, hc, m, hm, h3, e⟩ := mem_lk.1 h2
  simp only [Bool.and_eq_true] at h3
  have hM := Zhx hR l ((Zh7 l hc hm).2 h3.1)
  have h4 := hM.cls.hi
  have h5 := hM.nm.hi
  simp only at h4 h5
  rw [Z53 e]; unfold small; omega
 ·exact Zi0 (Zhm l hR h2).hi (by omega)
end Go.Sx
namespace Go.Sx
open Go
theorem Z4q {P : Program} {o : Oper} {T : List (Nat × AV)} {t : Nat} {p r : Operand} {u : ByteArray} {l : IntKind} {j : Int} [h : UD P t .string] (ho : o.op = .slice t p none (some r) none)
  (hp : ev T p = some (.v (.string u))) (hr : ev T r = some (.v (.int l j))) (h1 : 0 ≤ j) (h2 : j ≤ u.size) : Eff P o T [] (.v (.string (u.extract 0 j.toNat))) [] :=
 Z0y (by intro c; rw [ho]; nofun) fun C H a w hw hn hv => by
  have e1 := VR.val (hv p (by rw [ho]; simp [Op.operands]) _ hp)
  have e3 := VR.val (hv r (by rw [ho]; simp [Op.operands]) _ hr)
  refine ⟨_, ?_, .v _⟩
  simp [execOp, ho, e1, e3, Instr.sliceAt, Instr.slice, Instr.sliceBounds, run_underlying (d := .string), Z2g rfl h1 h2, Sem.run_bind, Result.andThen, Sem.run_pure]
end Go.Sx
namespace Go.Sx
open Go Go.Proofs
theorem Zb1 (l : List Str) (hl : small l.length) (s : Str) : ACalls Tryz.prog 20 [row1 sA l, sA s] [] (Gives (bA (hasG l s))) := by
 simp only [small] at hl
 refine Zd (n := 18) Tryz.func20 rfl (by decide +kernel) rfl rfl ?_
 refine qS (qR (qA (qN (qS (qS (qR (qA (qN (qB ?_)))))))))
 refine Zj (α := Nat) (fun i => ⟨[(5, iA i), (0, row1 sA l), (1, sA s)], [], [], 18⟩) (fun i => (l.drop i).any (fun x => eqG x s) = l.any (fun x => eqG x s)) (fun i => l.length - i) 0 rfl ?_ ?_
 ·exact Zi [] ⟨rfl, rfl, rfl, trivial⟩ rfl (by decide) rfl rfl
 rintro i hJ
 refine qS (qS (qR (qM (qM ?_))))
 refine qe (Zs rfl rfl rfl rfl) ?_
 refine qe eI ?_
 refine qN ?_
 refine Z2 rfl ?_ ?_
 ·intro hc
  have hi : i < l.length := by simpa using hc
  refine qK (qS (qB (qS (qR (qM (qM ?_))))))
  refine qe (Zf rfl rfl rfl (Z0a (fun _ => rfl)) (by first | omega | (simp only [List.length_map]; omega) | (simp only [List.length_map, List.length_drop]; omega)) (by first | omega | (simp only [List.length_map]; omega) | (simp only [List.length_map, List.length_drop]; omega))) ?_
  refine qe (Z03 rfl rfl (Z0e (by first | assumption | omega | (simp only [List.length_drop]; omega))) Z6) ?_
  refine qM ?_
  refine qe (Z0l rfl rfl rfl rfl) ?_
  refine qN ?_
  refine Z2 rfl ?_ ?_
  ·intro hc
   have hq : (fun x => eqG x s) l[i] = true := by show eqG l[i] s = true; rw [← Zcr]; exact hc
   refine qS (qR (qA (qN (qE ?_))))
   exact Z0k rfl (Z4 rfl Z3) (gb (Z1x hJ hi hq).symm)
  ·intro hc
   have hq : (fun x => eqG x s) l[i] = false := by show eqG l[i] s = false; rw [← Zcr]; exact hc
   refine qK (qR (qM ?_))
   refine qe (Z9 rfl rfl rfl (Zo (by first | omega | (simp only [List.length_map]; omega)))) ?_
   refine qA (qN ?_)
   refine ⟨i + 1, (Z1v hJ hi hq), (by omega), ?_⟩
   exact qp [] ⟨rfl, rfl, rfl, trivial⟩
 ·intro hc
  have hi : ¬ i < l.length := by simpa using hc
  refine qX (qS (qR (qA (qN (qE ?_)))))
  exact Z0k rfl (Z4 rfl Z3) (gb (Z2a hJ hi).symm)
def spl3 (r : Str × Str × Bool) : AV := .tup [sA r.1, sA r.2.1, bA r.2.2]
theorem Zbi (u : Str) (hs : small u.size) : ACalls Tryz.prog 21 [sA u] [] (GSome spl3 (fun r => SplP u r)) := by
 unfold small at hs
 refine Zd (n := 35) Tryz.func21 rfl (by decide +kernel) rfl rfl ?_
 refine qS (qR (qA (qA (qA (qN (qS (qS (qR (qM ?_)))))))))
 refine qe (Zs rfl rfl rfl rfl) ?_
 refine qe (Z9 rfl rfl rfl (Z0b (by first | omega | (simp only [List.length_map]; omega)))) ?_
 refine qA (qN (qB ?_))
 refine Zj (α := Nat) (fun n => ⟨[(5, iA ((n : Int) - 1)), (0, sA u)], [], [], 35⟩) (fun n => n ≤ u.size ∧ ∀ k, n ≤ k → k < u.size → ¬ byteAt u (k : Nat) = 46) (fun n => n) u.size ⟨Nat.le_refl _, fun k h1 h2 => by omega⟩ ?_ ?_
 ·exact Zi [] ⟨rfl, rfl, trivial⟩ rfl (by decide) rfl rfl
 rintro n hJ
 refine qS (qS (qR (qM ?_)))
 refine qe eI ?_
 refine qN ?_
 refine Z2 rfl ?_ ?_
 ·intro hc
  have hn : 1 ≤ n := by simp at hc; omega
  refine qK (qS (qB (qS (qR (qM (qM ?_))))))
  refine qe (Z11 rfl rfl rfl (by first | omega | (simp only [List.length_map]; omega) | (simp only [List.length_map, List.length_drop]; omega)) (by first | omega | (simp only [List.length_map]; omega) | (simp only [List.length_map, List.length_drop]; omega))) ?_
  refine qe eI ?_
  refine qN ?_
  refine Z2 rfl ?_ ?_
  ·intro hc
   have hb : byteAt u ((n - 1 : Nat) : Int) = 46 := by rw [show ((n - 1 : Nat) : Int) = (n : Int) - 1 from (by omega)]; simpa using hc
   refine qS (qS (qR (qM (qM ?_))))
   refine qe (Z4q rfl rfl rfl (by first | omega | (simp only [List.length_map]; omega) | (simp only [List.length_map, List.length_drop]; omega)) (by first | omega | (simp only [List.length_map]; omega) | (simp only [List.length_map, List.length_drop]; omega))) ?_
   refine qe (Z7 [] rfl rfl rfl (Z34 _) List.nodup_nil) ?_
   refine qM (qTM (qTM ?_))
   refine Zb (wT rfl rfl rfl rfl) rfl (fun hg => (Z9 rfl (Za hg rfl) rfl (Zo (by first | omega | (simp only [List.length_map]; omega))))) ?_
   refine Zb (wT rfl rfl rfl rfl) rfl (fun hg => (Z2y rfl (Za hg rfl) (Za hg rfl) (by (try simp at hg) <;> first | omega | (simp only [List.length_map]; omega) | (simp only [List.length_map, List.length_drop]; omega)) (by (try simp at hg) <;> first | omega | (simp only [List.length_map]; omega) | (simp only [List.length_map, List.length_drop]; omega)))) ?_
   refine Zb (wT rfl rfl rfl rfl) rfl (fun hg => (Z7 [] rfl rfl (Ze (Za hg rfl) Z04) (Z5g _) List.nodup_nil)) ?_
   refine qe (Zq rfl rfl rfl (fun h => h)) ?_
   refine qN ?_
   refine Z2 rfl ?_ ?_
   ·intro hc
    have e1 : ((n : Int) - 1).toNat = n - 1 := (by omega)
    have e2 : ((n : Int) - 1 + 1).toNat = n := (by omega)
    refine qS ?_
    refine Z0o 10 rfl (by kernel_rfl) ?_
    refine cM2 (cM2 ?_)
    refine ce (Z4q rfl rfl rfl (by first | omega | (simp only [List.length_map]; omega) | (simp only [List.length_map, List.length_drop]; omega)) (by first | omega | (simp only [List.length_map]; omega) | (simp only [List.length_map, List.length_drop]; omega))) ?_
    refine cM2 (cM2 ?_)
    refine ce (Z9 rfl rfl rfl (Zo (by first | omega | (simp only [List.length_map]; omega)))) ?_
    refine ce (Z2y rfl rfl rfl (by first | omega | (simp only [List.length_map]; omega) | (simp only [List.length_map, List.length_drop]; omega)) (by first | omega | (simp only [List.length_map]; omega) | (simp only [List.length_map, List.length_drop]; omega))) ?_
    refine ce (Z0q rfl rfl) ?_
    refine ce (Z0q rfl rfl) ?_
    refine ce (Z0q rfl rfl) ?_
    refine .done (qN (qE ?_))
    exact Z0k rfl (Z4 rfl (Z4 rfl (Z4 rfl Z3))) (Z13 (u.extract 0 (n - 1), u.extract n u.size, true) (SplP.hit hn hJ.1 hb) (by rw [e1, e2]; rfl))
   ·intro hc
    have e1 : ((n : Int) - 1).toNat = n - 1 := by omega
    have e2 : ((n : Int) - 1 + 1).toNat = n := by omega
    have hq : (clsW (u.extract 0 (n - 1)) && nameW (u.extract n u.size)) = false := by have h := hc; rw [e1, e2] at h; exact h
    refine qK (qS (qR (qA (qA (qA (qN (qE ?_)))))))
    exact Z0k rfl (Z4 rfl (Z4 rfl (Z4 rfl Z3))) (Z13 (zS, zS, false) (SplP.not hn hJ.1 hb hq _) rfl)
  ·intro hc
   have hb : ¬ byteAt u ((n - 1 : Nat) : Int) = 46 := by rw [show ((n - 1 : Nat) : Int) = (n : Int) - 1 from (by omega)]; simpa using hc
   refine qK (qR (qM ?_))
   refine qe (Z9 rfl rfl rfl (Z0b (by first | omega | (simp only [List.length_map]; omega)))) ?_
   refine qA (qN ?_)
   refine ⟨n - 1, ⟨by omega, fun k h1 h2 => by rcases Nat.lt_or_ge k n with h | h; rw [show k = n - 1 by omega]; exact hb; exact hJ.2 k h h2⟩, (by omega), ?_⟩
   exact qp [] ⟨(congrArg (fun n => some (iA n)) (by omega)), rfl, trivial⟩
 ·intro hc
  have hn : n = 0 := by simp at hc; omega
  refine qX (qS (qR (qA (qA (qA (qN (qE ?_)))))))
  exact Z0k rfl (Z4 rfl (Z4 rfl (Z4 rfl Z3))) (Z13 (zS, zS, false) (SplP.none (fun k hk => hJ.2 k (by omega) hk) _) rfl)
theorem Zh5 {α : Type} {G : Prop} (a : α) (h : ∀ x, x = a → G) : G := h a rfl
theorem c_rootsClasses (p : Prog) (hp : p.ok) (l : List Rule) (hl : small l.length) : ACalls Tryz.prog 6 [p.av, .lst (l.map Rule.cells)] [] (Gives (bA true)) := by
 refine Zd (n := 97) Tryz.func6 rfl (by decide +kernel) rfl rfl ?_
 refine qS (qR ?_)
 refine Z05 (w0 rfl) rfl (fun id => Z0c id rfl rfl rfl rfl rfl) (fun id1 => ?_)
 refine qA (qN (qS (qS (qR ?_))))
 refine qL 0 (Z01 (Nat.le_of_ble_eq_true rfl)) ?_
 refine qe (Z7 [] rfl rfl rfl (Zfj p hp) List.nodup_nil) ?_
 refine qM ?_
 refine Zn 0 (wF rfl rfl rfl rfl) rfl rfl (fun hg => rfl) rfl rfl (Z01 (Nat.le_of_ble_eq_true rfl)) ?_
 refine Zb (wF rfl rfl rfl rfl) rfl (fun hg => (Z7 [] rfl rfl (Ze (Za hg rfl) Z04) (Zb9 p hp) List.nodup_nil)) ?_
 refine Zb (wF rfl rfl rfl rfl) rfl (fun hg => (Zm rfl (Za hg rfl) rfl rfl)) ?_
 refine qe (Z0h rfl rfl rfl (fun h => by rw [h]; rfl)) ?_
 refine qN ?_
 refine Z2 rfl ?_ ?_
 ·intro hc
  refine qS (qR ?_)
  refine qe (Z7 [] rfl rfl rfl Z98 List.nodup_nil) ?_
  refine qA (qN (qE ?_))
  exact Z0k rfl (Z4 rfl Z3) (gb rfl)
 ·intro hc
  have hn := orF hc
  have hgr : greatP p = false := hn.1
  have hR : rightR p = 0 := by have := hn.2; simpa using this
  refine qK (qS ?_)
  refine Z0o 5 rfl (by kernel_rfl) ?_
  refine Z8 0 (w0 rfl) rfl rfl rfl rfl rfl (Z01 (Nat.le_of_ble_eq_true rfl)) ?_
  refine cM2 ?_
  refine ce (Z7 [] rfl rfl rfl (Zfh l hl) List.nodup_nil) ?_
  refine ce (Z7 [] rfl rfl rfl (Z78 p hp hgr (fewR l) (by have := Ze1 l; unfold small; omega) (fun r hr => Zga r hr)) List.nodup_nil) ?_
  refine Zh1 (w0 rfl) rfl (fun id => Z08 id rfl rfl rfl) (fun id2 => ?_)
  refine .done ?_
  refine Zu 0 (w0 rfl) rfl rfl rfl rfl rfl rfl rfl rfl rfl ?_
  refine qN (qS (qS ?_))
  refine Zh5 (rootsG (gA p (fewR l))) (fun rv hrv => ?_)
  refine Z1g (s' := ⟨[(5, .ptr id2 7 0 0)], [(id2, .rows 34 7 [rv.cells])], [], 97⟩) (Zi [0] ⟨rfl, trivial⟩ (by rw [hrv]; rfl) (by decide) rfl rfl) ?_
  have hrk : rv.ok := by rw [hrv]; exact Zag hp hgr (fewR l)
  have hmc : ∀ m, m ∈ rv.methods → hasG rv.classes m.cls = true := by rw [hrv]; exact fun m hm => hasG_mem.2 ((Zgg _).2 (Zhw _ ((Zh6 _).1 hm)))
  have hfc : ∀ m, m ∈ rv.fields → hasG rv.classes m.cls = true := by rw [hrv]; exact fun m hm => hasG_mem.2 ((Zgg _).2 (Zht _ ((Zhu _).1 hm)))
  have hlk : ∀ s, s ∈ rv.lookups → ∀ q : Str × Str × Bool, SplP s q → (hasG rv.classes s || (q.2.2 && hasG rv.methods ⟨q.1, q.2.1, nAsk⟩)) = true := by rw [hrv]; exact fun s hs q hq => Zc1 hR (fewR l) hs hq
  have hsz : ∀ s, s ∈ rv.lookups → small s.size := by rw [hrv]; exact Z7m hR (fewR l)
  have n2 := hrk.n2
  have n3 := hrk.n3
  have n7 := hrk.n7
  refine qR (qA (qN (qB ?_)))
  refine Zj (α := Nat) (fun i => ⟨[(6, iA i), (5, .ptr id2 7 0 0)], [(id2, .rows 34 7 [rv.cells])], [], 97⟩) (fun i => True) (fun i => rv.methods.length - i) 0 trivial ?_ ?_
  ·exact Zi [0] ⟨rfl, rfl, trivial⟩ rfl (by decide) rfl rfl
  rintro i hJ
  refine qS (qS (qR (qM ?_)))
  refine qe (Z0 rfl rfl rfl) ?_
  refine qL 0 Z6 ?_
  refine qe (Zs rfl rfl rfl rfl) ?_
  refine qe eI ?_
  refine qN ?_
  refine Z2 rfl ?_ ?_
  ·intro hc
   have hi : i < rv.methods.length := by simpa using hc
   refine qK (qS (qB (qS ?_)))
   refine Z0o 10 rfl (by kernel_rfl) ?_
   refine ce (Z0 rfl rfl rfl) ?_
   refine Z8 0 (w0 rfl) rfl rfl rfl rfl rfl Z6 ?_
   refine ce (Z0 rfl rfl rfl) ?_
   refine Z8 0 (w0 rfl) rfl rfl rfl rfl rfl Z6 ?_
   refine cM2 ?_
   refine ce (Zf rfl rfl rfl (Z0a (fun _ => rfl)) (by first | omega | (simp only [List.length_map]; omega) | (simp only [List.length_map, List.length_drop]; omega)) (by first | omega | (simp only [List.length_map]; omega) | (simp only [List.length_map, List.length_drop]; omega))) ?_
   refine ce (Z0 rfl rfl rfl) ?_
   refine ce (Z03 rfl rfl (Z0e (by first | assumption | omega | (simp only [List.length_drop]; omega))) Z6) ?_
   refine ce (Z7 [] rfl rfl rfl (Zb1 rv.classes (sm6 hrk.n1) _) List.nodup_nil) ?_
   refine ce (Zx rfl rfl) ?_
   refine .done (qN ?_)
   refine Z2 rfl ?_ ?_
   ·intro hc
    exfalso
    have h2 : hasG rv.classes (rv.methods[i]'hi).cls = false := Z20 hc
    rw [hmc _ (List.getElem_mem hi)] at h2; cases h2
   ·intro hc
    refine qK (qR (qM ?_))
    refine qe (Z9 rfl rfl rfl (Zo (by first | omega | (simp only [List.length_map]; omega)))) ?_
    refine qA (qN ?_)
    refine ⟨i + 1, trivial, (by omega), ?_⟩
    exact qp [0] ⟨rfl, rfl, trivial⟩
  ·intro hc
   have hi : ¬ i < rv.methods.length := by simpa using hc
   refine qX (qS (qS (qR (qA (qN (qB ?_))))))
   refine Zj (α := Nat) (fun i => ⟨[(7, iA i), (5, .ptr id2 7 0 0)], [(id2, .rows 34 7 [rv.cells])], [], 97⟩) (fun i => True) (fun i => rv.fields.length - i) 0 trivial ?_ ?_
   ·exact Zi [0] ⟨rfl, rfl, trivial⟩ rfl (by decide) rfl rfl
   rintro i hJ2
   refine qS (qS (qR (qM ?_)))
   refine qe (Z0 rfl rfl rfl) ?_
   refine qL 0 Z6 ?_
   refine qe (Zs rfl rfl rfl rfl) ?_
   refine qe eI ?_
   refine qN ?_
   refine Z2 rfl ?_ ?_
   ·intro hc
    have hi : i < rv.fields.length := by simpa using hc
    refine qK (qS (qB (qS ?_)))
    refine Z0o 10 rfl (by kernel_rfl) ?_
    refine ce (Z0 rfl rfl rfl) ?_
    refine Z8 0 (w0 rfl) rfl rfl rfl rfl rfl Z6 ?_
    refine ce (Z0 rfl rfl rfl) ?_
    refine Z8 0 (w0 rfl) rfl rfl rfl rfl rfl Z6 ?_
    refine cM2 ?_
    refine ce (Zf rfl rfl rfl (Z0a (fun _ => rfl)) (by first | omega | (simp only [List.length_map]; omega) | (simp only [List.length_map, List.length_drop]; omega)) (by first | omega | (simp only [List.length_map]; omega) | (simp only [List.length_map, List.length_drop]; omega))) ?_
    refine ce (Z0 rfl rfl rfl) ?_
    refine ce (Z03 rfl rfl (Z0e (by first | assumption | omega | (simp only [List.length_drop]; omega))) Z6) ?_
    refine ce (Z7 [] rfl rfl rfl (Zb1 rv.classes (sm6 hrk.n1) _) List.nodup_nil) ?_
    refine ce (Zx rfl rfl) ?_
    refine .done (qN ?_)
    refine Z2 rfl ?_ ?_
    ·intro hc
     exfalso
     have h2 : hasG rv.classes (rv.fields[i]'hi).cls = false := Z20 hc
     rw [hfc _ (List.getElem_mem hi)] at h2; cases h2
    ·intro hc
     refine qK (qR (qM ?_))
     refine qe (Z9 rfl rfl rfl (Zo (by first | omega | (simp only [List.length_map]; omega)))) ?_
     refine qA (qN ?_)
     refine ⟨i + 1, trivial, (by omega), ?_⟩
     exact qp [0] ⟨rfl, rfl, trivial⟩
   ·intro hc
    have hi : ¬ i < rv.fields.length := by simpa using hc
    refine qX (qS (qS (qR (qA (qN (qB ?_))))))
    refine Zj (α := Nat) (fun i => ⟨[(8, iA i), (5, .ptr id2 7 0 0)], [(id2, .rows 34 7 [rv.cells])], [], 97⟩) (fun i => True) (fun i => rv.lookups.length - i) 0 trivial ?_ ?_
    ·exact Zi [0] ⟨rfl, rfl, trivial⟩ rfl (by decide) rfl rfl
    rintro i hJ3
    refine qS (qS (qR (qM ?_)))
    refine qe (Z0 rfl rfl rfl) ?_
    refine qL 0 Z6 ?_
    refine qe (Zs rfl rfl rfl rfl) ?_
    refine qe eI ?_
    refine qN ?_
    refine Z2 rfl ?_ ?_
    ·intro hc
     have hi : i < rv.lookups.length := by simpa using hc
     refine qK (qS (qB (qS (qR ?_))))
     refine qe (Z0 rfl rfl rfl) ?_
     refine qL 0 Z6 ?_
     refine qM ?_
     refine qe (Zf rfl rfl rfl (Z0a (fun _ => rfl)) (by first | omega | (simp only [List.length_map]; omega) | (simp only [List.length_map, List.length_drop]; omega)) (by first | omega | (simp only [List.length_map]; omega) | (simp only [List.length_map, List.length_drop]; omega))) ?_
     refine qe (Z03 rfl rfl (Z0e (by first | assumption | omega | (simp only [List.length_drop]; omega))) Z6) ?_
     refine Z14 (w0 rfl) rfl rfl rfl rfl (Zbi _ (hsz _ (List.getElem_mem _))) (fun v3 hv3 => ?_)
     obtain ⟨sc, sm, sb⟩ := v3
     have hsp := hv3
     refine qM ?_
     refine qe (Zg rfl rfl rfl) ?_
     refine qe (Zg rfl rfl rfl) ?_
     refine qe (Zg rfl rfl rfl) ?_
     refine qA (qA (qA (qN (qS ?_))))
     refine Zw [0, 1, 0, 4, 0, 28, 60, 127, 255, 511, 1023, 2047, 4095, 8191, 4095, 4095, 53247, 131071, 262143, 524287, 1048575] 21 rfl (by kernel_rfl) ?_
     refine ce (Z0 rfl rfl rfl) ?_
     refine Z8 0 (w0 rfl) rfl rfl rfl rfl rfl Z6 ?_
     refine ce (Z0 rfl rfl rfl) ?_
     refine Z8 0 (w0 rfl) rfl rfl rfl rfl rfl Z6 ?_
     refine cM2 ?_
     refine ce (Zf rfl rfl rfl (Z0a (fun _ => rfl)) (by first | omega | (simp only [List.length_map]; omega) | (simp only [List.length_map, List.length_drop]; omega)) (by first | omega | (simp only [List.length_map]; omega) | (simp only [List.length_map, List.length_drop]; omega))) ?_
     refine ce (Z03 rfl rfl (Z0e (by first | assumption | omega | (simp only [List.length_drop]; omega))) Z6) ?_
     refine ce (Z7 [] rfl rfl rfl (Zb1 rv.classes (sm6 hrk.n1) _) List.nodup_nil) ?_
     refine ce (Zx rfl rfl) ?_
     refine cM2 (cTM ?_)
     refine Zc (wT rfl rfl rfl rfl) rfl (fun hg => (Z00 rfl (Za hg rfl))) ?_
     refine Zc (wTg rfl rfl rfl rfl) rfl (fun hg => (Z0 rfl rfl rfl)) ?_
     refine Z1e 0 (wTg rfl rfl rfl rfl) rfl rfl (fun hg => (Za hg rfl)) rfl rfl Z6 ?_
     refine Zc (wTg rfl rfl rfl rfl) rfl (fun hg => (Z00 rfl rfl)) ?_
     refine Zc (wTg rfl rfl rfl rfl) rfl (fun hg => (Z00 rfl rfl)) ?_
     refine Zc (wTg rfl rfl rfl rfl) rfl (fun hg => (Z0f rfl (Ze (Za hg rfl) (Ze (Za hg rfl) (Ze rfl Z04))) rfl)) ?_
     refine Zc (wTg rfl rfl rfl rfl) rfl (fun hg => (Z7 [] rfl rfl (Ze (Za hg rfl) (Ze (Za hg rfl) Z04)) (Zdi rv.methods (sm6 hrk.n3) ⟨sc, sm, nAsk⟩) List.nodup_nil)) ?_
     refine Zc (wT rfl rfl rfl rfl) rfl (fun hg => (Zq rfl (Za hg rfl) rfl (fun h => by first | (simp [h, hg]; done) | (rw [hg, h]; rfl) | (simp_all; done)))) ?_
     refine Zc (wT rfl rfl rfl rfl) rfl (fun hg => (Zx rfl (Za hg rfl))) ?_
     refine ce (Zq rfl rfl rfl (fun h => h)) ?_
     refine .done (qN ?_)
     refine Z2 rfl ?_ ?_
     ·intro hc
      exfalso
      have h2 : (!hasG rv.classes (rv.lookups[i]'hi) && !(sb && hasG rv.methods ⟨sc, sm, nAsk⟩)) = true := hc
      have h3 := hlk _ (List.getElem_mem hi) _ hsp
      simp only at h3
      revert h2 h3
      cases hasG rv.classes (rv.lookups[i]'hi) <;> cases (sb && hasG rv.methods ⟨sc, sm, nAsk⟩) <;> simp
     ·intro hc
      refine qK (qR (qM ?_))
      refine qe (Z9 rfl rfl rfl (Zo (by first | omega | (simp only [List.length_map]; omega)))) ?_
      refine qA (qN ?_)
      refine ⟨i + 1, trivial, (by omega), ?_⟩
      exact qp [0] ⟨rfl, rfl, trivial⟩
    ·intro hc
     have hi : ¬ i < rv.lookups.length := by simpa using hc
     refine qX (qS (qR ?_))
     refine qe (Z7 [] rfl rfl rfl Z98 List.nodup_nil) ?_
     refine qA (qN (qE ?_))
     exact Z0k rfl (Z4 rfl Z3) (gb rfl)
end Go.Sx
