/- YtidniaofdcmpfaaGreatRaB5: texts of this claim, one behind the other. -/
import Derived.Test.YtidniaofdcmpfaaGreatRaB4
set_option linter.unusedVariables false
set_option linter.unusedSimpArgs false
set_option linter.unusedSectionVars false
set_option linter.unnecessarySimpa false
namespace Go.Sx
open Go Go.Proofs
theorem Zfd (p : Prog) (hb : small p.classes.length) (nm : Str) : ACalls Tryz.prog 108 [p.av, sA nm] [] (Gives (iA (classAt p nm))) := by
 simp only [small] at hb
 refine Zd (n := 22) Tryz.func108 rfl (by decide +kernel) rfl rfl ?_
 refine qS (qR ?_)
 refine Zy (w0 rfl) rfl (fun id => Z09 id rfl rfl rfl rfl rfl) (fun id1 => ?_)
 refine qA (qN (qS (qS (qR (qA (qN (qB ?_)))))))
 refine Zj (α := Nat) (fun i => ⟨[(5, iA i), (2, .ptr id1 5 0 0), (1, sA nm)], [(id1, .rows 27 5 [p.cells])], [], 22⟩) (fun i => idxFrom (fun c : Cls => beqS c.name nm) (p.classes.drop i) i = classAt p nm) (fun i => p.classes.length - i) 0 rfl ?_ ?_
 ·exact Zb [0] ⟨rfl, rfl, rfl, trivial⟩ rfl (by decide) rfl rfl
 rintro i hJ
 refine qS (qS (qR (qM ?_)))
 refine qe (Z0 rfl rfl rfl) ?_
 refine qL 0 Z3 ?_
 refine qe (Zx rfl rfl rfl rfl) ?_
 refine qe eI ?_
 refine qN ?_
 refine Z2 rfl ?_ ?_
 ·intro hc
  have hi : i < p.classes.length := by simpa using hc
  refine qK (qS (qB (qS (qR ?_))))
  refine qe (Z0 rfl rfl rfl) ?_
  refine qL 0 Z3 ?_
  refine qM ?_
  refine qe (Z6 rfl rfl rfl (Z04 (fun _ => rfl)) (by first | omega | (simp only [List.length_map]; omega) | (simp only [List.length_map, List.length_drop]; omega)) (by first | omega | (simp only [List.length_map]; omega) | (simp only [List.length_map, List.length_drop]; omega))) ?_
  refine qe (Z0 rfl rfl rfl) ?_
  refine qe (Zu rfl rfl (Z0a (by first | assumption | omega | (simp only [List.length_drop]; omega))) Z3) ?_
  refine qM ?_
  refine qe (Z0o rfl rfl rfl rfl) ?_
  refine qN ?_
  refine Z2 rfl ?_ ?_
  ·intro hc
   have hc : beqS (p.classes[i]).name nm = true := hc
   refine qS (qR (qM (qA (qN (qE ?_)))))
   exact Z0p rfl (Z7 rfl Z4) (gi (by rw [← hJ, Z0w hi]; simp [idxFrom, hc]))
  ·intro hc
   have hc : beqS (p.classes[i]).name nm = false := hc
   refine qK (qR (qM ?_))
   refine qe (Z9 rfl rfl rfl (Zn (by first | omega | (simp only [List.length_map]; omega)))) ?_
   refine qA (qN ?_)
   refine ⟨i + 1, (by rw [← hJ, Z0w hi]; simp [idxFrom, hc]), (by omega), ?_⟩
   exact qp [0] ⟨rfl, rfl, rfl, trivial⟩
 ·intro hc
  have hi : ¬ i < p.classes.length := by simpa using hc
  refine qX (qS (qR (qA (qN (qE ?_)))))
  exact Z0p rfl (Z7 rfl Z4) (gi (by rw [← hJ, Z1m hi]; rfl))
theorem Zhk (l : List Str) (hl : small l.length) (s : Str) : ACalls Tryz.prog 73 [row1 sA l, sA s] [] (Gives (bA (inL l s))) := by
 simp only [small] at hl
 refine Zd (n := 18) Tryz.func73 rfl (by decide +kernel) rfl rfl ?_
 refine qS (qR (qA (qN (qS (qS (qR (qA (qN (qB ?_)))))))))
 refine Zj (α := Nat) (fun i => ⟨[(5, iA i), (0, row1 sA l), (1, sA s)], [], [], 18⟩) (fun i => inL (l.drop i) s = inL l s) (fun i => l.length - i) 0 rfl ?_ ?_
 ·exact Zb [] ⟨rfl, rfl, rfl, trivial⟩ rfl (by decide) rfl rfl
 rintro i hJ
 refine qS (qS (qR (qM (qM ?_))))
 refine qe (Zx rfl rfl rfl rfl) ?_
 refine qe eI ?_
 refine qN ?_
 refine Z2 rfl ?_ ?_
 ·intro hc
  have hi : i < l.length := by simpa using hc
  refine qK (qS (qB (qS (qR (qM (qM ?_))))))
  refine qe (Z6 rfl rfl rfl (Z04 (fun _ => rfl)) (by first | omega | (simp only [List.length_map]; omega) | (simp only [List.length_map, List.length_drop]; omega)) (by first | omega | (simp only [List.length_map]; omega) | (simp only [List.length_map, List.length_drop]; omega))) ?_
  refine qe (Zu rfl rfl (Z0a (by first | assumption | omega | (simp only [List.length_drop]; omega))) Z3) ?_
  refine qM ?_
  refine qe (Z0o rfl rfl rfl rfl) ?_
  refine qN ?_
  refine Z2 rfl ?_ ?_
  ·intro hc
   have hc : beqS (l[i]) s = true := hc
   refine qS (qR (qA (qN (qE ?_))))
   exact Z0p rfl (Z7 rfl Z4) (gb (by rw [← hJ, Z0w hi, Z9v, hc]; rfl))
  ·intro hc
   have hc : beqS (l[i]) s = false := hc
   refine qK (qR (qM ?_))
   refine qe (Z9 rfl rfl rfl (Zn (by first | omega | (simp only [List.length_map]; omega)))) ?_
   refine qA (qN ?_)
   refine ⟨i + 1, (by rw [← hJ, Z0w hi, Z9v, hc]; rfl), (by omega), ?_⟩
   exact qp [] ⟨rfl, rfl, rfl, trivial⟩
 ·intro hc
  have hi : ¬ i < l.length := by simpa using hc
  refine qX (qS (qR (qA (qN (qE ?_)))))
  exact Z0p rfl (Z7 rfl Z4) (gb (by rw [← hJ, Z1m hi]; rfl))
theorem Zba (c : Cls) (nm : Str) (idn : Nat) : ACalls Tryz.prog 134 [c.av, .ptr idn 1 0 0] [(idn, .rows 9 1 [[sA nm]])] (GivesH (bA (beqS c.name nm)) [(idn, .rows 9 1 [[sA nm]])]) := by
 refine Zd (n := 8) Tryz.func134 rfl (by decide +kernel) rfl rfl ?_
 refine qS (qR ?_)
 refine Zy (w0 rfl) rfl (fun id => Z09 id rfl rfl rfl rfl rfl) (fun id1 => ?_)
 refine qA (qN (qS (qR ?_)))
 refine qe (Z0 rfl rfl rfl) ?_
 refine qL 0 Z3 ?_
 refine qL 1 Z3 ?_
 refine qe (Z0o rfl rfl rfl rfl) ?_
 refine qA (qN (qE ?_))
 exact Zf rfl (Z7 rfl Z4) (.cons _ (.refl _)) (gvH rfl)
theorem Z8o (cs : List Cls) (hl : small cs.length) (g : Nat) (caps : List AV) (idn : Nat) (ob : AObj) (f : Cls → Bool) (hg : ∀ c, c ∈ cs → ACalls Tryz.prog g (c.av :: caps) [(idn, ob)] (GivesH (bA (f c)) [(idn, ob)])) : ACalls Tryz.prog 133 [.lst (cs.map Cls.cells), .fn (.func g) caps] [(idn, ob)] (GivesH (iA (idxFrom f cs 0)) [(idn, ob)]) := by
 simp only [small] at hl
 refine Zd (n := 19) Tryz.func133 rfl (by decide +kernel) rfl rfl ?_
 refine qS (qR (qA (qN (qS (qS (qR (qM ?_)))))))
 refine qe (Zx rfl rfl rfl rfl) ?_
 refine qM (qN (qB ?_))
 refine Zj (α := Nat) (fun i => ⟨[(8, iA i), (0, .lst (cs.map Cls.cells)), (1, .fn (.func g) caps), (7, iA cs.length)], [(idn, ob)], [], 19⟩) (fun i => i ≤ cs.length ∧ idxFrom f (cs.drop i) i = idxFrom f cs 0) (fun i => cs.length - i) 0 ⟨by omega, rfl⟩ ?_ ?_
 ·exact Zb [0] ⟨rfl, rfl, rfl, (by show some (iA _) = some (iA _); simp), trivial⟩ rfl (by decide) rfl rfl
 rintro i hJ
 refine qS (qR ?_)
 refine qe eI ?_
 refine qN (qS ?_)
 refine Z2 rfl ?_ ?_
 ·intro hc
  have hi : i < cs.length := by simpa using hc
  refine qK (qS (qB (qS (qR (qM (qA (qN (qS (qR (qM (qM (qM ?_))))))))))))
  refine qe (Z6 rfl rfl rfl (Z04 (fun _ => rfl)) (by first | omega | (simp only [List.length_map]; omega) | (simp only [List.length_map, List.length_drop]; omega)) (by first | omega | (simp only [List.length_map]; omega) | (simp only [List.length_map, List.length_drop]; omega))) ?_
  refine qe (Zu rfl rfl (Z0a (by first | assumption | omega | (simp only [List.length_drop]; omega))) (Zt (Nat.le_of_ble_eq_true rfl))) ?_
  refine Z6f 0 (w0 rfl) rfl rfl rfl rfl rfl (hg _ (List.getElem_mem hi)) ?_
  refine qN ?_
  refine Z2 rfl ?_ ?_
  ·intro hc
   have hc : f (cs[i]) = true := hc
   refine qS (qR (qM (qA (qN (qE ?_)))))
   exact Zf rfl (Z7 rfl Z4) (.refl _) (gvH (congrArg iA (by rw [← hJ.2, Z0w hi]; simp [idxFrom, hc])))
  ·intro hc
   have hc : f (cs[i]) = false := hc
   refine qK (qR ?_)
   refine qe (Z9 rfl rfl rfl (Zn (by first | omega | (simp only [List.length_map]; omega)))) ?_
   refine qM (qN ?_)
   refine ⟨i + 1, ⟨by omega, by rw [← hJ.2, Z0w hi]; simp [idxFrom, hc]⟩, (by omega), ?_⟩
   exact qp [0] ⟨rfl, rfl, rfl, rfl, trivial⟩
 ·intro hc
  have hi : ¬ i < cs.length := by simpa using hc
  refine qX (qS (qR (qA (qN (qE ?_)))))
  exact Zf rfl (Z7 rfl Z4) (.refl _) (gvH (congrArg iA (by rw [← hJ.2, Z1m hi]; rfl)))
theorem Z8p (p : Prog) (hb : small p.classes.length) (nm : Str) : ACalls Tryz.prog 109 [p.av, sA nm] [] (Gives (iA (classAt p nm))) := by
 refine Zd (n := 9) Tryz.func109 rfl (by decide +kernel) rfl rfl ?_
 refine qS (qR ?_)
 refine Zy (w0 rfl) rfl (fun id => Z09 id rfl rfl rfl rfl rfl) (fun id1 => ?_)
 refine Zy (w0 rfl) rfl (fun id => Z09 id rfl rfl rfl rfl rfl) (fun id2 => ?_)
 refine qA (qN (qS (qR ?_)))
 refine qe (Z0 rfl rfl rfl) ?_
 refine qL 1 Z3 ?_
 refine qe (Z1k rfl rfl) ?_
 refine Z6f 0 (w0 rfl) rfl rfl rfl rfl rfl (Z8o p.classes hb 134 [.ptr id2 1 0 0] id2 _ (fun c => beqS c.name nm) (fun c _ => Zba c nm id2)) ?_
 refine qA (qN (qE ?_))
 exact Z0p rfl (Z7 rfl Z4) (gi rfl)
theorem Zfh (p : Prog) (hp : p.ok) : ACalls Tryz.prog 7 [p.av] [] (Gives (bA (greatP p))) := by
 have hb := hp.classes.1
 simp only [small] at hb
 refine Zd (n := 131) Tryz.func7 rfl (by decide +kernel) rfl rfl ?_
 refine qS (qR ?_)
 refine Zy (w0 rfl) rfl (fun id => Z09 id rfl rfl rfl rfl rfl) (fun id1 => ?_)
 refine qA (qN (qS (qS (qR ?_))))
 refine qe (Z0 rfl rfl rfl) ?_
 refine qL 0 Z3 ?_
 refine qe (Zx rfl rfl rfl rfl) ?_
 refine qe eI ?_
 refine qM ?_
 refine Zp (wF rfl rfl rfl rfl) rfl (fun hg => (Z0 rfl rfl rfl)) ?_
 refine Z00 0 (wF rfl rfl rfl rfl) rfl rfl (fun hg => (Ze hg rfl)) rfl rfl Z3 ?_
 refine Zp (wF rfl rfl rfl rfl) rfl (fun hg => (Zx rfl (Ze hg rfl) rfl rfl)) ?_
 refine Zp (wF rfl rfl rfl rfl) rfl (fun hg => (Zr rfl (Ze hg rfl) rfl rfl)) ?_
 refine qe (Z1h rfl rfl rfl (fun h => by rw [h]; rfl)) ?_
 refine qN ?_
 refine Z2 rfl ?_ ?_
 ·intro hc
  have hq : greatP0 p = true := by simp [greatP0] at hc ⊢; omega
  refine qS (qR (qA (qN (qE ?_))))
  exact Z0p rfl (Z7 rfl Z4) (gb (by unfold greatP; rw [hq]; rfl))
 ·intro hc
  have hq : greatP0 p = false := by simp [greatP0] at hc ⊢; omega
  refine qK (qS (qS (qR (qA (qN (qB ?_))))))
  refine Zj (α := Nat) (fun i => ⟨[(3, iA i), (1, .ptr id1 5 0 0)], [(id1, .rows 27 5 [p.cells])], [], 131⟩) (fun i => i ≤ p.classes.length ∧ (p.classes.drop i).any greatC = p.classes.any greatC) (fun i => p.classes.length - i) 0 ⟨Nat.zero_le _, rfl⟩ ?_ ?_
  ·exact Zb [0] ⟨rfl, rfl, trivial⟩ rfl (by decide) rfl rfl
  rintro i hJ
  refine qS (qS (qR (qM ?_)))
  refine qe (Z0 rfl rfl rfl) ?_
  refine qL 0 Z3 ?_
  refine qe (Zx rfl rfl rfl rfl) ?_
  refine qe eI ?_
  refine qN ?_
  refine Z2 rfl ?_ ?_
  ·intro hc
   have hi : i < p.classes.length := by simpa using hc
   have hok := hp.classes.2 _ (List.getElem_mem hi)
   have hm1 := hok.methods.1
   simp only [small] at hm1
   refine qK (qS (qB (qS (qR ?_))))
   refine qe (Z0 rfl rfl rfl) ?_
   refine qL 0 Z3 ?_
   refine qM ?_
   refine qe (Z6 rfl rfl rfl (Z04 (fun _ => rfl)) (by first | omega | (simp only [List.length_map]; omega) | (simp only [List.length_map, List.length_drop]; omega)) (by first | omega | (simp only [List.length_map]; omega) | (simp only [List.length_map, List.length_drop]; omega))) ?_
   refine qe (Zu rfl rfl (Z0a (by first | assumption | omega | (simp only [List.length_drop]; omega))) (Zt (Nat.le_of_ble_eq_true rfl))) ?_
   refine Zy (w0 rfl) rfl (fun id => Z0b id rfl rfl rfl) (fun id2 => ?_)
   refine Zw 0 (w0 rfl) rfl rfl rfl rfl rfl rfl rfl rfl rfl ?_
   refine qN (qS (qS (qR ?_)))
   refine qe (Z0 rfl rfl rfl) ?_
   refine qL 0 Z3 ?_
   refine qe (Zx rfl rfl rfl rfl) ?_
   refine qe eI ?_
   refine qM ?_
   refine Zp (wF rfl rfl rfl rfl) rfl (fun hg => (Z0 rfl rfl rfl)) ?_
   refine Z00 0 (wF rfl rfl rfl rfl) rfl rfl (fun hg => (Ze hg rfl)) rfl rfl Z3 ?_
   refine Zp (wF rfl rfl rfl rfl) rfl (fun hg => (Zx rfl (Ze hg rfl) rfl rfl)) ?_
   refine Zp (wF rfl rfl rfl rfl) rfl (fun hg => (Zr rfl (Ze hg rfl) rfl rfl)) ?_
   refine qe (Z1h rfl rfl rfl (fun h => by rw [h]; rfl)) ?_
   refine qM ?_
   refine Zp (wF rfl rfl rfl rfl) rfl (fun hg => (Z0 rfl rfl rfl)) ?_
   refine Z00 0 (wF rfl rfl rfl rfl) rfl rfl (fun hg => (Ze hg rfl)) rfl rfl Z3 ?_
   refine Zp (wF rfl rfl rfl rfl) rfl (fun hg => (Zx rfl (Ze hg rfl) rfl rfl)) ?_
   refine Zp (wF rfl rfl rfl rfl) rfl (fun hg => (Zr rfl (Ze hg rfl) rfl rfl)) ?_
   refine qe (Z1h rfl rfl rfl (fun h => by rw [h]; rfl)) ?_
   refine qM ?_
   refine Zp (wF rfl rfl rfl rfl) rfl (fun hg => (Z0 rfl rfl rfl)) ?_
   refine Z00 0 (wF rfl rfl rfl rfl) rfl rfl (fun hg => (Ze hg rfl)) rfl rfl Z3 ?_
   refine Zp (wF rfl rfl rfl rfl) rfl (fun hg => (Zx rfl (Ze hg rfl) rfl rfl)) ?_
   refine Zp (wF rfl rfl rfl rfl) rfl (fun hg => (Zr rfl (Ze hg rfl) rfl rfl)) ?_
   refine qe (Z1h rfl rfl rfl (fun h => by rw [h]; rfl)) ?_
   refine qM ?_
   refine Zp (wF rfl rfl rfl rfl) rfl (fun hg => (Z0 rfl rfl rfl)) ?_
   refine Z00 0 (wF rfl rfl rfl rfl) rfl rfl (fun hg => (Ze hg rfl)) rfl rfl Z3 ?_
   refine Zp (wF rfl rfl rfl rfl) rfl (fun hg => (Zx rfl (Ze hg rfl) rfl rfl)) ?_
   refine Zp (wF rfl rfl rfl rfl) rfl (fun hg => (Zr rfl (Ze hg rfl) rfl rfl)) ?_
   refine qe (Z1h rfl rfl rfl (fun h => by rw [h]; rfl)) ?_
   refine qN ?_
   refine Z2 rfl ?_ ?_
   ·intro hc
    have hq2 : greatC0 p.classes[i] = true := by simp [greatC0] at hc ⊢; omega
    refine qS (qR (qA (qN (qE ?_))))
    exact Z0p rfl (Z7 rfl Z4) (gb (by unfold greatP; rw [Z30 hJ.2 hi (by unfold greatC; rw [hq2]; rfl), Bool.or_true]))
   ·intro hc
    have hq2 : greatC0 p.classes[i] = false := by simp [greatC0] at hc ⊢; omega
    refine qK (qS (qR (qA (qN (qB ?_)))))
    refine Zj (α := Nat) (fun k => ⟨[(5, iA k), (3, iA i), (1, .ptr id1 5 0 0), (4, .ptr id2 7 0 0)], [(id2, .rows 53 7 [p.classes[i].cells]), (id1, .rows 27 5 [p.cells])], [], 131⟩) (fun k => k ≤ p.classes[i].methods.length ∧ (p.classes[i].methods.drop k).any greatM = p.classes[i].methods.any greatM) (fun k => p.classes[i].methods.length - k) 0 ⟨Nat.zero_le _, rfl⟩ ?_ ?_
    ·exact Zb [0, 1] ⟨rfl, rfl, rfl, rfl, trivial⟩ rfl (by decide) rfl rfl
    rintro k hJ1
    refine qS (qS (qR (qM ?_)))
    refine qe (Z0 rfl rfl rfl) ?_
    refine qL 0 Z3 ?_
    refine qe (Zx rfl rfl rfl rfl) ?_
    refine qe eI ?_
    refine qN ?_
    refine Z2 rfl ?_ ?_
    ·intro hc
     have hk : k < p.classes[i].methods.length := by simpa using hc
     have hm2 := (hok.methods.2 _ (List.getElem_mem hk)).code.1
     simp only [small] at hm2
     refine qK (qS (qB (qS (qR ?_))))
     refine qe (Z0 rfl rfl rfl) ?_
     refine qL 0 Z3 ?_
     refine qM ?_
     refine qe (Z6 rfl rfl rfl (Z04 (fun _ => rfl)) (by first | omega | (simp only [List.length_map]; omega) | (simp only [List.length_map, List.length_drop]; omega)) (by first | omega | (simp only [List.length_map]; omega) | (simp only [List.length_map, List.length_drop]; omega))) ?_
     refine qe (Zu rfl rfl (Z0a (by first | assumption | omega | (simp only [List.length_drop]; omega))) (Zt (Nat.le_of_ble_eq_true rfl))) ?_
     refine Zy (w0 rfl) rfl (fun id => Z0b id rfl rfl rfl) (fun id3 => ?_)
     refine Zw 0 (w0 rfl) rfl rfl rfl rfl rfl rfl rfl rfl rfl ?_
     refine qN (qS (qS (qR ?_)))
     refine qe (Z0 rfl rfl rfl) ?_
     refine qL 0 Z3 ?_
     refine qe (Zx rfl rfl rfl rfl) ?_
     refine qe eI ?_
     refine qM ?_
     refine Zp (wF rfl rfl rfl rfl) rfl (fun hg => (Z0 rfl rfl rfl)) ?_
     refine Z00 0 (wF rfl rfl rfl rfl) rfl rfl (fun hg => (Ze hg rfl)) rfl rfl Z3 ?_
     refine Zp (wF rfl rfl rfl rfl) rfl (fun hg => (Zx rfl (Ze hg rfl) rfl rfl)) ?_
     refine Zp (wF rfl rfl rfl rfl) rfl (fun hg => (Zr rfl (Ze hg rfl) rfl rfl)) ?_
     refine qe (Z1h rfl rfl rfl (fun h => by rw [h]; rfl)) ?_
     refine qM ?_
     refine Zp (wF rfl rfl rfl rfl) rfl (fun hg => (Z0 rfl rfl rfl)) ?_
     refine Z00 0 (wF rfl rfl rfl rfl) rfl rfl (fun hg => (Ze hg rfl)) rfl rfl Z3 ?_
     refine Zp (wF rfl rfl rfl rfl) rfl (fun hg => (Zx rfl (Ze hg rfl) rfl rfl)) ?_
     refine Zp (wF rfl rfl rfl rfl) rfl (fun hg => (Zr rfl (Ze hg rfl) rfl rfl)) ?_
     refine qe (Z1h rfl rfl rfl (fun h => by rw [h]; rfl)) ?_
     refine qN ?_
     refine Z2 rfl ?_ ?_
     ·intro hc
      have hq3 : greatM0 p.classes[i].methods[k] = true := by simp [greatM0] at hc ⊢; omega
      refine qS (qR (qA (qN (qE ?_))))
      exact Z0p rfl (Z7 rfl Z4) (gb (by unfold greatP; rw [Z30 hJ.2 hi (by unfold greatC; rw [Z30 hJ1.2 hk (by unfold greatM; rw [hq3]; rfl), Bool.or_true]), Bool.or_true]))
     ·intro hc
      have hq3 : greatM0 p.classes[i].methods[k] = false := by simp [greatM0] at hc ⊢; omega
      refine qK (qS (qR (qA (qN (qB ?_)))))
      refine Zj (α := Nat) (fun z => ⟨[(7, iA z), (5, iA k), (3, iA i), (1, .ptr id1 5 0 0), (4, .ptr id2 7 0 0), (6, .ptr id3 6 0 0)], [(id3, .rows 56 6 [p.classes[i].methods[k].cells]), (id2, .rows 53 7 [p.classes[i].cells]), (id1, .rows 27 5 [p.cells])], [], 131⟩) (fun z => z ≤ p.classes[i].methods[k].code.length ∧ (p.classes[i].methods[k].code.drop z).any greatI = p.classes[i].methods[k].code.any greatI) (fun z => p.classes[i].methods[k].code.length - z) 0 ⟨Nat.zero_le _, rfl⟩ ?_ ?_
      ·exact Zb [0, 1, 2] ⟨rfl, rfl, rfl, rfl, rfl, rfl, trivial⟩ rfl (by decide) rfl rfl
      rintro z hJ2
      refine qS (qS (qR (qM ?_)))
      refine qe (Z0 rfl rfl rfl) ?_
      refine qL 0 Z3 ?_
      refine qe (Zx rfl rfl rfl rfl) ?_
      refine qe eI ?_
      refine qN ?_
      refine Z2 rfl ?_ ?_
      ·intro hc
       have hz : z < p.classes[i].methods[k].code.length := by simpa using hc
       refine qK (qS (qB (qS (qR ?_))))
       refine qe (Z0 rfl rfl rfl) ?_
       refine qL 0 Z3 ?_
       refine qM ?_
       refine qe (Z6 rfl rfl rfl (Z04 (fun _ => rfl)) (by first | omega | (simp only [List.length_map]; omega) | (simp only [List.length_map, List.length_drop]; omega)) (by first | omega | (simp only [List.length_map]; omega) | (simp only [List.length_map, List.length_drop]; omega))) ?_
       refine qe (Z0 rfl rfl rfl) ?_
       refine qe (Zu rfl rfl (Z0a (by first | assumption | omega | (simp only [List.length_drop]; omega))) Z3) ?_
       refine qe (Zx rfl rfl rfl rfl) ?_
       refine qe eI ?_
       refine qM ?_
       refine Zp (wF rfl rfl rfl rfl) rfl (fun hg => (Z0 rfl rfl rfl)) ?_
       refine Z00 0 (wF rfl rfl rfl rfl) rfl rfl (fun hg => (Ze hg rfl)) rfl rfl Z3 ?_
       refine qFM ?_
       refine Zp (wF rfl rfl rfl rfl) rfl (fun hg => (Z6 rfl (Ze hg rfl) (Ze hg rfl) (Z04 (fun _ => rfl)) (by (try simp at hg) <;> first | omega | (simp only [List.length_map]; omega) | (simp only [List.length_map, List.length_drop]; omega)) (by (try simp at hg) <;> first | omega | (simp only [List.length_map]; omega) | (simp only [List.length_map, List.length_drop]; omega)))) ?_
       refine Zp (wF rfl rfl rfl rfl) rfl (fun hg => (Z0 rfl (Ze hg rfl) rfl)) ?_
       refine Zp (wF rfl rfl rfl rfl) rfl (fun hg => (Zu rfl (Ze hg rfl) (Z34 (by (try simp at hg) <;> first | assumption | omega | (simp only [List.length_drop]; omega))) Z3)) ?_
       refine Zp (wF rfl rfl rfl rfl) rfl (fun hg => (Zx rfl (Ze hg rfl) rfl rfl)) ?_
       refine Zp (wF rfl rfl rfl rfl) rfl (fun hg => (Zr rfl (Ze hg rfl) rfl rfl)) ?_
       refine qe (Z1h rfl rfl rfl (fun h => by rw [h]; rfl)) ?_
       refine qM ?_
       refine Zp (wF rfl rfl rfl rfl) rfl (fun hg => (Z0 rfl rfl rfl)) ?_
       refine Z00 0 (wF rfl rfl rfl rfl) rfl rfl (fun hg => (Ze hg rfl)) rfl rfl Z3 ?_
       refine qFM ?_
       refine Zp (wF rfl rfl rfl rfl) rfl (fun hg => (Z6 rfl (Ze hg rfl) (Ze hg rfl) (Z04 (fun _ => rfl)) (by (try simp at hg) <;> first | omega | (simp only [List.length_map]; omega) | (simp only [List.length_map, List.length_drop]; omega)) (by (try simp at hg) <;> first | omega | (simp only [List.length_map]; omega) | (simp only [List.length_map, List.length_drop]; omega)))) ?_
       refine Zp (wF rfl rfl rfl rfl) rfl (fun hg => (Z0 rfl (Ze hg rfl) rfl)) ?_
       refine Zp (wF rfl rfl rfl rfl) rfl (fun hg => (Zu rfl (Ze hg rfl) (Z34 (by (try simp at hg) <;> first | assumption | omega | (simp only [List.length_drop]; omega))) Z3)) ?_
       refine Zp (wF rfl rfl rfl rfl) rfl (fun hg => (Zx rfl (Ze hg rfl) rfl rfl)) ?_
       refine Zp (wF rfl rfl rfl rfl) rfl (fun hg => (Zr rfl (Ze hg rfl) rfl rfl)) ?_
       refine qe (Z1h rfl rfl rfl (fun h => by rw [h]; rfl)) ?_
       refine qM ?_
       refine Zp (wF rfl rfl rfl rfl) rfl (fun hg => (Z0 rfl rfl rfl)) ?_
       refine Z00 0 (wF rfl rfl rfl rfl) rfl rfl (fun hg => (Ze hg rfl)) rfl rfl Z3 ?_
       refine qFM ?_
       refine Zp (wF rfl rfl rfl rfl) rfl (fun hg => (Z6 rfl (Ze hg rfl) (Ze hg rfl) (Z04 (fun _ => rfl)) (by (try simp at hg) <;> first | omega | (simp only [List.length_map]; omega) | (simp only [List.length_map, List.length_drop]; omega)) (by (try simp at hg) <;> first | omega | (simp only [List.length_map]; omega) | (simp only [List.length_map, List.length_drop]; omega)))) ?_
       refine Zp (wF rfl rfl rfl rfl) rfl (fun hg => (Z0 rfl (Ze hg rfl) rfl)) ?_
       refine Zp (wF rfl rfl rfl rfl) rfl (fun hg => (Zu rfl (Ze hg rfl) (Z34 (by (try simp at hg) <;> first | assumption | omega | (simp only [List.length_drop]; omega))) Z3)) ?_
       refine Zp (wF rfl rfl rfl rfl) rfl (fun hg => (Zx rfl (Ze hg rfl) rfl rfl)) ?_
       refine Zp (wF rfl rfl rfl rfl) rfl (fun hg => (Zr rfl (Ze hg rfl) rfl rfl)) ?_
       refine qe (Z1h rfl rfl rfl (fun h => by rw [h]; rfl)) ?_
       refine qN ?_
       refine Z2 rfl ?_ ?_
       ·intro hc
        have hq4 : greatI p.classes[i].methods[k].code[z] = true := by simp [greatI, List.getD, hz] at hc ⊢; omega
        refine qS (qR (qA (qN (qE ?_))))
        exact Z0p rfl (Z7 rfl Z4) (gb (by unfold greatP; rw [Z30 hJ.2 hi (by unfold greatC; rw [Z30 hJ1.2 hk (by unfold greatM; rw [Z30 hJ2.2 hz hq4, Bool.or_true]), Bool.or_true]), Bool.or_true]))
       ·intro hc
        have hq4 : greatI p.classes[i].methods[k].code[z] = false := by simp [greatI, List.getD, hz] at hc ⊢; omega
        refine qK (qR (qM ?_))
        refine qe (Z9 rfl rfl rfl (Zn (by first | omega | (simp only [List.length_map]; omega)))) ?_
        refine qA (qN ?_)
        refine ⟨z + 1, ⟨hz, Z3n hJ2.2 hz hq4⟩, (by omega), ?_⟩
        exact qp [0, 1, 2] ⟨rfl, rfl, rfl, rfl, rfl, rfl, trivial⟩
      ·intro hc
       have hz : ¬ z < p.classes[i].methods[k].code.length := by simpa using hc
       refine qX (qR (qM ?_))
       refine qe (Z9 rfl rfl rfl (Zn (by first | omega | (simp only [List.length_map]; omega)))) ?_
       refine qA (qN ?_)
       refine ⟨k + 1, ⟨hk, Z3n hJ1.2 hk (by unfold greatM; rw [hq3, Z4l hJ2.2 hz]; rfl)⟩, (by omega), ?_⟩
       exact qp [1, 2] ⟨rfl, rfl, rfl, rfl, trivial⟩
    ·intro hc
     have hk : ¬ k < p.classes[i].methods.length := by simpa using hc
     refine qX (qR (qM ?_))
     refine qe (Z9 rfl rfl rfl (Zn (by first | omega | (simp only [List.length_map]; omega)))) ?_
     refine qA (qN ?_)
     refine ⟨i + 1, ⟨hi, Z3n hJ.2 hi (by unfold greatC; rw [hq2, Z4l hJ1.2 hk]; rfl)⟩, (by omega), ?_⟩
     exact qp [1] ⟨rfl, rfl, trivial⟩
  ·intro hc
   have hi : ¬ i < p.classes.length := by simpa using hc
   refine qX (qS (qR (qA (qN (qE ?_)))))
   exact Z0p rfl (Z7 rfl Z4) (gb (by unfold greatP; rw [hq, Z4l hJ.2 hi]; rfl))
theorem Zdv (cs : List Fld) (hl : small cs.length) (g : Nat) (caps : List AV) (Hc : AHeap) (f : Fld → Bool) (hg : ∀ c, c ∈ cs → ACalls Tryz.prog g (c.av :: caps) Hc (GivesH (bA (f c)) Hc)) : ACalls Tryz.prog 110 [.lst (cs.map Fld.cells), .fn (.func g) caps] Hc (GivesH (iA (idxFrom f cs 0)) Hc) := by
 simp only [small] at hl
 refine Zd (n := 19) Tryz.func110 rfl (by decide +kernel) rfl rfl ?_
 refine qS (qR (qA (qN (qS (qS (qR (qM ?_)))))))
 refine qe (Zx rfl rfl rfl rfl) ?_
 refine qM (qN (qB ?_))
 refine Zj (α := Nat) (fun i => ⟨[(8, iA i), (0, .lst (cs.map Fld.cells)), (1, .fn (.func g) caps), (7, iA cs.length)], [] ++ Hc, [], 19⟩) (fun i => i ≤ cs.length ∧ idxFrom f (cs.drop i) i = idxFrom f cs 0) (fun i => cs.length - i) 0 ⟨by omega, rfl⟩ ?_ ?_
 ·exact Z1o (F := []) (F' := []) (Hj := Hc) [] ⟨rfl, rfl, rfl, (by show some (iA _) = some (iA _); simp), trivial⟩ rfl rfl rfl (by decide) rfl rfl
 rintro i hJ
 refine qS (qR ?_)
 refine qe eI ?_
 refine qN (qS ?_)
 refine Z2 rfl ?_ ?_
 ·intro hc
  have hi : i < cs.length := by simpa using hc
  refine qK (qS (qB (qS (qR (qM (qA (qN (qS (qR (qM (qM (qM ?_))))))))))))
  refine qe (Z6 rfl rfl rfl (Z04 (fun _ => rfl)) (by first | omega | (simp only [List.length_map]; omega) | (simp only [List.length_map, List.length_drop]; omega)) (by first | omega | (simp only [List.length_map]; omega) | (simp only [List.length_map, List.length_drop]; omega))) ?_
  refine qe (Zu rfl rfl (Z0a (by first | assumption | omega | (simp only [List.length_drop]; omega))) (Zt (Nat.le_of_ble_eq_true rfl))) ?_
  refine Z16 Hc [] (w0 rfl) rfl rfl rfl rfl (by simp) (hg _ (List.getElem_mem hi)) ?_
  refine qN ?_
  refine Z2 rfl ?_ ?_
  ·intro hc
   have hc : f (cs[i]) = true := hc
   refine qS (qR (qM (qA (qN (qE ?_)))))
   exact Zf rfl (Z7 rfl Z4) (.refl _) (gvH (congrArg iA (by rw [← hJ.2, Z0w hi]; simp [idxFrom, hc])))
  ·intro hc
   have hc : f (cs[i]) = false := hc
   refine qK (qR ?_)
   refine qe (Z9 rfl rfl rfl (Zn (by first | omega | (simp only [List.length_map]; omega)))) ?_
   refine qM (qN ?_)
   refine ⟨i + 1, ⟨by omega, by rw [← hJ.2, Z0w hi]; simp [idxFrom, hc]⟩, (by omega), ?_⟩
   exact Z1o (F := []) (F' := []) (Hj := Hc) [] ⟨rfl, rfl, rfl, rfl, trivial⟩ rfl rfl rfl (by decide) rfl rfl
 ·intro hc
  have hi : ¬ i < cs.length := by simpa using hc
  refine qX (qS (qR (qA (qN (qE ?_)))))
  exact Zf rfl (Z7 rfl Z4) (.refl _) (gvH (congrArg iA (by rw [← hJ.2, Z1m hi]; rfl)))
theorem Zdw (cs : List Meth) (hl : small cs.length) (g : Nat) (caps : List AV) (Hc : AHeap) (f : Meth → Bool) (hg : ∀ c, c ∈ cs → ACalls Tryz.prog g (c.av :: caps) Hc (GivesH (bA (f c)) Hc)) : ACalls Tryz.prog 174 [.lst (cs.map Meth.cells), .fn (.func g) caps] Hc (GivesH (iA (idxFrom f cs 0)) Hc) := by
 simp only [small] at hl
 refine Zd (n := 19) Tryz.func174 rfl (by decide +kernel) rfl rfl ?_
 refine qS (qR (qA (qN (qS (qS (qR (qM ?_)))))))
 refine qe (Zx rfl rfl rfl rfl) ?_
 refine qM (qN (qB ?_))
 refine Zj (α := Nat) (fun i => ⟨[(8, iA i), (0, .lst (cs.map Meth.cells)), (1, .fn (.func g) caps), (7, iA cs.length)], [] ++ Hc, [], 19⟩) (fun i => i ≤ cs.length ∧ idxFrom f (cs.drop i) i = idxFrom f cs 0) (fun i => cs.length - i) 0 ⟨by omega, rfl⟩ ?_ ?_
 ·exact Z1o (F := []) (F' := []) (Hj := Hc) [] ⟨rfl, rfl, rfl, (by show some (iA _) = some (iA _); simp), trivial⟩ rfl rfl rfl (by decide) rfl rfl
 rintro i hJ
 refine qS (qR ?_)
 refine qe eI ?_
 refine qN (qS ?_)
 refine Z2 rfl ?_ ?_
 ·intro hc
  have hi : i < cs.length := by simpa using hc
  refine qK (qS (qB (qS (qR (qM (qA (qN (qS (qR (qM (qM (qM ?_))))))))))))
  refine qe (Z6 rfl rfl rfl (Z04 (fun _ => rfl)) (by first | omega | (simp only [List.length_map]; omega) | (simp only [List.length_map, List.length_drop]; omega)) (by first | omega | (simp only [List.length_map]; omega) | (simp only [List.length_map, List.length_drop]; omega))) ?_
  refine qe (Zu rfl rfl (Z0a (by first | assumption | omega | (simp only [List.length_drop]; omega))) (Zt (Nat.le_of_ble_eq_true rfl))) ?_
  refine Z16 Hc [] (w0 rfl) rfl rfl rfl rfl (by simp) (hg _ (List.getElem_mem hi)) ?_
  refine qN ?_
  refine Z2 rfl ?_ ?_
  ·intro hc
   have hc : f (cs[i]) = true := hc
   refine qS (qR (qM (qA (qN (qE ?_)))))
   exact Zf rfl (Z7 rfl Z4) (.refl _) (gvH (congrArg iA (by rw [← hJ.2, Z0w hi]; simp [idxFrom, hc])))
  ·intro hc
   have hc : f (cs[i]) = false := hc
   refine qK (qR ?_)
   refine qe (Z9 rfl rfl rfl (Zn (by first | omega | (simp only [List.length_map]; omega)))) ?_
   refine qM (qN ?_)
   refine ⟨i + 1, ⟨by omega, by rw [← hJ.2, Z0w hi]; simp [idxFrom, hc]⟩, (by omega), ?_⟩
   exact Z1o (F := []) (F' := []) (Hj := Hc) [] ⟨rfl, rfl, rfl, rfl, trivial⟩ rfl rfl rfl (by decide) rfl rfl
 ·intro hc
  have hi : ¬ i < cs.length := by simpa using hc
  refine qX (qS (qR (qA (qN (qE ?_)))))
  exact Zf rfl (Z7 rfl Z4) (.refl _) (gvH (congrArg iA (by rw [← hJ.2, Z1m hi]; rfl)))
theorem Zfg (f : Fld) (nm : Str) (i1 : Nat) : ACalls Tryz.prog 111 [f.av, .ptr i1 1 0 0] [(i1, .rows 9 1 [[sA nm]])] (GivesH (bA (beqS f.name nm)) [(i1, .rows 9 1 [[sA nm]])]) := by
 refine Zd (n := 8) Tryz.func111 rfl (by decide +kernel) rfl rfl ?_
 refine qS (qR ?_)
 refine Zy (w0 rfl) rfl (fun id => Z09 id rfl rfl rfl rfl rfl) (fun id1 => ?_)
 refine qA (qN (qS (qR ?_)))
 refine qe (Z0 rfl rfl rfl) ?_
 refine qL 0 Z3 ?_
 refine qL 1 Z3 ?_
 refine qe (Z0o rfl rfl rfl rfl) ?_
 refine qA (qN (qE ?_))
 exact Zf rfl (Z7 rfl Z4) (.cons _ (.refl _)) (gvH rfl)
theorem Zfr (m : Meth) (nm d : Str) (i1 i2 : Nat) : ACalls Tryz.prog 175 [m.av, .ptr i1 1 0 0, .ptr i2 1 0 0] [(i2, .rows 9 1 [[sA d]]), (i1, .rows 9 1 [[sA nm]])] (GivesH (bA (beqS m.name nm && beqS m.desc d)) [(i2, .rows 9 1 [[sA d]]), (i1, .rows 9 1 [[sA nm]])]) := by
 refine Zd (n := 15) Tryz.func175 rfl (by decide +kernel) rfl rfl ?_
 refine qS (qR ?_)
 refine Zy (w0 rfl) rfl (fun id => Z09 id rfl rfl rfl rfl rfl) (fun id1 => ?_)
 refine qA (qN (qS (qR ?_)))
 refine qe (Z0 rfl rfl rfl) ?_
 refine qL 0 Z3 ?_
 refine qL 2 Z3 ?_
 refine qe (Z0o rfl rfl rfl rfl) ?_
 refine qM ?_
 refine Zp (wT rfl rfl rfl rfl) rfl (fun hg => (Z0 rfl rfl rfl)) ?_
 refine Z00 0 (wT rfl rfl rfl rfl) rfl rfl (fun hg => (Ze hg rfl)) rfl rfl Z3 ?_
 refine Z00 1 (wT rfl rfl rfl rfl) rfl rfl (fun hg => rfl) rfl rfl Z3 ?_
 refine Zp (wT rfl rfl rfl rfl) rfl (fun hg => (Z0o rfl (Ze hg rfl) (Ze hg rfl) rfl)) ?_
 refine qe (Zs rfl rfl rfl (fun h => h)) ?_
 refine qA (qN (qE ?_))
 exact Zf rfl (Z7 rfl Z4) (.cons _ (.refl _)) (gvH rfl)
theorem Zbh (c : Cls) (hl : small c.fields.length) (nm : Str) : ACalls Tryz.prog 76 [c.av, sA nm] [] (Gives (iA (fldAt c nm))) := by
 refine Zd (n := 9) Tryz.func76 rfl (by decide +kernel) rfl rfl ?_
 refine qS (qR ?_)
 refine Zy (w0 rfl) rfl (fun id => Z09 id rfl rfl rfl rfl rfl) (fun id1 => ?_)
 refine Zy (w0 rfl) rfl (fun id => Z09 id rfl rfl rfl rfl rfl) (fun id2 => ?_)
 refine qA (qN (qS (qR ?_)))
 refine qe (Z0 rfl rfl rfl) ?_
 refine qL 1 Z3 ?_
 refine qe (Z1k rfl rfl) ?_
 refine Z16 [_] _ (w0 rfl) rfl rfl rfl rfl (.refl _) (Zdv c.fields hl 111 _ _ (fun f => beqS f.name nm) (fun f _ => Zfg f nm id2)) ?_
 refine qA (qN (qE ?_))
 exact Z0p rfl (Z7 rfl Z4) (gi rfl)
theorem Zbi (c : Cls) (hl : small c.methods.length) (nm d : Str) : ACalls Tryz.prog 139 [c.av, sA nm, sA d] [] (Gives (iA (mthAt c nm d))) := by
 refine Zd (n := 11) Tryz.func139 rfl (by decide +kernel) rfl rfl ?_
 refine qS (qR ?_)
 refine Zy (w0 rfl) rfl (fun id => Z09 id rfl rfl rfl rfl rfl) (fun id1 => ?_)
 refine Zy (w0 rfl) rfl (fun id => Z09 id rfl rfl rfl rfl rfl) (fun id2 => ?_)
 refine Zy (w0 rfl) rfl (fun id => Z09 id rfl rfl rfl rfl rfl) (fun id3 => ?_)
 refine qA (qN (qS (qR ?_)))
 refine qe (Z0 rfl rfl rfl) ?_
 refine qL 2 Z3 ?_
 refine qe (Z1k rfl rfl) ?_
 refine Z16 [_, _] _ (w0 rfl) rfl rfl rfl rfl (.refl _) (Zdw c.methods hl 175 _ _ (fun m => beqS m.name nm && beqS m.desc d) (fun m _ => Zfr m nm d id2 id3)) ?_
 refine qA (qN (qE ?_))
 exact Z0p rfl (Z7 rfl Z4) (gi rfl)
theorem Ze1 (c : Cls) (hl : small c.fields.length) (nm : Str) : ACalls Tryz.prog 67 [c.av, sA nm] [] (Gives (iA (fldAt c nm))) := by
 simp only [small] at hl
 refine Zd (n := 22) Tryz.func67 rfl (by decide +kernel) rfl rfl ?_
 refine qS (qR ?_)
 refine Zy (w0 rfl) rfl (fun id => Z09 id rfl rfl rfl rfl rfl) (fun id1 => ?_)
 refine qA (qN (qS (qS (qR (qA (qN (qB ?_)))))))
 refine Zj (α := Nat) (fun i => ⟨[(5, iA i), (2, .ptr id1 7 0 0), (1, sA nm)], [(id1, .rows 53 7 [c.cells])], [], 22⟩) (fun i => i ≤ c.fields.length ∧ idxFrom (fun f : Fld => beqS f.name nm) (c.fields.drop i) i = (fldAt c nm)) (fun i => c.fields.length - i) 0 ⟨Nat.zero_le _, rfl⟩ ?_ ?_
 ·exact Zb [0] ⟨rfl, rfl, rfl, trivial⟩ rfl (by decide) rfl rfl
 rintro i hJ
 refine qS (qS (qR (qM ?_)))
 refine qe (Z0 rfl rfl rfl) ?_
 refine qL 0 Z3 ?_
 refine qe (Zx rfl rfl rfl rfl) ?_
 refine qe eI ?_
 refine qN ?_
 refine Z2 rfl ?_ ?_
 ·intro hc
  have hi : i < c.fields.length := by simpa using hc
  refine qK (qS (qB (qS (qR ?_))))
  refine qe (Z0 rfl rfl rfl) ?_
  refine qL 0 Z3 ?_
  refine qM ?_
  refine qe (Z6 rfl rfl rfl (Z04 (fun _ => rfl)) (by first | omega | (simp only [List.length_map]; omega) | (simp only [List.length_map, List.length_drop]; omega)) (by first | omega | (simp only [List.length_map]; omega) | (simp only [List.length_map, List.length_drop]; omega))) ?_
  refine qe (Z0 rfl rfl rfl) ?_
  refine qe (Zu rfl rfl (Z0a (by first | assumption | omega | (simp only [List.length_drop]; omega))) Z3) ?_
  refine qM ?_
  refine qe (Z0o rfl rfl rfl rfl) ?_
  refine qN ?_
  refine Z2 rfl ?_ ?_
  ·intro hc
   have hq : (fun f : Fld => beqS f.name nm) c.fields[i] = true := hc
   refine qS (qR (qM (qA (qN (qE ?_)))))
   exact Z0p rfl (Z7 rfl Z4) (gi (by rw [← hJ.2, Z0w hi]; simp only [idxFrom]; rw [if_pos hq]))
  ·intro hc
   have hq : (fun f : Fld => beqS f.name nm) c.fields[i] = false := hc
   refine qK (qR (qM ?_))
   refine qe (Z9 rfl rfl rfl (Zn (by first | omega | (simp only [List.length_map]; omega)))) ?_
   refine qA (qN ?_)
   refine ⟨i + 1, ⟨hi, by rw [← hJ.2, Z0w hi]; simp only [idxFrom]; rw [if_neg (by simp [hq])]⟩, (by omega), ?_⟩
   exact qp [0] ⟨rfl, rfl, rfl, trivial⟩
 ·intro hc
  have hi : ¬ i < c.fields.length := by simpa using hc
  refine qX (qS (qR (qA (qN (qE ?_)))))
  exact Z0p rfl (Z7 rfl Z4) (gi (by rw [← hJ.2, Z1m hi]; rfl))
theorem Ze3 (c : Cls) (hl : small c.methods.length) (nm d : Str) : ACalls Tryz.prog 71 [c.av, sA nm, sA d] [] (Gives (iA (mthAt c nm d))) := by
 simp only [small] at hl
 refine Zd (n := 34) Tryz.func71 rfl (by decide +kernel) rfl rfl ?_
 refine qS (qR ?_)
 refine Zy (w0 rfl) rfl (fun id => Z09 id rfl rfl rfl rfl rfl) (fun id1 => ?_)
 refine qA (qN (qS (qS (qR (qA (qN (qB ?_)))))))
 refine Zj (α := Nat) (fun i => ⟨[(7, iA i), (3, .ptr id1 7 0 0), (1, sA nm), (2, sA d)], [(id1, .rows 53 7 [c.cells])], [], 34⟩) (fun i => i ≤ c.methods.length ∧ idxFrom (fun m : Meth => beqS m.name nm && beqS m.desc d) (c.methods.drop i) i = (mthAt c nm d)) (fun i => c.methods.length - i) 0 ⟨Nat.zero_le _, rfl⟩ ?_ ?_
 ·exact Zb [0] ⟨rfl, rfl, rfl, rfl, trivial⟩ rfl (by decide) rfl rfl
 rintro i hJ
 refine qS (qS (qR (qM ?_)))
 refine qe (Z0 rfl rfl rfl) ?_
 refine qL 0 Z3 ?_
 refine qe (Zx rfl rfl rfl rfl) ?_
 refine qe eI ?_
 refine qN ?_
 refine Z2 rfl ?_ ?_
 ·intro hc
  have hi : i < c.methods.length := by simpa using hc
  refine qK (qS (qB (qS (qR ?_))))
  refine qe (Z0 rfl rfl rfl) ?_
  refine qL 0 Z3 ?_
  refine qM ?_
  refine qe (Z6 rfl rfl rfl (Z04 (fun _ => rfl)) (by first | omega | (simp only [List.length_map]; omega) | (simp only [List.length_map, List.length_drop]; omega)) (by first | omega | (simp only [List.length_map]; omega) | (simp only [List.length_map, List.length_drop]; omega))) ?_
  refine qe (Z0 rfl rfl rfl) ?_
  refine qe (Zu rfl rfl (Z0a (by first | assumption | omega | (simp only [List.length_drop]; omega))) Z3) ?_
  refine qM ?_
  refine qe (Z0o rfl rfl rfl rfl) ?_
  refine qM ?_
  refine Zp (wT rfl rfl rfl rfl) rfl (fun hg => (Z0 rfl rfl rfl)) ?_
  refine Z00 0 (wT rfl rfl rfl rfl) rfl rfl (fun hg => (Ze hg rfl)) rfl rfl Z3 ?_
  refine qTM ?_
  refine Zp (wT rfl rfl rfl rfl) rfl (fun hg => (Z6 rfl (Ze hg rfl) (Ze hg rfl) (Z04 (fun _ => rfl)) (by (try simp at hg) <;> first | omega | (simp only [List.length_map]; omega) | (simp only [List.length_map, List.length_drop]; omega)) (by (try simp at hg) <;> first | omega | (simp only [List.length_map]; omega) | (simp only [List.length_map, List.length_drop]; omega)))) ?_
  refine Zp (wT rfl rfl rfl rfl) rfl (fun hg => (Z0 rfl (Ze hg rfl) rfl)) ?_
  refine Zp (wT rfl rfl rfl rfl) rfl (fun hg => (Zu rfl (Ze hg rfl) (Z34 (by (try simp at hg) <;> first | assumption | omega | (simp only [List.length_drop]; omega))) Z3)) ?_
  refine qTM ?_
  refine Zp (wT rfl rfl rfl rfl) rfl (fun hg => (Z0o rfl (Ze hg rfl) (Ze hg rfl) rfl)) ?_
  refine qe (Zs rfl rfl rfl (fun h => h)) ?_
  refine qN ?_
  refine Z2 rfl ?_ ?_
  ·intro hc
   have hq : (fun m : Meth => beqS m.name nm && beqS m.desc d) c.methods[i] = true := by have h5 : (beqS c.methods[i].name nm && beqS (c.methods.getD i default).desc d) = true := hc; rw [Zhg hi] at h5; exact h5
   refine qS (qR (qM (qA (qN (qE ?_)))))
   exact Z0p rfl (Z7 rfl Z4) (gi (by rw [← hJ.2, Z0w hi]; simp only [idxFrom]; rw [if_pos hq]))
  ·intro hc
   have hq : (fun m : Meth => beqS m.name nm && beqS m.desc d) c.methods[i] = false := by have h5 : (beqS c.methods[i].name nm && beqS (c.methods.getD i default).desc d) = false := hc; rw [Zhg hi] at h5; exact h5
   refine qK (qR (qM ?_))
   refine qe (Z9 rfl rfl rfl (Zn (by first | omega | (simp only [List.length_map]; omega)))) ?_
   refine qA (qN ?_)
   refine ⟨i + 1, ⟨hi, by rw [← hJ.2, Z0w hi]; simp only [idxFrom]; rw [if_neg (by simp [hq])]⟩, (by omega), ?_⟩
   exact qp [0] ⟨rfl, rfl, rfl, rfl, trivial⟩
 ·intro hc
  have hi : ¬ i < c.methods.length := by simpa using hc
  refine qX (qS (qR (qA (qN (qE ?_)))))
  exact Z0p rfl (Z7 rfl Z4) (gi (by rw [← hJ.2, Z1m hi]; rfl))
theorem Zev (p : Prog) (hb : small p.classes.length) (nm : Str) {r : Int} (h : classAt p nm = r) : ACalls Tryz.prog 108 [p.av, sA nm] [] (Gives (iA r)) := h ▸ Zfd p hb nm
theorem Zbj (p : Prog) (hb : small p.classes.length) (nm : Str) {r : Int} (h : classAt p nm = r) : ACalls Tryz.prog 109 [p.av, sA nm] [] (Gives (iA r)) := h ▸ Z8p p hb nm
theorem Zgg (c : Cls) (hl : small c.fields.length) (nm : Str) {r : Int} (h : fldAt c nm = r) : ACalls Tryz.prog 76 [c.av, sA nm] [] (Gives (iA r)) := h ▸ Zbh c hl nm
theorem Zgh (c : Cls) (hl : small c.methods.length) (nm d : Str) {r : Int} (h : mthAt c nm d = r) : ACalls Tryz.prog 139 [c.av, sA nm, sA d] [] (Gives (iA r)) := h ▸ Zbi c hl nm d
theorem Zgl (c : Cls) (hl : small c.fields.length) (nm : Str) {r : Int} (h : fldAt c nm = r) : ACalls Tryz.prog 67 [c.av, sA nm] [] (Gives (iA r)) := h ▸ Ze1 c hl nm
theorem Zgm (c : Cls) (hl : small c.methods.length) (nm d : Str) {r : Int} (h : mthAt c nm d = r) : ACalls Tryz.prog 71 [c.av, sA nm, sA d] [] (Gives (iA r)) := h ▸ Ze3 c hl nm d
theorem Z7l (p : Prog) (hb : small p.classes.length) (nm : Str) : ACalls Tryz.prog 75 [p.av, sA nm] [] (Gives (knownC p nm).av) := by
 refine Zd (n := 17) Tryz.func75 rfl (by decide +kernel) rfl rfl ?_
 refine qS (qR ?_)
 refine Zy (w0 rfl) rfl (fun id => Z09 id rfl rfl rfl rfl rfl) (fun id1 => ?_)
 refine Zy (w0 rfl) rfl (fun id => Z0b id rfl rfl rfl) (fun id2 => ?_)
 refine qN (qS (qS ?_))
 refine Z4w p nm (fun h1 h2 => ?_) (fun j hj h1 h2 => ?_)
 ·skip
  refine qR ?_
  refine qL 1 (Zt (Nat.le_of_ble_eq_true rfl)) ?_
  refine qM ?_
  refine qe (Z8 [] rfl rfl rfl (Zbj p hb nm h1) List.nodup_nil) ?_
  refine qA (qN (qS (qR (qM ?_))))
  refine qe eI ?_
  refine qN ?_
  refine Z2 rfl ?_ ?_
  ·intro hc
   exfalso; simp at hc <;> omega
  ·intro hc
   refine qK (qS (qR ?_))
   refine qe (Z2k (y := zCl.av) (Z0k rfl rfl rfl) (.agg (by repeat' (first | exact .nil | refine .keep ?_ | refine .z ?_)))) ?_
   refine Zw 0 (w0 rfl) rfl rfl rfl rfl rfl rfl rfl rfl rfl ?_
   refine qN (qE ?_)
   exact Z0p rfl (Z1b 0 rfl rfl rfl (Zt (Nat.le_of_ble_eq_true rfl)) Z4) (gvr (by unfold knownC; rw [h2]; rfl))
 ·skip
  refine qR ?_
  refine qL 1 (Zt (Nat.le_of_ble_eq_true rfl)) ?_
  refine qM ?_
  refine qe (Z8 [] rfl rfl rfl (Zbj p hb nm h1) List.nodup_nil) ?_
  refine qA (qN (qS (qR (qM ?_))))
  refine qe eI ?_
  refine qN ?_
  refine Z2 rfl ?_ ?_
  ·intro hc
   refine qS (qR ?_)
   refine qe (Z0 rfl rfl rfl) ?_
   refine qL 1 Z3 ?_
   refine qM ?_
   refine qe (Z6 rfl rfl rfl (Z04 (fun _ => rfl)) (by first | omega | (simp only [List.length_map]; omega) | (simp only [List.length_map, List.length_drop]; omega)) (by first | omega | (simp only [List.length_map]; omega) | (simp only [List.length_map, List.length_drop]; omega))) ?_
   refine qe (Zu rfl rfl (Z0a (by first | assumption | omega | (simp only [List.length_drop]; omega))) (Zt (Nat.le_of_ble_eq_true rfl))) ?_
   refine Zw 0 (w0 rfl) rfl rfl rfl rfl rfl rfl rfl rfl rfl ?_
   refine qN (qE ?_)
   exact Z0p rfl (Z1b 0 rfl rfl rfl (Zt (Nat.le_of_ble_eq_true rfl)) Z4) (gvr (by unfold knownC; rw [h2]; rfl))
  ·intro hc
   exfalso; simp at hc <;> omega
theorem Z7i (p : Prog) (hb : small p.classes.length) (nm : Str) : ACalls Tryz.prog 66 [p.av, sA nm] [] (Gives (.tup [(knownC p nm).av, bA (hasC p nm)])) := by
 refine Zd (n := 18) Tryz.func66 rfl (by decide +kernel) rfl rfl ?_
 refine qS (qR ?_)
 refine Zy (w0 rfl) rfl (fun id => Z09 id rfl rfl rfl rfl rfl) (fun id1 => ?_)
 refine Zy (w0 rfl) rfl (fun id => Z0b id rfl rfl rfl) (fun id2 => ?_)
 refine qA (qN (qS ?_))
 refine Z4w p nm (fun h1 h2 => ?_) (fun j hj h1 h2 => ?_)
 ·skip
  refine qR ?_
  refine qL 1 (Zt (Nat.le_of_ble_eq_true rfl)) ?_
  refine qM ?_
  refine qe (Z8 [] rfl rfl rfl (Zev p hb nm h1) List.nodup_nil) ?_
  refine qA (qN (qS (qS (qR (qM ?_)))))
  refine qe eI ?_
  refine qN ?_
  refine Z2 rfl ?_ ?_
  ·intro hc
   refine qS (qR ?_)
   refine qe (Z2k (y := zCl.av) (Z0k rfl rfl rfl) (.agg (by repeat' (first | exact .nil | refine .keep ?_ | refine .z ?_)))) ?_
   refine Zw 0 (w0 rfl) rfl rfl rfl rfl rfl rfl rfl rfl rfl ?_
   refine qA (qN (qE ?_))
   exact Z0p rfl (Z1b 0 rfl rfl rfl (Zt (Nat.le_of_ble_eq_true rfl)) (Z7 rfl Z4)) (gvr (by unfold knownC hasC; rw [h2]; rfl))
  ·intro hc
   exfalso; simp at hc <;> omega
 ·skip
  refine qR ?_
  refine qL 1 (Zt (Nat.le_of_ble_eq_true rfl)) ?_
  refine qM ?_
  refine qe (Z8 [] rfl rfl rfl (Zev p hb nm h1) List.nodup_nil) ?_
  refine qA (qN (qS (qS (qR (qM ?_)))))
  refine qe eI ?_
  refine qN ?_
  refine Z2 rfl ?_ ?_
  ·intro hc
   exfalso; simp at hc <;> omega
  ·intro hc
   refine qK (qS (qR ?_))
   refine qe (Z0 rfl rfl rfl) ?_
   refine qL 1 Z3 ?_
   refine qM ?_
   refine qe (Z6 rfl rfl rfl (Z04 (fun _ => rfl)) (by first | omega | (simp only [List.length_map]; omega) | (simp only [List.length_map, List.length_drop]; omega)) (by first | omega | (simp only [List.length_map]; omega) | (simp only [List.length_map, List.length_drop]; omega))) ?_
   refine qe (Zu rfl rfl (Z0a (by first | assumption | omega | (simp only [List.length_drop]; omega))) (Zt (Nat.le_of_ble_eq_true rfl))) ?_
   refine Zw 0 (w0 rfl) rfl rfl rfl rfl rfl rfl rfl rfl rfl ?_
   refine qA (qN (qE ?_))
   exact Z0p rfl (Z1b 0 rfl rfl rfl (Zt (Nat.le_of_ble_eq_true rfl)) (Z7 rfl Z4)) (gvr (by unfold knownC hasC; rw [h2]; rfl))
theorem Zgz (p : Prog) (hp : p.ok) (m : MRef) : ACalls Tryz.prog 122 [p.av, m.av] [] (Gives (.tup [((getP p m).getD zMt).av, bA (getP p m).isSome])) := by
 have hbs := hp.classes.1
 have hkm := (Z4f hp m.cls).2
 refine Zd (n := 26) Tryz.func122 rfl (by decide +kernel) rfl rfl ?_
 refine qS (qR ?_)
 refine Zy (w0 rfl) rfl (fun id => Z09 id rfl rfl rfl rfl rfl) (fun id1 => ?_)
 refine Zy (w0 rfl) rfl (fun id => Z09 id rfl rfl rfl rfl rfl) (fun id2 => ?_)
 refine Zy (w0 rfl) rfl (fun id => Z0b id rfl rfl rfl) (fun id3 => ?_)
 refine qA (qN (qS (qR ?_)))
 refine qL 2 (Zt (Nat.le_of_ble_eq_true rfl)) ?_
 refine qe (Z0 rfl rfl rfl) ?_
 refine qL 1 Z3 ?_
 refine qe (Z8 [] rfl rfl rfl (Z7l p hbs m.cls) List.nodup_nil) ?_
 refine Zy (w0 rfl) rfl (fun id => Z0b id rfl rfl rfl) (fun id4 => ?_)
 refine Zw 0 (w0 rfl) rfl rfl rfl rfl rfl rfl rfl rfl rfl ?_
 refine qN (qS (qS ?_))
 refine Z6l (knownC p m.cls) m.name m.desc (fun h1 h2 => ?_) (fun j hj h1 h2 => ?_)
 ·skip
  refine qR ?_
  refine qL 0 (Zt (Nat.le_of_ble_eq_true rfl)) ?_
  refine qe (Z0 rfl rfl rfl) ?_
  refine qL 2 Z3 ?_
  refine qe (Z0 rfl rfl rfl) ?_
  refine qL 2 Z3 ?_
  refine qe (Z8 [] rfl rfl rfl (Zgh _ hkm _ _ h1) List.nodup_nil) ?_
  refine qA (qN (qS (qR (qM ?_))))
  refine qe eI ?_
  refine qN ?_
  refine Z2 rfl ?_ ?_
  ·intro hc
   exfalso; simp at hc <;> omega
  ·intro hc
   refine qK (qS (qR ?_))
   refine qe (Z2k (y := zMt.av) (Z0k rfl rfl rfl) (.agg (by repeat' (first | exact .nil | refine .keep ?_ | refine .z ?_)))) ?_
   refine Zw 1 (w0 rfl) rfl rfl rfl rfl rfl rfl rfl rfl rfl ?_
   refine qA (qN (qE ?_))
   exact Z0p rfl (Z1b 1 rfl rfl rfl (Zt (Nat.le_of_ble_eq_true rfl)) (Z7 rfl Z4)) (gvr (by unfold getP; rw [h2]; rfl))
 ·skip
  refine qR ?_
  refine qL 0 (Zt (Nat.le_of_ble_eq_true rfl)) ?_
  refine qe (Z0 rfl rfl rfl) ?_
  refine qL 2 Z3 ?_
  refine qe (Z0 rfl rfl rfl) ?_
  refine qL 2 Z3 ?_
  refine qe (Z8 [] rfl rfl rfl (Zgh _ hkm _ _ h1) List.nodup_nil) ?_
  refine qA (qN (qS (qR (qM ?_))))
  refine qe eI ?_
  refine qN ?_
  refine Z2 rfl ?_ ?_
  ·intro hc
   refine qS (qR ?_)
   refine qe (Z0 rfl rfl rfl) ?_
   refine qL 0 Z3 ?_
   refine qM ?_
   refine qe (Z6 rfl rfl rfl (Z04 (fun _ => rfl)) (by first | omega | (simp only [List.length_map]; omega) | (simp only [List.length_map, List.length_drop]; omega)) (by first | omega | (simp only [List.length_map]; omega) | (simp only [List.length_map, List.length_drop]; omega))) ?_
   refine qe (Zu rfl rfl (Z0a (by first | assumption | omega | (simp only [List.length_drop]; omega))) (Zt (Nat.le_of_ble_eq_true rfl))) ?_
   refine Zw 1 (w0 rfl) rfl rfl rfl rfl rfl rfl rfl rfl rfl ?_
   refine qA (qN (qE ?_))
   exact Z0p rfl (Z1b 1 rfl rfl rfl (Zt (Nat.le_of_ble_eq_true rfl)) (Z7 rfl Z4)) (gvr (by unfold getP; rw [h2]; rfl))
  ·intro hc
   exfalso; simp at hc <;> omega
theorem Ze2 (p : Prog) (hp : p.ok) (m : MRef) : ACalls Tryz.prog 30 [p.av, m.av] [] (Gives (.tup [((getP p m).getD zMt).av, bA (getP p m).isSome])) := by
 have hbs := hp.classes.1
 have hkm := (Z4f hp m.cls).2
 refine Zd (n := 34) Tryz.func30 rfl (by decide +kernel) rfl rfl ?_
 refine qS (qR ?_)
 refine Zy (w0 rfl) rfl (fun id => Z09 id rfl rfl rfl rfl rfl) (fun id1 => ?_)
 refine Zy (w0 rfl) rfl (fun id => Z09 id rfl rfl rfl rfl rfl) (fun id2 => ?_)
 refine Zy (w0 rfl) rfl (fun id => Z0b id rfl rfl rfl) (fun id3 => ?_)
 refine qA (qN (qS (qR ?_)))
 refine qL 2 (Zt (Nat.le_of_ble_eq_true rfl)) ?_
 refine qe (Z0 rfl rfl rfl) ?_
 refine qL 1 Z3 ?_
 refine qe (Z8 [] rfl rfl rfl (Z7i p hbs m.cls) List.nodup_nil) ?_
 refine qM ?_
 refine qe (Zi rfl rfl rfl) ?_
 refine qe (Zi rfl rfl rfl) ?_
 refine Zy (w0 rfl) rfl (fun id => Z0b id rfl rfl rfl) (fun id4 => ?_)
 refine Zw 0 (w0 rfl) rfl rfl rfl rfl rfl rfl rfl rfl rfl ?_
 refine qA (qN (qS ?_))
 refine Z6l (knownC p m.cls) m.name m.desc (fun h1 h2 => ?_) (fun j hj h1 h2 => ?_)
 ·skip
  refine qR ?_
  refine qL 0 (Zt (Nat.le_of_ble_eq_true rfl)) ?_
  refine qe (Z0 rfl rfl rfl) ?_
  refine qL 2 Z3 ?_
  refine qe (Z0 rfl rfl rfl) ?_
  refine qL 2 Z3 ?_
  refine qe (Z8 [] rfl rfl rfl (Zgm _ hkm _ _ h1) List.nodup_nil) ?_
  refine qA (qN (qS (qS (qR (qM ?_)))))
  refine qe (Z03 rfl rfl) ?_
  refine qM (qFM ?_)
  refine Zp (wF rfl rfl rfl rfl) rfl (fun hg => (Zr rfl (Ze hg rfl) rfl rfl)) ?_
  refine qe (Z1h rfl rfl rfl (fun h => by rw [h]; rfl)) ?_
  refine qN ?_
  refine Z2 rfl ?_ ?_
  ·intro hc
   refine qS (qR ?_)
   refine qe (Z2k (y := zMt.av) (Z0k rfl rfl rfl) (.agg (by repeat' (first | exact .nil | refine .keep ?_ | refine .z ?_)))) ?_
   refine Zw 1 (w0 rfl) rfl rfl rfl rfl rfl rfl rfl rfl rfl ?_
   refine qA (qN (qE ?_))
   exact Z0p rfl (Z1b 1 rfl rfl rfl (Zt (Nat.le_of_ble_eq_true rfl)) (Z7 rfl Z4)) (gvr (by first | (unfold getP; rw [h2]; rfl) | (rw [Zcd (by cases hy : hasC p m.cls with | false => rfl | true => rw [hy] at hc; simp at hc <;> omega)]; rfl)))
  ·intro hc
   exfalso; simp at hc <;> omega
 ·skip
  refine qR ?_
  refine qL 0 (Zt (Nat.le_of_ble_eq_true rfl)) ?_
  refine qe (Z0 rfl rfl rfl) ?_
  refine qL 2 Z3 ?_
  refine qe (Z0 rfl rfl rfl) ?_
  refine qL 2 Z3 ?_
  refine qe (Z8 [] rfl rfl rfl (Zgm _ hkm _ _ h1) List.nodup_nil) ?_
  refine qA (qN (qS (qS (qR (qM ?_)))))
  refine qe (Z03 rfl rfl) ?_
  refine qM (qFM ?_)
  refine Zp (wF rfl rfl rfl rfl) rfl (fun hg => (Zr rfl (Ze hg rfl) rfl rfl)) ?_
  refine qe (Z1h rfl rfl rfl (fun h => by rw [h]; rfl)) ?_
  refine qN ?_
  refine Z2 rfl ?_ ?_
  ·intro hc
   refine qS (qR ?_)
   refine qe (Z2k (y := zMt.av) (Z0k rfl rfl rfl) (.agg (by repeat' (first | exact .nil | refine .keep ?_ | refine .z ?_)))) ?_
   refine Zw 1 (w0 rfl) rfl rfl rfl rfl rfl rfl rfl rfl rfl ?_
   refine qA (qN (qE ?_))
   exact Z0p rfl (Z1b 1 rfl rfl rfl (Zt (Nat.le_of_ble_eq_true rfl)) (Z7 rfl Z4)) (gvr (by first | (unfold getP; rw [h2]; rfl) | (rw [Zcd (by cases hy : hasC p m.cls with | false => rfl | true => rw [hy] at hc; simp at hc <;> omega)]; rfl)))
  ·intro hc
   have hx : hasC p m.cls = true := by cases hy : hasC p m.cls with | true => rfl | false => rw [hy] at hc; simp at hc
   refine qK (qS (qR ?_))
   refine qe (Z0 rfl rfl rfl) ?_
   refine qL 0 Z3 ?_
   refine qM ?_
   refine qe (Z6 rfl rfl rfl (Z04 (fun _ => rfl)) (by first | omega | (simp only [List.length_map]; omega) | (simp only [List.length_map, List.length_drop]; omega)) (by first | omega | (simp only [List.length_map]; omega) | (simp only [List.length_map, List.length_drop]; omega))) ?_
   refine qe (Zu rfl rfl (Z0a (by first | assumption | omega | (simp only [List.length_drop]; omega))) (Zt (Nat.le_of_ble_eq_true rfl))) ?_
   refine Zw 1 (w0 rfl) rfl rfl rfl rfl rfl rfl rfl rfl rfl ?_
   refine qA (qN (qE ?_))
   exact Z0p rfl (Z1b 1 rfl rfl rfl (Zt (Nat.le_of_ble_eq_true rfl)) (Z7 rfl Z4)) (gvr (by unfold getP; rw [h2]; rfl))
theorem Z7k (p : Prog) (hp : p.ok) (f : FRef) : ACalls Tryz.prog 35 [p.av, f.av] [] (Gives (.tup [((fldP p f).getD zFl).av, bA (fldP p f).isSome])) := by
 have hbs := hp.classes.1
 have hkm := (Z4f hp f.cls).1
 refine Zd (n := 24) Tryz.func35 rfl (by decide +kernel) rfl rfl ?_
 refine qS (qR ?_)
 refine Zy (w0 rfl) rfl (fun id => Z09 id rfl rfl rfl rfl rfl) (fun id1 => ?_)
 refine Zy (w0 rfl) rfl (fun id => Z09 id rfl rfl rfl rfl rfl) (fun id2 => ?_)
 refine Zy (w0 rfl) rfl (fun id => Z0b id rfl rfl rfl) (fun id3 => ?_)
 refine qA (qN (qS (qR ?_)))
 refine qL 2 (Zt (Nat.le_of_ble_eq_true rfl)) ?_
 refine qe (Z0 rfl rfl rfl) ?_
 refine qL 1 Z3 ?_
 refine qe (Z8 [] rfl rfl rfl (Z7l p hbs f.cls) List.nodup_nil) ?_
 refine Zy (w0 rfl) rfl (fun id => Z0b id rfl rfl rfl) (fun id4 => ?_)
 refine Zw 0 (w0 rfl) rfl rfl rfl rfl rfl rfl rfl rfl rfl ?_
 refine qN (qS (qS ?_))
 refine Z6j (knownC p f.cls) f.name (fun h1 h2 => ?_) (fun j hj h1 h2 => ?_)
 ·skip
  refine qR ?_
  refine qL 0 (Zt (Nat.le_of_ble_eq_true rfl)) ?_
  refine qe (Z0 rfl rfl rfl) ?_
  refine qL 2 Z3 ?_
  refine qe (Z8 [] rfl rfl rfl (Zgg _ hkm _ h1) List.nodup_nil) ?_
  refine qA (qN (qS (qR (qM ?_))))
  refine qe eI ?_
  refine qN ?_
  refine Z2 rfl ?_ ?_
  ·intro hc
   exfalso; simp at hc <;> omega
  ·intro hc
   refine qK (qS (qR ?_))
   refine qe (Z0k rfl rfl rfl) ?_
   refine Zw 1 (w0 rfl) rfl rfl rfl rfl rfl rfl rfl rfl rfl ?_
   refine qA (qN (qE ?_))
   exact Z0p rfl (Z1b 1 rfl rfl rfl (Zt (Nat.le_of_ble_eq_true rfl)) (Z7 rfl Z4)) (gvr (by unfold fldP; rw [h2]; rfl))
 ·skip
  refine qR ?_
  refine qL 0 (Zt (Nat.le_of_ble_eq_true rfl)) ?_
  refine qe (Z0 rfl rfl rfl) ?_
  refine qL 2 Z3 ?_
  refine qe (Z8 [] rfl rfl rfl (Zgg _ hkm _ h1) List.nodup_nil) ?_
  refine qA (qN (qS (qR (qM ?_))))
  refine qe eI ?_
  refine qN ?_
  refine Z2 rfl ?_ ?_
  ·intro hc
   refine qS (qR ?_)
   refine qe (Z0 rfl rfl rfl) ?_
   refine qL 0 Z3 ?_
   refine qM ?_
   refine qe (Z6 rfl rfl rfl (Z04 (fun _ => rfl)) (by first | omega | (simp only [List.length_map]; omega) | (simp only [List.length_map, List.length_drop]; omega)) (by first | omega | (simp only [List.length_map]; omega) | (simp only [List.length_map, List.length_drop]; omega))) ?_
   refine qe (Zu rfl rfl (Z0a (by first | assumption | omega | (simp only [List.length_drop]; omega))) (Zt (Nat.le_of_ble_eq_true rfl))) ?_
   refine Zw 1 (w0 rfl) rfl rfl rfl rfl rfl rfl rfl rfl rfl ?_
   refine qA (qN (qE ?_))
   exact Z0p rfl (Z1b 1 rfl rfl rfl (Zt (Nat.le_of_ble_eq_true rfl)) (Z7 rfl Z4)) (gvr (by unfold fldP; rw [h2]; rfl))
  ·intro hc
   exfalso; simp at hc <;> omega
theorem Z4u (p : Prog) (hp : p.ok) (f : FRef) : ACalls Tryz.prog 26 [p.av, f.av] [] (Gives (.tup [((fldP p f).getD zFl).av, bA (fldP p f).isSome])) := by
 have hbs := hp.classes.1
 have hkm := (Z4f hp f.cls).1
 refine Zd (n := 32) Tryz.func26 rfl (by decide +kernel) rfl rfl ?_
 refine qS (qR ?_)
 refine Zy (w0 rfl) rfl (fun id => Z09 id rfl rfl rfl rfl rfl) (fun id1 => ?_)
 refine Zy (w0 rfl) rfl (fun id => Z09 id rfl rfl rfl rfl rfl) (fun id2 => ?_)
 refine Zy (w0 rfl) rfl (fun id => Z0b id rfl rfl rfl) (fun id3 => ?_)
 refine qA (qN (qS (qR ?_)))
 refine qL 2 (Zt (Nat.le_of_ble_eq_true rfl)) ?_
 refine qe (Z0 rfl rfl rfl) ?_
 refine qL 1 Z3 ?_
 refine qe (Z8 [] rfl rfl rfl (Z7i p hbs f.cls) List.nodup_nil) ?_
 refine qM ?_
 refine qe (Zi rfl rfl rfl) ?_
 refine qe (Zi rfl rfl rfl) ?_
 refine Zy (w0 rfl) rfl (fun id => Z0b id rfl rfl rfl) (fun id4 => ?_)
 refine Zw 0 (w0 rfl) rfl rfl rfl rfl rfl rfl rfl rfl rfl ?_
 refine qA (qN (qS ?_))
 refine Z6j (knownC p f.cls) f.name (fun h1 h2 => ?_) (fun j hj h1 h2 => ?_)
 ·skip
  refine qR ?_
  refine qL 0 (Zt (Nat.le_of_ble_eq_true rfl)) ?_
  refine qe (Z0 rfl rfl rfl) ?_
  refine qL 2 Z3 ?_
  refine qe (Z8 [] rfl rfl rfl (Zgl _ hkm _ h1) List.nodup_nil) ?_
  refine qA (qN (qS (qS (qR (qM ?_)))))
  refine qe (Z03 rfl rfl) ?_
  refine qM (qFM ?_)
  refine Zp (wF rfl rfl rfl rfl) rfl (fun hg => (Zr rfl (Ze hg rfl) rfl rfl)) ?_
  refine qe (Z1h rfl rfl rfl (fun h => by rw [h]; rfl)) ?_
  refine qN ?_
  refine Z2 rfl ?_ ?_
  ·intro hc
   refine qS (qR ?_)
   refine qe (Z0k rfl rfl rfl) ?_
   refine Zw 1 (w0 rfl) rfl rfl rfl rfl rfl rfl rfl rfl rfl ?_
   refine qA (qN (qE ?_))
   exact Z0p rfl (Z1b 1 rfl rfl rfl (Zt (Nat.le_of_ble_eq_true rfl)) (Z7 rfl Z4)) (gvr (by first | (unfold fldP; rw [h2]; rfl) | (rw [Zc6 (by cases hy : hasC p f.cls with | false => rfl | true => rw [hy] at hc; simp at hc <;> omega)]; rfl)))
  ·intro hc
   exfalso; simp at hc <;> omega
 ·skip
  refine qR ?_
  refine qL 0 (Zt (Nat.le_of_ble_eq_true rfl)) ?_
  refine qe (Z0 rfl rfl rfl) ?_
  refine qL 2 Z3 ?_
  refine qe (Z8 [] rfl rfl rfl (Zgl _ hkm _ h1) List.nodup_nil) ?_
  refine qA (qN (qS (qS (qR (qM ?_)))))
  refine qe (Z03 rfl rfl) ?_
  refine qM (qFM ?_)
  refine Zp (wF rfl rfl rfl rfl) rfl (fun hg => (Zr rfl (Ze hg rfl) rfl rfl)) ?_
  refine qe (Z1h rfl rfl rfl (fun h => by rw [h]; rfl)) ?_
  refine qN ?_
  refine Z2 rfl ?_ ?_
  ·intro hc
   refine qS (qR ?_)
   refine qe (Z0k rfl rfl rfl) ?_
   refine Zw 1 (w0 rfl) rfl rfl rfl rfl rfl rfl rfl rfl rfl ?_
   refine qA (qN (qE ?_))
   exact Z0p rfl (Z1b 1 rfl rfl rfl (Zt (Nat.le_of_ble_eq_true rfl)) (Z7 rfl Z4)) (gvr (by first | (unfold fldP; rw [h2]; rfl) | (rw [Zc6 (by cases hy : hasC p f.cls with | false => rfl | true => rw [hy] at hc; simp at hc <;> omega)]; rfl)))
  ·intro hc
   refine qK (qS (qR ?_))
   refine qe (Z0 rfl rfl rfl) ?_
   refine qL 0 Z3 ?_
   refine qM ?_
   refine qe (Z6 rfl rfl rfl (Z04 (fun _ => rfl)) (by first | omega | (simp only [List.length_map]; omega) | (simp only [List.length_map, List.length_drop]; omega)) (by first | omega | (simp only [List.length_map]; omega) | (simp only [List.length_map, List.length_drop]; omega))) ?_
   refine qe (Zu rfl rfl (Z0a (by first | assumption | omega | (simp only [List.length_drop]; omega))) (Zt (Nat.le_of_ble_eq_true rfl))) ?_
   refine Zw 1 (w0 rfl) rfl rfl rfl rfl rfl rfl rfl rfl rfl ?_
   refine qA (qN (qE ?_))
   exact Z0p rfl (Z1b 1 rfl rfl rfl (Zt (Nat.le_of_ble_eq_true rfl)) (Z7 rfl Z4)) (gvr (by unfold fldP; rw [h2]; rfl))
end Go.Sx
namespace Go.Sx
open Go
def letW (c : Int) : Bool := ((c == 95) || (c == 36)) || ((decide (c ≥ 65) && decide (c ≤ 90)) || ((decide (c ≥ 97) && decide (c ≤ 122)) || (decide (c ≥ 48) && decide (c ≤ 57))))
def allW (s : Str) (m : Int) : Bool := ((List.range s.size).all fun i => letW (byteAt s (i : Nat)) || (byteAt s (i : Nat) == m)) && (!beqS s zS && decide (s.size ≤ 32))
def clsW (s : Str) : Bool := ((List.range s.size).all fun i => letW (byteAt s (i : Nat)) || (byteAt s (i : Nat) == 47)) && (!beqS s zS && decide (s.size ≤ 32))
def nameW (s : Str) : Bool := beqS s nInit' || allW s 95
theorem Z7e {n i : Nat} {f : Nat → Bool} (hi : i < n) (h : f i = false) : (List.range n).all f = false := List.all_eq_false.2 ⟨i, List.mem_range.2 hi, by rw [h]; simp⟩
theorem Z5c {n : Nat} {f : Nat → Bool} (h : ∀ k, k < n → f k = true) : (List.range n).all f = true := List.all_eq_true.2 fun x hx => h x (List.mem_range.1 hx)
theorem Zb3 {s : Str} {m : Int} (h : s.size < 1 ∨ 32 < s.size) : allW s m = false := by
 unfold allW
 rcases h with h | h
 ·have : s = zS := by
   cases s with | mk d => 
   have hd : d = #[] := Array.eq_empty_of_size_eq_zero (by change d.size < 1 at h; omega)
   subst hd; rfl
  rw [this, Z5f]; simp
 ·rw [decide_eq_false (by omega), Bool.and_false, Bool.and_false]
theorem Zd3 {s : Str} {m : Int} {i : Nat} (hi : i < s.size) (h : (letW (byteAt s (i : Nat)) || (byteAt s (i : Nat) == m)) = false) : allW s m = false := by unfold allW; rw [Z7e hi h]; rfl
theorem Zhc {s : Str} (h : 1 ≤ s.size) : beqS s zS = false := by
 cases h1 : beqS s zS with
 | false => rfl
 | true => rw [beqS_iff.1 h1] at h; exact absurd h (by decide)
theorem Zd4 {s : Str} {m : Int} (h0 : 1 ≤ s.size) (h1 : s.size ≤ 32) (h : ∀ k, k < s.size → (letW (byteAt s (k : Nat)) || (byteAt s (k : Nat) == m)) = true) : allW s m = true := by
 unfold allW; rw [Z5c h, Zhc h0, decide_eq_true h1]; rfl
def rightT (t : Ty) : Bool := if t.kind = 3 ∨ t.kind = 5 then clsW t.cls else (beqS t.cls zS && decide (t.kind ≥ 1)) && decide (t.kind ≤ 5)
def elemT (t : Ty) : Ty := if t.kind = 4 then ⟨2, zS⟩ else if t.kind = 5 then ⟨3, t.cls⟩ else ⟨0, zS⟩
def text0 (t : Ty) : Str := if t.kind = 1 then ⟨#[86]⟩ else if t.kind = 2 then ⟨#[73]⟩ else ((⟨#[76]⟩ : Str) ++ t.cls) ++ (⟨#[59]⟩ : Str)
def textT (t : Ty) : Str := if rightT t then (if t.kind = 4 ∨ t.kind = 5 then (⟨#[91]⟩ : Str) ++ text0 (elemT t) else text0 t) else zS
theorem Z7a {t : Ty} (h : rightT t = true) (h1 : ¬ t.kind = 1) (h2 : ¬ t.kind = 2) (h3 : ¬ t.kind = 3) : t.kind = 4 ∨ t.kind = 5 := by
 unfold rightT at h
 by_cases h5 : t.kind = 5
 ·exact .inr h5
 ·rw [if_neg (by omega)] at h
  simp only [Bool.and_eq_true, decide_eq_true_eq] at h
  omega
theorem Zau {t : Ty} (h : rightT t = true) (h1 : t.kind = 4 ∨ t.kind = 5) : rightT (elemT t) = true := by
 unfold elemT
 rcases h1 with h1 | h1
 ·rw [if_pos h1]; decide +kernel
 ·rw [if_neg (by omega), if_pos h1]
  unfold rightT at h ⊢
  rw [if_pos (.inr h1)] at h
  rw [if_pos (.inl rfl)]; exact h
theorem Zf2 {t : Ty} (h1 : t.kind = 4 ∨ t.kind = 5) : ¬ ((elemT t).kind = 4 ∨ (elemT t).kind = 5) := by
 unfold elemT
 rcases h1 with h1 | h1
 ·rw [if_pos h1]; simp
 ·rw [if_neg (by omega), if_pos h1]; simp
theorem Zg1 {t : Ty} (h : small t.cls.size) : small (elemT t).cls.size := by
 unfold elemT
 split
 ·unfold small; decide
 ·split
  ·exact h
  ·unfold small; decide
theorem Z8w (t : Ty) : (elemT t).cls.size ≤ t.cls.size := by
 unfold elemT
 split
 ·exact Nat.zero_le _
 ·split
  ·exact Nat.le_refl _
  ·exact Nat.zero_le _
theorem Za6 (t : Ty) : (text0 t).size ≤ t.cls.size + 2 := by
 have h1 : ByteArray.size ⟨#[76]⟩ = 1 := rfl
 have h2 : ByteArray.size ⟨#[59]⟩ = 1 := rfl
 have h3 : ByteArray.size ⟨#[86]⟩ = 1 := rfl
 have h4 : ByteArray.size ⟨#[73]⟩ = 1 := rfl
 unfold text0
 split
 ·omega
 ·split
  ·omega
  ·rw [ByteArray.size_append, ByteArray.size_append]; omega
theorem Z5a (t : Ty) : (textT t).size ≤ t.cls.size + 3 := by
 have h1 : ByteArray.size ⟨#[91]⟩ = 1 := rfl
 have h2 := Za6 t
 have h3 := Za6 (elemT t)
 have h4 := Z8w t
 unfold textT
 split
 ·split
  ·rw [ByteArray.size_append]; omega
  ·omega
 ·exact Nat.zero_le _
def zTy : Ty := ⟨0, zS⟩
def semF (s : Str) : Nat → Nat → Nat
 | 0, t => t
 | n + 1, t => if byteAt s (t : Nat) = 59 then t else semF s n (t + 1)
def semi (s : Str) (t : Nat) : Nat := semF s (s.size - t) t
def arrA (s : Str) (k : Nat) : Bool := decide ((k : Int) < (s.size : Int)) && (byteAt s (k : Nat) == 91)
def nxA (s : Str) (k : Nat) : Nat := if arrA s k then k + 1 else k
def nextR (s : Str) (k : Nat) : Ty × Nat × Bool :=
 if s.size ≤ nxA s k then (zTy, 0, false)
 else if byteAt s (nxA s k : Nat) = 86 then (⟨1, zS⟩, nxA s k + 1, !arrA s k)
 else if byteAt s (nxA s k : Nat) = 73 then (⟨if arrA s k then 4 else 2, zS⟩, nxA s k + 1, true)
 else if byteAt s (nxA s k : Nat) = 76 then
  (if s.size ≤ semi s (nxA s k) ∨ clsW (s.extract (nxA s k + 1) (semi s (nxA s k))) = false then (zTy, 0, false)
  else (⟨if arrA s k then 5 else 3, s.extract (nxA s k + 1) (semi s (nxA s k))⟩, semi s (nxA s k) + 1, true))
 else (zTy, 0, false)
section
variable {s : Str} {k a1 : Nat} {arr : Bool} (ha : a1 = nxA s k) (hb : arr = arrA s k)
end
def parseR (s : Str) : Ty × Int := if (nextR s 0).2.2 = false ∨ ¬ (nextR s 0).2.1 = s.size then (zTy, 1) else ((nextR s 0).1, 0)
def parF (s : Str) : Nat → Nat → List Ty → Option (List Ty × Nat)
 | 0, _, _ => none
 | n + 1, k, o => if k < s.size ∧ ¬ byteAt s (k : Nat) = 41 then (if (nextR s k).2.2 = false ∨ (nextR s k).1.kind = 1 then none else parF s n (nextR s k).2.1 (o ++ [(nextR s k).1])) else some (o, k)
def par (s : Str) (k : Nat) (o : List Ty) : Option (List Ty × Nat) := parF s (s.size - k + 1) k o
def splitE (e : Int) : List Ty × Ty × Int := ([], zTy, e)
def splitR (s : Str) : List Ty × Ty × Int :=
 if 64 < s.size then splitE 3
 else if s.size = 0 ∨ ¬ byteAt s 0 = 40 then splitE 1
 else match par s 1 [] with
  | none => splitE 1
  | some (o, k) => if s.size ≤ k then splitE 1 else if ¬ (parseR (s.extract (k + 1) s.size)).2 = 0 then splitE (parseR (s.extract (k + 1) s.size)).2 else if 8 < o.length then splitE 3 else (o, (parseR (s.extract (k + 1) s.size)).1, 0)
def shapeS (o : Int) : Str :=
 if o = 2 then ⟨#[97, 107]⟩ else if o = 3 ∨ o = 26 then ⟨#[97]⟩ else if o = 4 ∨ o = 10 ∨ o = 12 ∨ o = 28 ∨ o = 29 then ⟨#[97, 98]⟩ else if o = 5 then ⟨#[97, 98, 99, 114]⟩ else if o = 6 then ⟨#[116]⟩
 else if o = 7 ∨ o = 8 then ⟨#[98, 116]⟩ else if o = 9 then ⟨#[97, 67]⟩ else if o = 11 ∨ o = 24 ∨ o = 25 then ⟨#[97, 98, 67]⟩ else if o = 13 ∨ o = 14 then ⟨#[97, 98, 99]⟩ else if o = 15 then ⟨#[97, 98, 70]⟩
 else if o = 16 then ⟨#[98, 99, 70]⟩ else if o = 17 then ⟨#[97, 70]⟩ else if o = 18 then ⟨#[99, 70]⟩ else if o = 19 ∨ o = 20 ∨ o = 21 then ⟨#[97, 77, 118]⟩ else if o = 22 ∨ o = 27 ∨ o = 31 then ⟨#[98]⟩
 else if o = 30 then ⟨#[107]⟩ else if o = 32 then ⟨#[67]⟩ else ⟨#[]⟩
def hasL (s : Str) (c : Int) : Bool := (List.range s.size).any fun i => byteAt s (i : Nat) == c
def isCallO (o : Int) : Bool := ((o == 19) || (o == 20)) || (o == 21)
def hCls (s : Str) : Bool := (hasL s 67 || hasL s 70) || hasL s 77
def hNam (s : Str) : Bool := hasL s 70 || hasL s 77
def hNum (s : Str) : Bool := (hasL s 107 || hasL s 116) || hasL s 114
def emptyI (x : Instr) (s : Str) : Bool := (((((((hasL s 97 || x.a == 0) && (hasL s 98 || x.b == 0)) && (hasL s 99 || x.c == 0)) && (hNum s || x.k == 0)) && (hCls s || beqS x.cls zS)) && (hNam s || beqS x.name zS)) && (hasL s 77 || beqS x.desc zS)) && (hasL s 118 || ((x.args.length : Int) == 0))
def namedI (x : Instr) (s : Str) : Bool := if hCls s && !clsW x.cls then false else if hNam s && !nameW x.name then false else !hasL s 77 || (splitR x.desc).2.2 == 0
def wthI (n m : Int) : Bool := decide (n ≥ 0) && decide (n < m)
def argsN (x : Instr) : Int := if ¬ x.op = 19 then ((splitR x.desc).1.length : Int) + 1 else ((splitR x.desc).1.length : Int)
def voidI (x : Instr) : Bool := isCallO x.op && ((splitR x.desc).2.1.kind == 1)
def fitsI (x : Instr) (regs code : Int) : Int :=
 if ((decide (x.op < 1) || decide (x.op > 32)) || !emptyI x (shapeS x.op)) || !namedI x (shapeS x.op) then 1
 else if isCallO x.op && !((x.args.length : Int) == argsN x) then 9
 else if (((hasL (shapeS x.op) 97 && !wthI x.a regs) || (hasL (shapeS x.op) 98 && !wthI x.b regs)) || (hasL (shapeS x.op) 99 && !wthI x.c regs)) || (voidI x && !(x.a == 0)) then 12
 else if x.args.any (fun a => !wthI a regs) then 12
 else if (hasL (shapeS x.op) 116 && (decide (x.k < 0) || decide (x.k ≥ code))) || (hasL (shapeS x.op) 114 && (decide (x.k < 0) || decide (x.k > 9))) then 12 else 0
def nVoid : Str := ⟨#[40, 41, 86]⟩
def methR (m : Meth) : Bool :=
 if ((!((splitR m.desc).2.2 == 0) || !nameW m.name) || decide (m.regs < 0)) || decide (m.regs > 32) then false
 else if m.abs then (((!m.static && !beqS m.name nInit') && ((m.code.length : Int) == 0)) && (m.regs == 0))
 else if (decide ((m.code.length : Int) < 1) || decide ((m.code.length : Int) > 256)) || decide (m.regs < (if m.static then ((splitR m.desc).1.length : Int) else ((splitR m.desc).1.length : Int) + 1)) then false
 else if m.code.any (fun x => !(fitsI x m.regs m.code.length == 0)) then false
 else !beqS m.name nInit' || (m.static && beqS m.desc nVoid)
def fldR (f : Fld) : Bool := ((nameW f.name && !beqS f.name nInit') && rightT f.type) && !(f.type.kind == 1)
def cmR (c : Cls) (m : Meth) : Bool := (methR m && !(c.iface && !m.abs)) && !(m.abs && !c.abs)
def clsR8 (c : Cls) : Bool :=
 if !clsW c.name || (!beqS c.super zS && (!clsW c.super || beqS c.super c.name)) then false
 else if c.iface && ((!c.abs || !beqS c.super zS) || decide ((c.fields.length : Int) > 0)) then false
 else if c.ifaces.any (fun s => !clsW s) then false
 else if c.fields.any (fun f => !fldR f) then false
 else !c.methods.any (fun m => !cmR c m)
def entryR (m : MRef) : Bool := ((beqS m.cls zS && beqS m.name zS) && beqS m.desc zS) || (((clsW m.cls && nameW m.name) && !beqS m.name nInit') && (beqS m.desc nAsk || beqS m.desc nVoid))
def longC (c : Cls) : Bool := (decide ((c.ifaces.length : Int) > 8) || decide ((c.fields.length : Int) > 32)) || decide ((c.methods.length : Int) > 32)
def longR (p : Prog) : Bool :=
 if decide ((p.classes.length : Int) > 64) || decide ((p.names.length : Int) > 64) then true
 else if p.classes.any longC then true
 else p.names.any fun s => decide ((s.size : Int) > 64)
def belowM (a b : Meth) : Bool := ltS a.name b.name || (beqS a.name b.name && ltS a.desc b.desc)
def allB (g : Nat → Bool) (n : Nat) : Bool := (List.range n).all fun i => Nat.beq i 0 || g i
theorem Z33 {α : Type} [Inhabited α] {l : List α} {i : Nat} (hi : i < l.length) : l[i] = l.getD i default := by simp [List.getD, List.getElem?_eq_getElem hi]
def gI (c : Cls) (k : Nat) : Bool := ltS (c.ifaces.getD (k - 1) default) (c.ifaces.getD k default)
def gF (c : Cls) (k : Nat) : Bool := ltS (c.fields.getD (k - 1) default).name (c.fields.getD k default).name
def gM (c : Cls) (k : Nat) : Bool := belowM (c.methods.getD (k - 1) default) (c.methods.getD k default)
def orderedC (c : Cls) : Bool := allB (gI c) c.ifaces.length && allB (gF c) c.fields.length && allB (gM c) c.methods.length
def gC (p : Prog) (k : Nat) : Bool := ltS (p.classes.getD (k - 1) default).name (p.classes.getD k default).name
def inOrdK (p : Prog) (i : Nat) : Bool := orderedC (p.classes.getD i default) && (Nat.beq i 0 || gC p i)
def inOrdR (p : Prog) : Bool := (List.range p.classes.length).all (inOrdK p)
def rightR (p : Prog) : Int := if longR p then 3 else if p.classes.any (fun c => !clsR8 c) then 1 else if !entryR p.entry then 1 else if !inOrdR p then 5 else 0
def nxtA (r : Ty × Nat × Bool) : AV := .tup [.agg r.1.cells, iA r.2.1, bA r.2.2]
def prsA (r : Ty × Int) : AV := .tup [.agg r.1.cells, iA r.2]
def splA (r : List Ty × Ty × Int) : AV := .tup [.lst (r.1.map Ty.cells), .agg r.2.1.cells, iA r.2.2]
end Go.Sx
namespace Go.Sx
open Go
section
variable {P : Program} {ro : Option Nat} {Q : Exit → St → Prop} {s : St}
theorem Z14 {c : Code} {id el n qe qs : Nat} {e0 : List AV} (k c0 : Nat) (hH : s.H[k]? = some (id, .rows el n [e0])) (hc0 : e0[c0]? = some (.v (.slice none 0 0)))
  (h : ∀ q, AWp P ro c Q ⟨s.T, (q, .rows qe qs []) :: s.H.set k (id, .rows el n [e0.set c0 (.own q qs 0 0)]), s.D, s.n⟩) : AWp P ro c Q s := by
 intro Z C0 H0 w0 C a w he hs
 obtain ⟨q, hq⟩ := Z7w (C.U ++ Z)
 rw [List.mem_append, not_or] at hq
 have hle := Ctx.le_bindO (x := none) hq.1
 obtain ⟨H1, H2, e1, e2⟩ := Z4k hH
 have hw := hs.wr
 have hother : ∀ i o, (i, o) ∈ s.H → i ≠ q := by rintro i o hi rfl; exact hq.1 (hw.ids i o hi).1
 have hm : ∀ i, i ≠ q → (C.bindO q none).m i = C.m i := fun i hi => if_neg hi
 have hset : ∀ p, p ∈ s.H.set k (id, .rows el n [e0.set c0 (.own q qs 0 0)]) → p = (id, .rows el n [e0.set c0 (.own q qs 0 0)]) ∨ p ∈ s.H := fun p hp => by
  rw [e2] at hp; rw [e1]
  rcases List.mem_append.1 hp with h | h
  ·exact .inr (List.mem_append_left _ h)
  ·rcases List.mem_cons.1 h with h | h
   ·exact .inl h
   ·exact .inr (List.mem_append_right _ (List.mem_cons_of_mem _ h))
 have hidm : ∀ i o, (i, o) ∈ s.H.set k (id, .rows el n [e0.set c0 (.own q qs 0 0)]) → ∃ o', (i, o') ∈ s.H := fun i o hi => by
  rcases hset _ hi with h | h
  ·cases h; exact ⟨_, List.mem_of_getElem? hH⟩
  ·exact ⟨o, h⟩
 have hmap : (s.H.set k (id, AObj.rows el n [e0.set c0 (.own q qs 0 0)])).map Prod.fst = s.H.map Prod.fst := by
  rw [e2, e1]; simp
 have hblk : ∀ b, blk (C.bindO q none) ((q, .rows qe qs []) :: s.H.set k (id, .rows el n [e0.set c0 (.own q qs 0 0)])) b → blk C s.H b := by
  rintro b ⟨i, o, N, hi, hmi⟩
  rcases List.mem_cons.1 hi with h2 | h2
  ·cases h2; rw [Ctx.bindO_m] at hmi; cases hmi
  ·obtain ⟨o', ho'⟩ := hidm i o h2
   rw [hm i (hother i o' ho')] at hmi; exact ⟨i, o', N, ho', hmi⟩
 refine h q Z C0 H0 w0 (C.bindO q none) a w (he.trans ⟨hle, ?_, rfl, rfl, rfl, Nat.le_refl _, fun _ _ _ => rfl, fun _ o h => .inl ⟨o, h⟩, fun b hb => .inl (hblk b hb), ?_⟩) ⟨⟨hw.hp, ?_, ?_, ?_, fun b hb => hw.dis b (hblk b hb)⟩, fun t x ht => let ⟨v, a, b⟩ := hs.sl t x ht; ⟨v, a, b.mono hle⟩, ?_, fun i hi => List.mem_cons_of_mem _ (hs.du i hi), hs.sz⟩
 ·intro z hz hzu hmem
  rcases List.mem_cons.1 hmem with h2 | h2
  ·exact hq.2 (h2 ▸ hz)
  ·exact hzu h2
 ·intro i o hi
  rcases List.mem_cons.1 hi with h2 | h2
  ·cases h2; exact .inr hq.1
  ·exact .inl (hidm i o h2)
 ·rw [List.map_cons, hmap, List.nodup_cons]
  refine ⟨fun hmem => ?_, hw.nd⟩
  obtain ⟨⟨i, o⟩, hi, he⟩ := List.mem_map.1 hmem
  exact hother i o hi he
 ·intro i o hi
  rcases List.mem_cons.1 hi with h2 | h2
  ·cases h2; exact ⟨List.mem_cons_self, nofun, .inl ⟨Ctx.bindO_m .., rfl⟩⟩
  ·rcases hset _ h2 with h3 | h3
   ·cases h3
    obtain ⟨h4, h5, h6⟩ := hw.ids _ _ (List.mem_of_getElem? hH)
    refine ⟨hle.U _ h4, by simpa using h5, ?_⟩
    rcases h6 with ⟨_, h7⟩ | ⟨b, N, cells, h7, h8, h9, h10, h11⟩
    ·cases h7
    ·refine .inr ⟨b, N, cells, (hm _ (hother _ _ (List.mem_of_getElem? hH))).trans h7, h8, h9, h10, ?_⟩
     intro i' e j c he hc
     have hi0 : i' = 0 := by
      cases i' with
      | zero => rfl
      | succ n => simp at he
     subst hi0
     simp only [List.getElem?_cons_zero, Option.some.injEq] at he
     subst he
     rw [List.getElem?_set] at hc
     by_cases hj : c0 = j
     ·subst hj
      have hlt : c0 < e0.length := Z19 hc0
      rw [if_pos rfl, if_pos hlt] at hc
      cases hc
      obtain ⟨x, g1, g2, g3⟩ := h11 0 e0 c0 _ rfl hc0
      have := VR.val g2
      subst this
      exact ⟨_, g1, .ownNil q qs (Ctx.bindO_m ..) List.mem_cons_self, g3⟩
     ·rw [if_neg hj] at hc
      obtain ⟨x, g1, g2, g3⟩ := h11 0 e0 j c rfl hc
      exact ⟨x, g1, g2.mono hle, g3⟩
   ·obtain ⟨h4, h5⟩ := hw.ids i o h3
    exact ⟨hle.U i h4, h5.keep hle h4 (fun _ _ _ => rfl)⟩
 ·intro i j o o' b N N' hi hj h2 h3
  rcases List.mem_cons.1 hi with h4 | h4
  ·cases h4; rw [Ctx.bindO_m] at h2; cases h2
  ·rcases List.mem_cons.1 hj with h5 | h5
   ·cases h5; rw [Ctx.bindO_m] at h3; cases h3
   ·obtain ⟨p1, hp1⟩ := hidm i o h4
    obtain ⟨p2, hp2⟩ := hidm j o' h5
    rw [hm i (hother i p1 hp1)] at h2; rw [hm j (hother j p2 hp2)] at h3
    exact hw.inj i j p1 p2 b N N' hp1 hp2 h2 h3
 ·rw [hs.df]
  exact List.map_congr_left fun i hi => by
   have : i ≠ q := by rintro rfl; exact hq.1 (hs.du i hi)
   simp [mark, hm i this]
theorem Zem {C : Ctx} {b : Option Nat} {ob : Option Obj} {id sz off len : Nat} {v : Value} (h : VR (C.hpSet b ob) (.own id sz off len) v) : VR C (.own id sz off len) v := by
 cases h with
 | own _ _ _ _ bb N cap hid hu hcap hlen hml => exact .own id sz off len bb N cap hid hu hcap hlen hml
 | ownNil _ _ hid hu => exact .ownNil id sz hid hu
theorem Z17 {id sz el el2 n g len : Nat} {es : List (List AV)} {e0 : List AV} {T' : List (Nat × AV)} (k j c0 : Nat) (hH : s.H[k]? = some (id, .rows el sz es)) (hg : (s.H.eraseIdx k)[j]? = some (g, .rows el2 n [e0])) (hc : e0[c0]? = some (.own id sz 0 len)) (hl : len = es.length) (hT : SubT s.T T') :
  Weak s ⟨T', (s.H.eraseIdx k).set j (g, .rows el2 n [e0.set c0 (.lst es)]), s.D, s.n⟩ := by
 intro Z C a w hs
 have hw := hs.wr.perm (Zk hH)
 obtain ⟨b, ob, h1, h2, h3, h4, h5, h6⟩ := frz hw
 obtain ⟨H1, H2, e1, e2⟩ := Z4k hg
 have hset : ∀ p, p ∈ (s.H.eraseIdx k).set j (g, .rows el2 n [e0.set c0 (.lst es)]) → p = (g, .rows el2 n [e0.set c0 (.lst es)]) ∨ p ∈ s.H.eraseIdx k := fun p hp => by
  rw [e2] at hp; rw [e1]
  rcases List.mem_append.1 hp with h | h
  ·exact .inr (List.mem_append_left _ h)
  ·rcases List.mem_cons.1 h with h | h
   ·exact .inl h
   ·exact .inr (List.mem_append_right _ (List.mem_cons_of_mem _ h))
 have hidm : ∀ i o, (i, o) ∈ (s.H.eraseIdx k).set j (g, .rows el2 n [e0.set c0 (.lst es)]) → ∃ o', (i, o') ∈ s.H.eraseIdx k := fun i o hi => by
  rcases hset _ hi with h | h
  ·cases h; exact ⟨_, List.mem_of_getElem? hg⟩
  ·exact ⟨o, h⟩
 have hmap : ((s.H.eraseIdx k).set j (g, AObj.rows el2 n [e0.set c0 (.lst es)])).map Prod.fst = (s.H.eraseIdx k).map Prod.fst := by
  rw [e2, e1]; simp
 have hblk : ∀ x, blk (C.hpSet b ob) ((s.H.eraseIdx k).set j (g, .rows el2 n [e0.set c0 (.lst es)])) x → blk (C.hpSet b ob) (s.H.eraseIdx k) x := by
  rintro x ⟨i, o, N, hi, hm⟩
  obtain ⟨o', ho'⟩ := hidm i o hi
  exact ⟨i, o', N, ho', hm⟩
 refine ⟨C.hpSet b ob, ⟨⟨h4.hp, ?_, ?_, ?_, fun x hx => h4.dis x (hblk x hx)⟩, ?_, ?_, hs.du, hs.sz⟩, ⟨h5, fun _ _ h => h, rfl, rfl, rfl, Nat.le_refl _, fun _ _ _ => rfl, ?_, ?_, ?_⟩⟩
 ·rw [hmap]; exact h4.nd
 ·intro i o hi
  rcases hset _ hi with h | h
  ·cases h
   obtain ⟨g4, g5, g6⟩ := h4.ids _ _ (List.mem_of_getElem? hg)
   refine ⟨g4, by simpa using g5, ?_⟩
   rcases g6 with ⟨_, g7⟩ | ⟨bb, N, cells, g7, g8, g9, g10, g11⟩
   ·cases g7
   ·refine .inr ⟨bb, N, cells, g7, g8, g9, g10, ?_⟩
    intro i' e jj c he hcc
    have hi0 : i' = 0 := by
     cases i' with
     | zero => rfl
     | succ n => simp at he
    subst hi0
    simp only [List.getElem?_cons_zero, Option.some.injEq] at he
    subst he
    rw [List.getElem?_set] at hcc
    by_cases hj : c0 = jj
    ·subst hj
     rw [if_pos rfl, if_pos (Z19 hc)] at hcc
     cases hcc
     obtain ⟨x, q1, q2, q3⟩ := g11 0 e0 c0 _ rfl hc
     exact ⟨x, q1, h6 x len hl (Zem q2), q3⟩
    ·rw [if_neg hj] at hcc
     exact g11 0 e0 jj c rfl hcc
  ·exact h4.ids i o h
 ·intro i i2 o o2 x N N' hi hj2 hm1 hm2
  obtain ⟨p1, hp1⟩ := hidm i o hi
  obtain ⟨p2, hp2⟩ := hidm i2 o2 hj2
  exact h4.inj i i2 p1 p2 x N N' hp1 hp2 hm1 hm2
 ·intro t' x hx
  obtain ⟨v, h7, h8⟩ := hs.sl t' x (hT.lk t' x hx)
  exact ⟨v, h7, h8.mono h5⟩
 ·rw [hs.df]
  exact List.map_congr_left fun i hi => by simp [mark, Ctx.hpSet]
 ·intro x o hx
  simp only [Ctx.hpSet] at hx
  split at hx
  ·rename_i e
   obtain ⟨_, N, hm⟩ := h2 x e
   exact .inr (.inr ⟨id, _, N, List.mem_of_getElem? hH, hm⟩)
  ·exact .inl ⟨o, hx⟩
 ·rintro x ⟨i, o, N, hi, hm⟩
  obtain ⟨o', ho'⟩ := hidm i o hi
  exact .inl ⟨i, o', N, List.mem_of_mem_eraseIdx ho', hm⟩
 ·intro i o hi
  obtain ⟨o', ho'⟩ := hidm i o hi
  exact .inl ⟨o', List.mem_of_mem_eraseIdx ho'⟩
end
section
variable {P : Program} {T : List (Nat × AV)} {o : Oper}
theorem Z12 {t t' : TypeId} {p q : Operand} {x y : ByteArray} (ho : o.op = .binOp .add t p q t') (hp : ev T p = some (.v (.string x))) (hq : ev T q = some (.v (.string y))) (hz : x.size + y.size ≤ 9223372036854775807) : Eff P o T [] (.v (.string (x ++ y))) [] :=
 Z15 (by intro c; rw [ho]; nofun) fun C H a w hw hn hv => by
  have h2 := VR.val (hv p (by rw [ho]; simp [Op.operands]) _ hp)
  have h3 := VR.val (hv q (by rw [ho]; simp [Op.operands]) _ hq)
  refine ⟨.string (x ++ y), ?_, .v _⟩
  have hm : ¬ ((x.size + y.size : Nat) : Int) > IntKind.i64.max := by
   have : IntKind.i64.max = 9223372036854775807 := rfl
   omega
  simp [execOp, ho, h2, h3, eqGuard, binOp, Op.stringOp, Sem.run_bind, Result.andThen]
  rw [if_neg (by simpa using hm)]
end
theorem orT {a b : Bool} (h : (a || b) = true) : a = true ∨ b = true := by revert h; cases a <;> simp
theorem orF {a b : Bool} (h : (a || b) = false) : a = false ∧ b = false := by revert h; cases a <;> simp
def pull : AHeap → List Nat → Option (AHeap × AHeap)
 | H, [] => some ([], H)
 | H, k :: ks => match H[k]? with
  | some p => match pull (H.eraseIdx k) ks with
   | some (A, B) => some (p :: A, B)
   | none => none
  | none => none
theorem Z2q : ∀ (ks : List Nat) {H A B : AHeap}, pull H ks = some (A, B) → H.Perm (A ++ B)
 | [], H, A, B, h => by cases h; exact .refl _
 | k :: ks, H, A, B, h => by
  unfold pull at h
  split at h
  ·rename_i p hp
   split at h
   ·rename_i A' B' hk
    cases h
    exact (Zk hp).trans ((Z2q ks hk).cons p)
   ·cases h
  ·cases h
end Go.Sx
namespace Go.Sx
open Go Go.Proofs
theorem Ze0 (c : Int) : ACalls Tryz.prog 137 [uA c] [] (Gives (bA (letW c))) := by
 refine Zd (n := 27) Tryz.func137 rfl (by decide +kernel) rfl rfl ?_
 refine qS (qR (qA (qN (qS (qB (qS (qB (qB (qS (qS (qS (qS (qR (qM ?_))))))))))))))
 refine qe eI ?_
 refine qA (qN ?_)
 refine Z2 rfl ?_ ?_
 ·intro hc
  refine qK ?_
  refine Z2 rfl ?_ ?_
  ·intro hc
   refine qX (qS (qS (qR (qA (qN (qE ?_))))))
   exact Z0p rfl (Z7 rfl Z4) (gb (by unfold letW; simp_all))
  ·intro hd; exfalso; simp_all
 ·intro hc
  refine qR (qM ?_)
  refine qe eI ?_
  refine qA (qN ?_)
  refine Z2 rfl ?_ ?_
  ·intro hc
   refine qX (qS (qS (qR (qA (qN (qE ?_))))))
   exact Z0p rfl (Z7 rfl Z4) (gb (by unfold letW; simp_all))
  ·intro hc
   refine qK (qS (qS (qR (qM ?_))))
   refine qe eI ?_
   refine qM (qTM ?_)
   refine Zp (wT rfl rfl rfl rfl) rfl (fun hg => (Zr rfl (Ze hg rfl) rfl rfl)) ?_
   refine qe (Zs rfl rfl rfl (fun h => h)) ?_
   refine qA (qN ?_)
   refine Z2 rfl ?_ ?_
   ·intro hc
    refine qK ?_
    refine Z2 rfl ?_ ?_
    ·intro hc
     refine qX (qS (qS (qR (qA (qN (qE ?_))))))
     exact Z0p rfl (Z7 rfl Z4) (gb (by unfold letW; simp_all))
    ·intro hd; exfalso; simp_all
   ·intro hc
    refine qS (qR (qM ?_))
    refine qe eI ?_
    refine qM (qTM ?_)
    refine Zp (wT rfl rfl rfl rfl) rfl (fun hg => (Zr rfl (Ze hg rfl) rfl rfl)) ?_
    refine qe (Zs rfl rfl rfl (fun h => h)) ?_
    refine qA (qN ?_)
    refine Z2 rfl ?_ ?_
    ·intro hc
     refine qK ?_
     refine Z2 rfl ?_ ?_
     ·intro hc
      refine qX (qS (qS (qR (qA (qN (qE ?_))))))
      exact Z0p rfl (Z7 rfl Z4) (gb (by unfold letW; simp_all))
     ·intro hd; exfalso; simp_all
    ·intro hc
     refine qR (qM ?_)
     refine qe eI ?_
     refine qM (qTM ?_)
     refine Zp (wT rfl rfl rfl rfl) rfl (fun hg => (Zr rfl (Ze hg rfl) rfl rfl)) ?_
     refine qe (Zs rfl rfl rfl (fun h => h)) ?_
     refine qA (qN ?_)
     refine Z2 rfl ?_ ?_
     ·intro hc
      refine qX (qS (qS (qR (qA (qN (qE ?_))))))
      exact Z0p rfl (Z7 rfl Z4) (gb (by unfold letW; simp_all))
     ·intro hc
      refine qK (qX (qS (qR (qA (qN (qE ?_))))))
      exact Z0p rfl (Z7 rfl Z4) (gb (by unfold letW; simp_all))
theorem Z8h (c : Int) : ACalls Tryz.prog 136 [uA c] [] (Gives (bA (letW c || (c == 47)))) := by
 refine Zd (n := 9) Tryz.func136 rfl (by decide +kernel) rfl rfl ?_
 refine qS (qR (qA (qN (qS (qR (qM ?_))))))
 refine qe (Z8 [] rfl rfl rfl (Ze0 c) List.nodup_nil) ?_
 refine qM (qFM ?_)
 refine Zp (wF rfl rfl rfl rfl) rfl (fun hg => (Zr rfl (Ze hg rfl) rfl rfl)) ?_
 refine qe (Z1h rfl rfl rfl (fun h => by rw [h]; rfl)) ?_
 refine qA (qN (qE ?_))
 exact Z0p rfl (Z7 rfl Z4) (gb rfl)
theorem Zh3 (s : Str) (hs : small s.size) : ACalls Tryz.prog 135 [sA s, .fn (.func 136) []] [] (Gives (bA (clsW s))) := by
 simp only [small] at hs
 refine Zd (n := 25) Tryz.func135 rfl (by decide +kernel) rfl rfl ?_
 refine qS (qR (qA (qN (qS (qS (qR (qM ?_)))))))
 refine qe (Zx rfl rfl rfl rfl) ?_
 refine qM (qN (qB ?_))
 refine Zj (α := Nat) (fun i => ⟨[(8, iA i), (7, iA s.size), (0, sA s), (1, .fn (.func 136) [])], [], [], 25⟩) (fun i => i ≤ s.size ∧ ∀ k, k < i → (letW (byteAt s (k : Nat)) || (byteAt s (k : Nat) == 47)) = true) (fun i => s.size - i) 0 ⟨Nat.zero_le _, fun k h => by omega⟩ ?_ ?_
 ·exact Zb [] ⟨rfl, rfl, rfl, rfl, trivial⟩ rfl (by decide) rfl rfl
 rintro i hJ
 refine qS (qR ?_)
 refine qe eI ?_
 refine qN (qS ?_)
 refine Z2 rfl ?_ ?_
 ·intro hc
  have hi : i < s.size := by simpa using hc
  refine qK (qS (qB (qS (qR (qM (qA (qN (qS (qR (qM (qM (qM ?_))))))))))))
  refine qe (Z18 rfl rfl rfl (by first | omega | (simp only [List.length_map]; omega) | (simp only [List.length_map, List.length_drop]; omega)) (by first | omega | (simp only [List.length_map]; omega) | (simp only [List.length_map, List.length_drop]; omega))) ?_
  refine qe (Z8 [] rfl rfl rfl (Z8h _) List.nodup_nil) ?_
  refine qe (Z03 rfl rfl) ?_
  refine qN ?_
  refine Z2 rfl ?_ ?_
  ·intro hc
   have hq : (letW (byteAt s (i : Nat)) || (byteAt s (i : Nat) == 47)) = false := Z1u hc
   refine qS (qR (qA (qN (qE ?_))))
   exact Z0p rfl (Z7 rfl Z4) (gb (by unfold clsW; rw [Z7e hi hq]; rfl))
  ·intro hc
   have hq : (letW (byteAt s (i : Nat)) || (byteAt s (i : Nat) == 47)) = true := Z2c hc
   refine qK (qR ?_)
   refine qe (Z9 rfl rfl rfl (Zn (by first | omega | (simp only [List.length_map]; omega)))) ?_
   refine qM (qN ?_)
   refine ⟨i + 1, ⟨hi, fun k h => by rcases Nat.lt_succ_iff_lt_or_eq.1 h with h | h; exact hJ.2 k h; rw [h]; exact hq⟩, (by omega), ?_⟩
   exact qp [] ⟨rfl, rfl, rfl, rfl, trivial⟩
 ·intro hc
  have hi : ¬ i < s.size := by simpa using hc
  refine qX (qS (qR (qM ?_)))
  refine qe (Z0o rfl rfl rfl rfl) ?_
  refine qM (qTM ?_)
  refine Zp (wT rfl rfl rfl rfl) rfl (fun hg => (Zx rfl (Ze hg rfl) rfl rfl)) ?_
  refine Zp (wT rfl rfl rfl rfl) rfl (fun hg => (Zr rfl (Ze hg rfl) rfl rfl)) ?_
  refine qe (Zs rfl rfl rfl (fun h => h)) ?_
  refine qA (qN (qE ?_))
  exact Z0p rfl (Z7 rfl Z4) (gb (by unfold clsW; rw [Z5c fun k hk => hJ.2 k (by omega), Bool.true_and, show decide ((s.size : Int) ≤ 32) = decide (s.size ≤ 32) by simp only [decide_eq_decide]; omega]; rfl))
theorem Zeu (s : Str) (hs : small s.size) : ACalls Tryz.prog 112 [sA s] [] (Gives (bA (clsW s))) := by
 refine Zd (n := 5) Tryz.func112 rfl (by decide +kernel) rfl rfl ?_
 refine qS (qR (qA (qN (qS (qR (qM ?_))))))
 refine qe (Z8 [] rfl rfl rfl (Zh3 s hs) List.nodup_nil) ?_
 refine qA (qN (qE ?_))
 exact Z0p rfl (Z7 rfl Z4) (gb rfl)
theorem Z9k (t : Ty) (hs : small t.cls.size) : ACalls Tryz.prog 77 [t.av] [] (Gives (bA (rightT t))) := by
 refine Zd (n := 26) Tryz.func77 rfl (by decide +kernel) rfl rfl ?_
 refine qS (qR ?_)
 refine Zy (w0 rfl) rfl (fun id => Z09 id rfl rfl rfl rfl rfl) (fun id1 => ?_)
 refine qA (qN (qS (qS (qR ?_))))
 refine qe (Z0 rfl rfl rfl) ?_
 refine qL 0 Z3 ?_
 refine qN (qB (qS (qS (qR ?_))))
 refine qe eI ?_
 refine qA (qN ?_)
 refine Z2 rfl ?_ ?_
 ·intro hc
  refine qK ?_
  refine Z2 rfl ?_ ?_
  ·intro hc
   refine qS (qR ?_)
   refine qe (Z0 rfl rfl rfl) ?_
   refine qL 0 Z3 ?_
   refine qe (Z8 [] rfl rfl rfl (Zeu t.cls hs) List.nodup_nil) ?_
   refine qA (qN (qE ?_))
   exact Z0p rfl (Z7 rfl Z4) (gb (by unfold rightT; rw [if_pos (by simp_all)]))
  ·intro hd; exfalso; simp_all
 ·intro hc
  refine qR ?_
  refine qe eI ?_
  refine qA (qN ?_)
  refine Z2 rfl ?_ ?_
  ·intro hc
   refine qS (qR ?_)
   refine qe (Z0 rfl rfl rfl) ?_
   refine qL 0 Z3 ?_
   refine qe (Z8 [] rfl rfl rfl (Zeu t.cls hs) List.nodup_nil) ?_
   refine qA (qN (qE ?_))
   exact Z0p rfl (Z7 rfl Z4) (gb (by unfold rightT; rw [if_pos (by simp_all)]))
  ·intro hc
   refine qK (qS (qR ?_))
   refine qL 0 (Zt (Nat.le_of_ble_eq_true rfl)) ?_
   refine qe (Z0 rfl rfl rfl) ?_
   refine qL 0 Z3 ?_
   refine qe (Z0k rfl rfl rfl) ?_
   refine qe (Z2v rfl rfl rfl rfl rfl) ?_
   refine qM ?_
   refine Zp (wT rfl rfl rfl rfl) rfl (fun hg => (Z0 rfl rfl rfl)) ?_
   refine Z00 0 (wT rfl rfl rfl rfl) rfl rfl (fun hg => (Ze hg rfl)) rfl rfl Z3 ?_
   refine Zp (wT rfl rfl rfl rfl) rfl (fun hg => (Zr rfl (Ze hg rfl) rfl rfl)) ?_
   refine qe (Zs rfl rfl rfl (fun h => h)) ?_
   refine qM ?_
   refine Zp (wT rfl rfl rfl rfl) rfl (fun hg => (Z0 rfl rfl rfl)) ?_
   refine Z00 0 (wT rfl rfl rfl rfl) rfl rfl (fun hg => (Ze hg rfl)) rfl rfl Z3 ?_
   refine Zp (wT rfl rfl rfl rfl) rfl (fun hg => (Zr rfl (Ze hg rfl) rfl rfl)) ?_
   refine qe (Zs rfl rfl rfl (fun h => h)) ?_
   refine qA (qN (qE ?_))
   exact Z0p rfl (Z7 rfl Z4) (gb (by unfold rightT; rw [if_neg (by simp_all)]; show ((((t.kind == t.kind) && beqS t.cls zS) && decide (t.kind ≥ 1)) && decide (t.kind ≤ 5)) = _; rw [beq_self_eq_true, Bool.true_and]))
theorem Zff (t : Ty) : ACalls Tryz.prog 78 [t.av] [] (Gives (elemT t).av) := by
 refine Zd (n := 14) Tryz.func78 rfl (by decide +kernel) rfl rfl ?_
 refine qS (qR ?_)
 refine Zy (w0 rfl) rfl (fun id => Z09 id rfl rfl rfl rfl rfl) (fun id1 => ?_)
 refine Zy (w0 rfl) rfl (fun id => Z0b id rfl rfl rfl) (fun id2 => ?_)
 refine qN (qS (qS (qR ?_)))
 refine qe (Z0 rfl rfl rfl) ?_
 refine qL 1 Z3 ?_
 refine qN (qB (qS (qR ?_)))
 refine qe eI ?_
 refine qA (qN ?_)
 refine Z2 rfl ?_ ?_
 ·intro hc
  have q4 : t.kind = 4 := by simpa using hc
  refine qS (qR ?_)
  refine qe (Z0k rfl rfl rfl) ?_
  refine Zw 0 (w0 rfl) rfl rfl rfl rfl rfl rfl rfl rfl rfl ?_
  refine qN (qE ?_)
  exact Z0p rfl (Z1b 0 rfl rfl rfl (Zt (Nat.le_of_ble_eq_true rfl)) Z4) (gvr (by unfold elemT; rw [if_pos q4]; rfl))
 ·intro hc
  have q4 : ¬ t.kind = 4 := by simpa using hc
  refine qS (qR ?_)
  refine qe eI ?_
  refine qA (qN ?_)
  refine Z2 rfl ?_ ?_
  ·intro hc
   have q5 : t.kind = 5 := by simpa using hc
   refine qS (qR ?_)
   refine qe (Z0 rfl rfl rfl) ?_
   refine qL 1 Z3 ?_
   refine qe (Z0k rfl rfl rfl) ?_
   refine Zw 0 (w0 rfl) rfl rfl rfl rfl rfl rfl rfl rfl rfl ?_
   refine qN (qE ?_)
   exact Z0p rfl (Z1b 0 rfl rfl rfl (Zt (Nat.le_of_ble_eq_true rfl)) Z4) (gvr (by unfold elemT; rw [if_neg q4, if_pos q5]; rfl))
  ·intro hc
   have q5 : ¬ t.kind = 5 := by simpa using hc
   refine qK (qS (qR ?_))
   refine qe (Z0k rfl rfl rfl) ?_
   refine Zw 0 (w0 rfl) rfl rfl rfl rfl rfl rfl rfl rfl rfl ?_
   refine qN (qE ?_)
   exact Z0p rfl (Z1b 0 rfl rfl rfl (Zt (Nat.le_of_ble_eq_true rfl)) Z4) (gvr (by unfold elemT; rw [if_neg q4, if_neg q5]; rfl))
theorem Zfv (t : Ty) (hs : small t.cls.size) (h45 : ¬ (t.kind = 4 ∨ t.kind = 5)) : ACalls Tryz.prog 37 [t.av] [] (Gives (sA (textT t))) := by
 have hx1 := Z5a (elemT t)
 have hx2 := Z8w t
 refine Zd (n := 22) Tryz.func37 rfl (by decide +kernel) rfl rfl ?_
 refine qS (qR ?_)
 refine Zy (w0 rfl) rfl (fun id => Z09 id rfl rfl rfl rfl rfl) (fun id1 => ?_)
 refine qA (qN (qS (qS (qR ?_))))
 refine qL 0 (Zt (Nat.le_of_ble_eq_true rfl)) ?_
 refine qe (Z8 [] rfl rfl rfl (Z9k t hs) List.nodup_nil) ?_
 refine qe (Z03 rfl rfl) ?_
 refine qN ?_
 refine Z2 rfl ?_ ?_
 ·intro hc
  have hr : rightT t = false := Z1u hc
  refine qS (qR (qA (qN (qE ?_))))
  exact Z0p rfl (Z7 rfl Z4) (gs (by unfold textT; rw [hr]; rfl))
 ·intro hc
  have hr : rightT t = true := Z2c hc
  refine qK (qS (qS (qR ?_)))
  refine qe (Z0 rfl rfl rfl) ?_
  refine qL 0 Z3 ?_
  refine qN (qB (qS (qR ?_)))
  refine qe eI ?_
  refine qA (qN ?_)
  refine Z2 rfl ?_ ?_
  ·intro hc
   have q1 : t.kind = 1 := by simpa using hc
   refine qS (qR (qA (qN (qE ?_))))
   exact Z0p rfl (Z7 rfl Z4) (gs (by unfold textT text0; rw [if_pos hr, if_neg (by omega), if_pos q1]))
  ·intro hc
   have q1 : ¬ t.kind = 1 := by simpa using hc
   refine qS (qR ?_)
   refine qe eI ?_
   refine qA (qN ?_)
   refine Z2 rfl ?_ ?_
   ·intro hc
    have q2 : t.kind = 2 := by simpa using hc
    refine qS (qR (qA (qN (qE ?_))))
    exact Z0p rfl (Z7 rfl Z4) (gs (by unfold textT text0; rw [if_pos hr, if_neg (by omega), if_neg q1, if_pos q2]))
   ·intro hc
    have q2 : ¬ t.kind = 2 := by simpa using hc
    refine qS (qR ?_)
    refine qe eI ?_
    refine qA (qN ?_)
    refine Z2 rfl ?_ ?_
    ·intro hc
     have q3 : t.kind = 3 := by simpa using hc
     refine qS (qR ?_)
     refine qe (Z0 rfl rfl rfl) ?_
     refine qL 0 Z3 ?_
     refine qe (Z12 rfl rfl rfl (by have k0 : ByteArray.size ⟨#[]⟩ = 0 := rfl; have k1 : ByteArray.size ⟨#[59]⟩ = 1 := rfl; have k2 : ByteArray.size ⟨#[73]⟩ = 1 := rfl; have k3 : ByteArray.size ⟨#[76]⟩ = 1 := rfl; have k4 : ByteArray.size ⟨#[86]⟩ = 1 := rfl; have k5 : ByteArray.size ⟨#[91]⟩ = 1 := rfl; (try simp only [ByteArray.size_append, small] at *) <;> omega)) ?_
     refine qe (Z12 rfl rfl rfl (by have k0 : ByteArray.size ⟨#[]⟩ = 0 := rfl; have k1 : ByteArray.size ⟨#[59]⟩ = 1 := rfl; have k2 : ByteArray.size ⟨#[73]⟩ = 1 := rfl; have k3 : ByteArray.size ⟨#[76]⟩ = 1 := rfl; have k4 : ByteArray.size ⟨#[86]⟩ = 1 := rfl; have k5 : ByteArray.size ⟨#[91]⟩ = 1 := rfl; (try simp only [ByteArray.size_append, small] at *) <;> omega)) ?_
     refine qA (qN (qE ?_))
     exact Z0p rfl (Z7 rfl Z4) (gs (by unfold textT text0; rw [if_pos hr, if_neg (by omega), if_neg q1, if_neg q2]))
    ·intro hc
     exfalso
     have q3 : ¬ t.kind = 3 := by simpa using hc
     exact h45 (Z7a hr q1 q2 q3)
theorem Zbv (t : Ty) (hs : small t.cls.size) : ACalls Tryz.prog 37 [t.av] [] (Gives (sA (textT t))) := by
 have hx1 := Z5a (elemT t)
 have hx2 := Z8w t
 refine Zd (n := 22) Tryz.func37 rfl (by decide +kernel) rfl rfl ?_
 refine qS (qR ?_)
 refine Zy (w0 rfl) rfl (fun id => Z09 id rfl rfl rfl rfl rfl) (fun id1 => ?_)
 refine qA (qN (qS (qS (qR ?_))))
 refine qL 0 (Zt (Nat.le_of_ble_eq_true rfl)) ?_
 refine qe (Z8 [] rfl rfl rfl (Z9k t hs) List.nodup_nil) ?_
 refine qe (Z03 rfl rfl) ?_
 refine qN ?_
 refine Z2 rfl ?_ ?_
 ·intro hc
  have hr : rightT t = false := Z1u hc
  refine qS (qR (qA (qN (qE ?_))))
  exact Z0p rfl (Z7 rfl Z4) (gs (by unfold textT; rw [hr]; rfl))
 ·intro hc
  have hr : rightT t = true := Z2c hc
  refine qK (qS (qS (qR ?_)))
  refine qe (Z0 rfl rfl rfl) ?_
  refine qL 0 Z3 ?_
  refine qN (qB (qS (qR ?_)))
  refine qe eI ?_
  refine qA (qN ?_)
  refine Z2 rfl ?_ ?_
  ·intro hc
   have q1 : t.kind = 1 := by simpa using hc
   refine qS (qR (qA (qN (qE ?_))))
   exact Z0p rfl (Z7 rfl Z4) (gs (by unfold textT text0; rw [if_pos hr, if_neg (by omega), if_pos q1]))
  ·intro hc
   have q1 : ¬ t.kind = 1 := by simpa using hc
   refine qS (qR ?_)
   refine qe eI ?_
   refine qA (qN ?_)
   refine Z2 rfl ?_ ?_
   ·intro hc
    have q2 : t.kind = 2 := by simpa using hc
    refine qS (qR (qA (qN (qE ?_))))
    exact Z0p rfl (Z7 rfl Z4) (gs (by unfold textT text0; rw [if_pos hr, if_neg (by omega), if_neg q1, if_pos q2]))
   ·intro hc
    have q2 : ¬ t.kind = 2 := by simpa using hc
    refine qS (qR ?_)
    refine qe eI ?_
    refine qA (qN ?_)
    refine Z2 rfl ?_ ?_
    ·intro hc
     have q3 : t.kind = 3 := by simpa using hc
     refine qS (qR ?_)
     refine qe (Z0 rfl rfl rfl) ?_
     refine qL 0 Z3 ?_
     refine qe (Z12 rfl rfl rfl (by have k0 : ByteArray.size ⟨#[]⟩ = 0 := rfl; have k1 : ByteArray.size ⟨#[59]⟩ = 1 := rfl; have k2 : ByteArray.size ⟨#[73]⟩ = 1 := rfl; have k3 : ByteArray.size ⟨#[76]⟩ = 1 := rfl; have k4 : ByteArray.size ⟨#[86]⟩ = 1 := rfl; have k5 : ByteArray.size ⟨#[91]⟩ = 1 := rfl; (try simp only [ByteArray.size_append, small] at *) <;> omega)) ?_
     refine qe (Z12 rfl rfl rfl (by have k0 : ByteArray.size ⟨#[]⟩ = 0 := rfl; have k1 : ByteArray.size ⟨#[59]⟩ = 1 := rfl; have k2 : ByteArray.size ⟨#[73]⟩ = 1 := rfl; have k3 : ByteArray.size ⟨#[76]⟩ = 1 := rfl; have k4 : ByteArray.size ⟨#[86]⟩ = 1 := rfl; have k5 : ByteArray.size ⟨#[91]⟩ = 1 := rfl; (try simp only [ByteArray.size_append, small] at *) <;> omega)) ?_
     refine qA (qN (qE ?_))
     exact Z0p rfl (Z7 rfl Z4) (gs (by unfold textT text0; rw [if_pos hr, if_neg (by omega), if_neg q1, if_neg q2]))
    ·intro hc
     have q3 : ¬ t.kind = 3 := by simpa using hc
     refine qK (qS (qR ?_))
     refine qL 0 (Zt (Nat.le_of_ble_eq_true rfl)) ?_
     refine qe (Z8 [] rfl rfl rfl (Zff t) List.nodup_nil) ?_
     refine qe (Z8 [] rfl rfl rfl (Zfv (elemT t) (Zg1 hs) (Zf2 (Z7a hr q1 q2 q3))) List.nodup_nil) ?_
     refine qe (Z12 rfl rfl rfl (by have k0 : ByteArray.size ⟨#[]⟩ = 0 := rfl; have k1 : ByteArray.size ⟨#[59]⟩ = 1 := rfl; have k2 : ByteArray.size ⟨#[73]⟩ = 1 := rfl; have k3 : ByteArray.size ⟨#[76]⟩ = 1 := rfl; have k4 : ByteArray.size ⟨#[86]⟩ = 1 := rfl; have k5 : ByteArray.size ⟨#[91]⟩ = 1 := rfl; (try simp only [ByteArray.size_append, small] at *) <;> omega)) ?_
     refine qA (qN (qE ?_))
     exact Z0p rfl (Z7 rfl Z4) (gs (by have h45 := Z7a hr q1 q2 q3; unfold textT; rw [if_pos hr, if_pos h45, if_pos (Zau hr h45), if_neg (Zf2 h45)]))
theorem Z8k (p : Str) (hs : small p.size) : ACalls Tryz.prog 138 [sA p] [] (Gives (bA (globR p))) := by
 simp only [small] at hs
 refine Zd (n := 27) Tryz.func138 rfl (by decide +kernel) rfl rfl ?_
 refine qS (qR (qA (qN (qS (qS (qR (qM ?_)))))))
 refine qe (Zx rfl rfl rfl rfl) ?_
 refine qM (qN (qB ?_))
 refine Zj (α := Nat) (fun i => ⟨[(6, iA i), (5, iA p.size), (0, sA p)], [], [], 27⟩) (fun i => i ≤ p.size ∧ ∀ k, k < i → seenG p k = true) (fun i => p.size - i) 0 ⟨Nat.zero_le _, fun k h => by omega⟩ ?_ ?_
 ·exact Zb [] ⟨rfl, rfl, rfl, trivial⟩ rfl (by decide) rfl rfl
 rintro i hJ
 refine qS (qR ?_)
 refine qe eI ?_
 refine qN (qS ?_)
 refine Z2 rfl ?_ ?_
 ·intro hc
  have hi : i < p.size := by simpa using hc
  refine qK (qS (qB (qS (qR (qM (qA (qN (qS (qR (qM (qM ?_)))))))))))
  refine qe (Z18 rfl rfl rfl (by first | omega | (simp only [List.length_map]; omega) | (simp only [List.length_map, List.length_drop]; omega)) (by first | omega | (simp only [List.length_map]; omega) | (simp only [List.length_map, List.length_drop]; omega))) ?_
  refine qe eI ?_
  refine qM (qFM (qFM ?_))
  refine Zp (wF rfl rfl rfl rfl) rfl (fun hg => (Z18 rfl (Ze hg rfl) (Ze hg rfl) (by (try simp at hg) <;> first | omega | (simp only [List.length_map]; omega) | (simp only [List.length_map, List.length_drop]; omega)) (by (try simp at hg) <;> first | omega | (simp only [List.length_map]; omega) | (simp only [List.length_map, List.length_drop]; omega)))) ?_
  refine Zp (wF rfl rfl rfl rfl) rfl (fun hg => (Zr rfl (Ze hg rfl) rfl rfl)) ?_
  refine qe (Z1h rfl rfl rfl (fun h => by rw [h]; rfl)) ?_
  refine qN ?_
  refine Z2 rfl ?_ ?_
  ·intro hc
   have hq : seenG p i = false := by unfold seenG; rcases orT hc with h | h; simp at h; simp; omega; simp at h; simp; omega
   refine qS (qR (qA (qN (qE ?_))))
   exact Z0p rfl (Z7 rfl Z4) (gb (by unfold globR; rw [Z7e hi hq]; rfl))
  ·intro hc
   have hq : seenG p i = true := by unfold seenG; have h := orF hc; simp at h; simp; omega
   refine qK (qR ?_)
   refine qe (Z9 rfl rfl rfl (Zn (by first | omega | (simp only [List.length_map]; omega)))) ?_
   refine qM (qN ?_)
   refine ⟨i + 1, ⟨hi, fun k h => by rcases Nat.lt_succ_iff_lt_or_eq.1 h with h | h; exact hJ.2 k h; rw [h]; exact hq⟩, (by omega), ?_⟩
   exact qp [] ⟨rfl, rfl, rfl, trivial⟩
 ·intro hc
  have hi : ¬ i < p.size := by simpa using hc
  refine qX (qS (qR (qM ?_)))
  refine qe (Z0o rfl rfl rfl rfl) ?_
  refine qM (qTM ?_)
  refine Zp (wT rfl rfl rfl rfl) rfl (fun hg => (Zx rfl (Ze hg rfl) rfl rfl)) ?_
  refine Zp (wT rfl rfl rfl rfl) rfl (fun hg => (Zr rfl (Ze hg rfl) rfl rfl)) ?_
  refine qe (Zs rfl rfl rfl (fun h => h)) ?_
  refine qA (qN (qE ?_))
  exact Z0p rfl (Z7 rfl Z4) (gb (by unfold globR; rw [Z5c fun k hk => hJ.2 k (by omega), Bool.true_and, show decide ((p.size : Int) ≤ 64) = decide (p.size ≤ 64) by simp only [decide_eq_decide]; omega]; rfl))
theorem Z6v (p s : Str) (hp : small p.size) (hs : s.size ≤ 200000000000000) : ACalls Tryz.prog 119 [sA p, sA s] [] (Gives (bA (globM p s))) := by
 simp only [small] at hp
 refine Zd (n := 76) Tryz.func119 rfl (by decide +kernel) rfl rfl ?_
 refine qS (qR (qA (qN (qS (qR (qA (qA (qA (qN (qS (qS (qR (qA (qN ?_))))))))))))))
 refine qB ?_
 refine Zj (α := GSt) (fun x => ⟨[(5, iA x.i), (6, iA ((x.t : Int) - 1)), (7, iA x.b), (8, iA x.k), (0, sA p), (1, sA s)], [], [], 76⟩) (fun x => GJ p s x) (fun x => gmu p s x) ⟨0, 0, 0, 0⟩ (GJ.start p s) ?_ ?_
 ·exact Zb [] ⟨rfl, rfl, rfl, rfl, rfl, rfl, trivial⟩ rfl (by decide) rfl rfl
 rintro x hJ
 have o1 := hJ.ok.i
 have o2 := hJ.ok.t
 have o3 := hJ.ok.b
 have o4 := hJ.ok.k
 refine qS (qS (qR (qM (qM ?_))))
 refine qe (Zx rfl rfl rfl rfl) ?_
 refine qe eI ?_
 refine qN ?_
 refine Z2 rfl ?_ ?_
 ·intro hc
  have hk : x.k < s.size := by simpa using hc
  refine qK (qB (qB (qS (qR (qM (qM ?_))))))
  refine qe (Zx rfl rfl rfl rfl) ?_
  refine qe eI ?_
  refine qM (qTM (qTM ?_))
  refine Zp (wT rfl rfl rfl rfl) rfl (fun hg => (Z18 rfl (Ze hg rfl) (Ze hg rfl) (by (try simp at hg) <;> first | omega | (simp only [List.length_map]; omega) | (simp only [List.length_map, List.length_drop]; omega)) (by (try simp at hg) <;> first | omega | (simp only [List.length_map]; omega) | (simp only [List.length_map, List.length_drop]; omega)))) ?_
  refine Zp (wT rfl rfl rfl rfl) rfl (fun hg => (Zr rfl (Ze hg rfl) rfl rfl)) ?_
  refine qe (Zs rfl rfl rfl (fun h => h)) ?_
  refine qA (qN ?_)
  refine Z2 rfl ?_ ?_
  ·intro hc
   have h0 : x.i < p.size ∧ byteAt p x.i = 42 := ⟨by have := Z27 hc; simpa using this, by have := Z28 hc; simpa using this⟩
   refine qS (qR (qM (qM (qA (qA (qN (qR (qM ?_))))))))
   refine qe (Z9 rfl rfl rfl (Zn (by first | omega | (simp only [List.length_map]; omega)))) ?_
   refine qA (qN ?_)
   refine ⟨⟨x.i + 1, x.i + 1, x.k, x.k⟩, (hJ.star hk h0.1 h0.2), (Z73 hJ.ok hk h0.1), ?_⟩
   exact qp [] ⟨rfl, (congrArg (fun n => some (iA n)) (by (try simp only) <;> omega)), rfl, rfl, rfl, rfl, trivial⟩
  ·intro hc
   have h0 : ¬ (x.i < p.size ∧ byteAt p x.i = 42) := fun h => by simp [h.1, h.2] at hc
   refine qS ?_
   refine Zz [0, 0, 2, 7, 15, 31, 31, 127, 255, 511, 1023, 1023, 4095, 1023, 1023, 25599, 65535, 131071, 262143, 524287] 20 rfl (by kernel_rfl) ?_
   refine cM2 (cM2 ?_)
   refine ce (Zx rfl rfl rfl rfl) ?_
   refine ce eI ?_
   refine cM2 (cTM (cTM ?_))
   refine Zc (wT rfl rfl rfl rfl) rfl (fun hg => (Z18 rfl (Ze hg rfl) (Ze hg rfl) (by (try simp at hg) <;> first | omega | (simp only [List.length_map]; omega) | (simp only [List.length_map, List.length_drop]; omega)) (by (try simp at hg) <;> first | omega | (simp only [List.length_map]; omega) | (simp only [List.length_map, List.length_drop]; omega)))) ?_
   refine Zc (wT rfl rfl rfl rfl) rfl (fun hg => (Zr rfl (Ze hg rfl) rfl rfl)) ?_
   refine Zc (wT rfl rfl rfl rfl) rfl (fun hg => (Z06 rfl (Ze hg rfl))) ?_
   refine Zc (wFg rfl rfl rfl rfl) rfl (fun hg => (Z06 rfl rfl)) ?_
   refine Zc (wFg rfl rfl rfl rfl) rfl (fun hg => (Z06 rfl rfl)) ?_
   refine Zc (wFg rfl rfl rfl rfl) rfl (fun hg => (Z18 rfl (Ze hg rfl) (Ze hg rfl) (by (try simp at hg) <;> first | omega | (simp only [List.length_map]; omega) | (simp only [List.length_map, List.length_drop]; omega)) (by (try simp at hg) <;> first | omega | (simp only [List.length_map]; omega) | (simp only [List.length_map, List.length_drop]; omega)))) ?_
   refine Zc (wFg rfl rfl rfl rfl) rfl (fun hg => (Z06 rfl rfl)) ?_
   refine Zc (wFg rfl rfl rfl rfl) rfl (fun hg => (Z06 rfl rfl)) ?_
   refine Zc (wFg rfl rfl rfl rfl) rfl (fun hg => (Z18 rfl (Ze hg rfl) (Ze hg rfl) (by (try simp at hg) <;> first | omega | (simp only [List.length_map]; omega) | (simp only [List.length_map, List.length_drop]; omega)) (by (try simp at hg) <;> first | omega | (simp only [List.length_map]; omega) | (simp only [List.length_map, List.length_drop]; omega)))) ?_
   refine Zc (wFg rfl rfl rfl rfl) rfl (fun hg => (Zr rfl (Ze hg rfl) (Ze hg rfl) rfl)) ?_
   refine Zc (wT rfl rfl rfl rfl) rfl (fun hg => (Z1h rfl (Ze hg rfl) rfl (fun h => by first | (simp [h, hg]; done) | (rw [hg, h]; rfl) | (simp_all; done)))) ?_
   refine ce (Zs rfl rfl rfl (fun h => h)) ?_
   refine ce (Z0y rfl rfl) ?_
   refine .done (qN ?_)
   refine Z2 rfl ?_ ?_
   ·intro hc
    have hb : x.i < p.size ∧ (byteAt p x.i = 63 ∨ byteAt p x.i = byteAt s x.k) := ⟨by have := Z27 hc; simpa using this, by have := Z28 hc; simpa using this⟩
    refine qS (qR (qM ?_))
    refine qe (Z9 rfl rfl rfl (Zn (by first | omega | (simp only [List.length_map]; omega)))) ?_
    refine qA (qN (qR (qM ?_)))
    refine qe (Z9 rfl rfl rfl (Zn (by first | omega | (simp only [List.length_map]; omega)))) ?_
    refine qA (qN ?_)
    refine ⟨⟨x.i + 1, x.t, x.b, x.k + 1⟩, (hJ.byte hk hb.1 (fun h => h0 ⟨hb.1, h⟩) hb.2), (Z72 hJ.ok hk hb.1), ?_⟩
    exact qp [] ⟨rfl, rfl, rfl, rfl, rfl, rfl, trivial⟩
   ·intro hc
    have hb : ¬ (x.i < p.size ∧ (byteAt p x.i = 63 ∨ byteAt p x.i = byteAt s x.k)) := fun h => by rcases h.2 with h2 | h2 <;> simp [h.1, h2] at hc
    refine qS (qR (qM ?_))
    refine qe eI ?_
    refine qA (qN ?_)
    refine Z2 rfl ?_ ?_
    ·intro hc
     have ht : 0 < x.t := by simp at hc; omega
     refine qS (qR (qM ?_))
     refine qe (Z9 rfl rfl rfl (Zn (by first | omega | (simp only [List.length_map]; omega)))) ?_
     refine qA (qN (qR (qM ?_)))
     refine qe (Z9 rfl rfl rfl (Zn (by first | omega | (simp only [List.length_map]; omega)))) ?_
     refine qM (qA (qA (qN ?_)))
     refine ⟨⟨x.t, x.t, x.b + 1, x.b + 1⟩, (hJ.back hk h0 hb ht), (Z71 hJ.ok hk), ?_⟩
     exact qp [] ⟨(congrArg (fun n => some (iA n)) (by (try simp only) <;> omega)), rfl, rfl, rfl, rfl, rfl, trivial⟩
    ·intro hc
     have ht : ¬ 0 < x.t := by simp at hc; omega
     refine qS (qR (qA (qN (qE ?_))))
     exact Z0p rfl (Z7 rfl Z4) (gb (hJ.no hk h0 hb ht).symm)
 ·intro hc
  have hk : ¬ x.k < s.size := by simpa using hc
  refine qX (qS (qB ?_))
  refine Zj (α := Nat) (fun i => ⟨[(5, iA i), (0, sA p)], [], [], 76⟩) (fun i => i ≤ p.size ∧ allStar p i = globM p s) (fun i => p.size - i) x.i ⟨o1, (hJ.fin hk).symm⟩ ?_ ?_
  ·exact Zb [] ⟨rfl, rfl, trivial⟩ rfl (by decide) rfl rfl
  rintro i hJ2
  refine qS (qS (qR (qM (qM ?_))))
  refine qe (Zx rfl rfl rfl rfl) ?_
  refine qe eI ?_
  refine qM (qTM (qTM ?_))
  refine Zp (wT rfl rfl rfl rfl) rfl (fun hg => (Z18 rfl (Ze hg rfl) (Ze hg rfl) (by (try simp at hg) <;> first | omega | (simp only [List.length_map]; omega) | (simp only [List.length_map, List.length_drop]; omega)) (by (try simp at hg) <;> first | omega | (simp only [List.length_map]; omega) | (simp only [List.length_map, List.length_drop]; omega)))) ?_
  refine Zp (wT rfl rfl rfl rfl) rfl (fun hg => (Zr rfl (Ze hg rfl) rfl rfl)) ?_
  refine qe (Zs rfl rfl rfl (fun h => h)) ?_
  refine qN ?_
  refine Z2 rfl ?_ ?_
  ·intro hc
   have h2 : i < p.size ∧ byteAt p i = 42 := ⟨by have := Z27 hc; simpa using this, by have := Z28 hc; simpa using this⟩
   refine qK (qB (qR (qM ?_)))
   refine qe (Z9 rfl rfl rfl (Zn (by first | omega | (simp only [List.length_map]; omega)))) ?_
   refine qA (qN ?_)
   refine ⟨i + 1, ⟨h2.1, by rw [Z7d h2.1 h2.2]; exact hJ2.2⟩, (by omega), ?_⟩
   exact qp [] ⟨rfl, rfl, trivial⟩
  ·intro hc
   have h2 : ¬ (i < p.size ∧ byteAt p i = 42) := fun h => by simp [h.1, h.2] at hc
   refine qX (qS (qR (qM (qM ?_))))
   refine qe (Zx rfl rfl rfl rfl) ?_
   refine qe eI ?_
   refine qA (qN (qE ?_))
   exact Z0p rfl (Z7 rfl Z4) (gb (by rw [← hJ2.2]; by_cases hi : i < p.size; rw [Za8 hi (fun h => h2 ⟨hi, h⟩)]; simp; omega; rw [Z8e hi]; simp; omega))
theorem Zbq (r : Rule) (hr : r.ok) : ACalls Tryz.prog 118 [r.av] [] (Gives (bA (ruleR r))) := by
 refine Zd (n := 25) Tryz.func118 rfl (by decide +kernel) rfl rfl ?_
 refine qS (qR ?_)
 refine Zy (w0 rfl) rfl (fun id => Z09 id rfl rfl rfl rfl rfl) (fun id1 => ?_)
 refine qA (qN (qS (qS (qR ?_))))
 refine qe (Z0 rfl rfl rfl) ?_
 refine qL 0 Z3 ?_
 refine qe (Z8 [] rfl rfl rfl (Z8k r.cls hr.cls) List.nodup_nil) ?_
 refine qe (Z03 rfl rfl) ?_
 refine qN ?_
 refine Z2 rfl ?_ ?_
 ·intro hc
  have h1 : globR r.cls = false := Z1u hc
  refine qS (qR (qA (qN (qE ?_))))
  exact Z0p rfl (Z7 rfl Z4) (gb (by unfold ruleR; rw [h1]; rfl))
 ·intro hc
  have h1 : globR r.cls = true := Z2c hc
  refine qK (qS (qS (qR ?_)))
  refine qe (Z0 rfl rfl rfl) ?_
  refine qL 0 Z3 ?_
  refine qe (Z03 rfl rfl) ?_
  refine qN ?_
  refine Z2 rfl ?_ ?_
  ·intro hc
   have h2 : r.member = false := Z1u hc
   refine qS (qR ?_)
   refine qL 0 (Zt (Nat.le_of_ble_eq_true rfl)) ?_
   refine qe (Z0 rfl rfl rfl) ?_
   refine qL 0 Z3 ?_
   refine qe (Z0 rfl rfl rfl) ?_
   refine qL 0 Z3 ?_
   refine qe (Z0k rfl rfl rfl) ?_
   refine qe (Z2v rfl rfl rfl rfl rfl) ?_
   refine qA (qN (qE ?_))
   exact Z0p rfl (Z7 rfl Z4) (gb (by unfold ruleR; rw [h1, h2, if_neg (by simp), Bool.true_and]; show ((r.names == r.names) && ((r.member == false) && (beqS r.cls r.cls && (beqS r.name zS && beqS r.desc zS)))) = _; rw [h2, Z5f]; simp))
  ·intro hc
   have h2 : r.member = true := Z2c hc
   refine qK (qS (qR ?_))
   refine qe (Z0 rfl rfl rfl) ?_
   refine qL 0 Z3 ?_
   refine qe (Z8 [] rfl rfl rfl (Z8k r.name hr.name) List.nodup_nil) ?_
   refine qM ?_
   refine Zp (wT rfl rfl rfl rfl) rfl (fun hg => (Z0 rfl rfl rfl)) ?_
   refine Z00 0 (wT rfl rfl rfl rfl) rfl rfl (fun hg => (Ze hg rfl)) rfl rfl Z3 ?_
   refine Zp (wT rfl rfl rfl rfl) rfl (fun hg => (Z8 [] rfl rfl (Zg (Ze hg rfl) Z05) (Z8k r.desc hr.desc) List.nodup_nil)) ?_
   refine qe (Zs rfl rfl rfl (fun h => h)) ?_
   refine qA (qN (qE ?_))
   exact Z0p rfl (Z7 rfl Z4) (gb (by unfold ruleR; rw [h1, h2, if_pos rfl, Bool.true_and]))
theorem Zgf (r : Rule) (hr : r.ok) (c : Str) (hc0 : small c.size) : ACalls Tryz.prog 89 [r.av, sA c] [] (Gives (bA (clsR r c))) := by
 refine Zd (n := 18) Tryz.func89 rfl (by decide +kernel) rfl rfl ?_
 refine qS (qR ?_)
 refine Zy (w0 rfl) rfl (fun id => Z09 id rfl rfl rfl rfl rfl) (fun id1 => ?_)
 refine qA (qN (qS (qR ?_)))
 refine qe (Z0 rfl rfl rfl) ?_
 refine qL 0 Z3 ?_
 refine qe (Z03 rfl rfl) ?_
 refine qM ?_
 refine Z00 0 (wT rfl rfl rfl rfl) rfl rfl (fun hg => rfl) rfl rfl (Zt (Nat.le_of_ble_eq_true rfl)) ?_
 refine Zp (wT rfl rfl rfl rfl) rfl (fun hg => (Z8 [] rfl rfl (Zg (Ze hg rfl) Z05) (Zbq r hr) List.nodup_nil)) ?_
 refine qe (Zs rfl rfl rfl (fun h => h)) ?_
 refine qM ?_
 refine Zp (wT rfl rfl rfl rfl) rfl (fun hg => (Z0 rfl rfl rfl)) ?_
 refine Z00 0 (wT rfl rfl rfl rfl) rfl rfl (fun hg => (Ze hg rfl)) rfl rfl Z3 ?_
 refine qTM ?_
 refine Zp (wT rfl rfl rfl rfl) rfl (fun hg => (Z8 [] rfl rfl (Zg (Ze hg rfl) (Zg (Ze hg rfl) Z05)) (Z6v r.cls c hr.cls (by unfold small at hc0; omega)) List.nodup_nil)) ?_
 refine qe (Zs rfl rfl rfl (fun h => h)) ?_
 refine qA (qN (qE ?_))
 exact Z0p rfl (Z7 rfl Z4) (gb rfl)
theorem Zew (r : Rule) (hr : r.ok) (c n d : Str) (hc0 : small c.size) (hn : small n.size) (hd : d.size ≤ 200000000000000) : ACalls Tryz.prog 121 [r.av, sA c, sA n, sA d] [] (Gives (bA (memR r c n d))) := by
 refine Zd (n := 37) Tryz.func121 rfl (by decide +kernel) rfl rfl ?_
 refine qS (qR ?_)
 refine Zy (w0 rfl) rfl (fun id => Z09 id rfl rfl rfl rfl rfl) (fun id1 => ?_)
 refine qA (qN (qS (qS (qR ?_))))
 refine qe (Z0 rfl rfl rfl) ?_
 refine qL 0 Z3 ?_
 refine qe (Z03 rfl rfl) ?_
 refine qM ?_
 refine Z00 0 (wF rfl rfl rfl rfl) rfl rfl (fun hg => rfl) rfl rfl (Zt (Nat.le_of_ble_eq_true rfl)) ?_
 refine Zp (wF rfl rfl rfl rfl) rfl (fun hg => (Z8 [] rfl rfl (Zg (Ze hg rfl) Z05) (Zbq r hr) List.nodup_nil)) ?_
 refine Zp (wF rfl rfl rfl rfl) rfl (fun hg => (Z03 rfl (Ze hg rfl))) ?_
 refine qe (Z1h rfl rfl rfl (fun h => by rw [h]; rfl)) ?_
 refine qM (qFM ?_)
 refine Zp (wF rfl rfl rfl rfl) rfl (fun hg => (Z0o rfl (Ze hg rfl) rfl rfl)) ?_
 refine qe (Z1h rfl rfl rfl (fun h => by rw [h]; rfl)) ?_
 refine qN ?_
 refine Z2 rfl ?_ ?_
 ·intro hc
  have h1 : ((r.member && ruleR r) && !beqS n nInit') = false := by have h : ((!r.member || !ruleR r) || beqS n nInit') = true := hc; revert h; cases r.member <;> cases ruleR r <;> cases beqS n nInit' <;> simp
  refine qS (qR (qA (qN (qE ?_))))
  exact Z0p rfl (Z7 rfl Z4) (gb (by unfold memR; rw [h1]; rfl))
 ·intro hc
  have h1 : ((r.member && ruleR r) && !beqS n nInit') = true := by have h : ((!r.member || !ruleR r) || beqS n nInit') = false := hc; revert h; cases r.member <;> cases ruleR r <;> cases beqS n nInit' <;> simp
  refine qK (qS (qR ?_))
  refine qe (Z0 rfl rfl rfl) ?_
  refine qL 0 Z3 ?_
  refine qM ?_
  refine qe (Z8 [] rfl rfl rfl (Z6v r.cls c hr.cls (by unfold small at hc0; omega)) List.nodup_nil) ?_
  refine qM ?_
  refine Zp (wT rfl rfl rfl rfl) rfl (fun hg => (Z0 rfl rfl rfl)) ?_
  refine Z00 0 (wT rfl rfl rfl rfl) rfl rfl (fun hg => (Ze hg rfl)) rfl rfl Z3 ?_
  refine qTM ?_
  refine Zp (wT rfl rfl rfl rfl) rfl (fun hg => (Z8 [] rfl rfl (Zg (Ze hg rfl) (Zg (Ze hg rfl) Z05)) (Z6v r.name n hr.name (by unfold small at hn; omega)) List.nodup_nil)) ?_
  refine qe (Zs rfl rfl rfl (fun h => h)) ?_
  refine qM ?_
  refine Zp (wT rfl rfl rfl rfl) rfl (fun hg => (Z0 rfl rfl rfl)) ?_
  refine Z00 0 (wT rfl rfl rfl rfl) rfl rfl (fun hg => (Ze hg rfl)) rfl rfl Z3 ?_
  refine qTM ?_
  refine Zp (wT rfl rfl rfl rfl) rfl (fun hg => (Z8 [] rfl rfl (Zg (Ze hg rfl) (Zg (Ze hg rfl) Z05)) (Z6v r.desc d hr.desc hd) List.nodup_nil)) ?_
  refine qe (Zs rfl rfl rfl (fun h => h)) ?_
  refine qA (qN (qE ?_))
  exact Z0p rfl (Z7 rfl Z4) (gb (by unfold memR; rw [h1, Bool.true_and]))
theorem Zdp (c : Str) (b : Bool) : ACalls Tryz.prog 33 [sA c, bA b] [] (Gives (Rule.av ⟨b, false, c, zS, zS⟩)) := by
 refine Zd (n := 8) Tryz.func33 rfl (by decide +kernel) rfl rfl ?_
 refine qS (qR ?_)
 refine Zy (w0 rfl) rfl (fun id => Z0b id rfl rfl rfl) (fun id1 => ?_)
 refine qN (qS (qR (qM (qM ?_))))
 refine qe (Z0k rfl rfl rfl) ?_
 refine Zw 0 (w0 rfl) rfl rfl rfl rfl rfl rfl rfl rfl rfl ?_
 refine qN (qE ?_)
 exact Z0p rfl (Z1b 0 rfl rfl rfl (Zt (Nat.le_of_ble_eq_true rfl)) Z4) (gvr rfl)
theorem Z9f (c n d : Str) (b : Bool) : ACalls Tryz.prog 36 [sA c, sA n, sA d, bA b] [] (Gives (Rule.av ⟨b, true, c, n, d⟩)) := by
 refine Zd (n := 14) Tryz.func36 rfl (by decide +kernel) rfl rfl ?_
 refine qS (qR ?_)
 refine Zy (w0 rfl) rfl (fun id => Z0b id rfl rfl rfl) (fun id1 => ?_)
 refine qN (qS (qR (qM (qM (qM (qM ?_))))))
 refine qe (Z0k rfl rfl rfl) ?_
 refine Zw 0 (w0 rfl) rfl rfl rfl rfl rfl rfl rfl rfl rfl ?_
 refine qN (qE ?_)
 exact Z0p rfl (Z1b 0 rfl rfl rfl (Zt (Nat.le_of_ble_eq_true rfl)) Z4) (gvr rfl)
end Go.Sx
namespace Go.Sx
open Go
variable {P : Program} {ro : Option Nat} {Q : Exit → St → Prop} {s : St} {ops : Array Oper} {o : Oper} {rest : List Oper} {T : List (Nat × AV)}
theorem Z6i {t e : TypeId} {p : Operand} [h : UD P t (.slice e)] (ho : o.op = .call { callee := .builtin .cap, args := #[p], argTypes := #[t] }) (hp : ev T p = some (.v (.slice none 0 0))) : Eff P o T [] (.v (.int .i64 0)) [] :=
 Z15 (by intro c; rw [ho]; nofun) fun C H a w hw hn hv => by
  have h2 := VR.val (hv p (by rw [ho]; simp [Op.operands, Call.operands]) _ hp)
  refine ⟨_, ?_, .v _⟩
  simp [execOp, ho, resolve, invoke, builtin, Builtin.cap_, h2, run_underlying (d := .slice e), goInt, Sem.run_bind, Result.andThen]
theorem Z7t {t e n : Nat} {b : Bool} {p q : Operand} {kd : IntKind} [h : UD P t (.slice e)] [k1 : TK P e b n] (ho : o.op = .slice t p none (some q) none)
  (hp : ev T p = some (.v (.slice none 0 0))) (hq : ev T q = some (.v (.int kd 0))) : Eff P o T [] (.v (.slice none 0 0)) [] :=
 Z15 (by intro c; rw [ho]; nofun) fun C H a w hw hn hv => by
  have h2 := VR.val (hv p (by rw [ho]; simp [Op.operands]) _ hp)
  have h3 := VR.val (hv q (by rw [ho]; simp [Op.operands]) _ hq)
  refine ⟨_, ?_, .v _⟩
  have hb : ∀ code, (Instr.sliceBound (.int kd 0) 0 code).run P w = .ok 0 w := fun code => Z4j rfl (by omega) (by omega) w
  simp [execOp, ho, h2, h3, Instr.sliceAt, Instr.slice, Instr.sliceBounds, run_underlying (d := .slice e), Z1n k1.tk, hb, Sem.run_bind, Result.andThen, Sem.run_pure]
theorem Z7c (zs : Array Value) (n j : Nat) (h : j < n * zs.size) : (Builtin.zeroCells zs n)[j]? = zs[j % zs.size]? := by
 unfold Builtin.zeroCells
 have hpos : 0 < zs.size := by rcases Nat.eq_zero_or_pos zs.size with h0 | h0; (rw [h0] at h; simp at h); exact h0
 have hm : j % zs.size < zs.size := Nat.mod_lt _ hpos
 simp [h, getElem!_pos, hm]
theorem Z7f {t ti e bytes n : Nat} {p q : Operand} {zv : Value} {kd : IntKind} [hu : UD P t (.slice e)] [hi' : UD P ti (.int kd)] [ha : AP P e 1 bytes] [hz' : ZC P e [zv]] (hw : Wanted ops s.T o true) (hd : dok o.dst s.n = true)
  (ho : o.op = .call { callee := .builtin .append, args := #[p, q], argTypes := #[t, ti] }) (hp : ev s.T p = some (.v (.slice none 0 0))) (hq : ev s.T q = some (.v (.int .i64 n))) (h0 : 0 < n)
  (hml : n * bytes ≤ 140737488355328) (hm : n ≤ maxLen) (hone : one (.v zv) = true)
  (h : ∀ id, AOps P ro ops rest Q { s with T := put s.T o.dst (.own id 1 0 n), H := (id, .rows e 1 (List.replicate n [.v zv])) :: s.H }) : AOps P ro ops (o :: rest) Q s := by
 refine Z1s hw ?_
 intro Z C0 H0 w0 C a w hx0 hs
 obtain ⟨i, z, hi, hz, hsz, hby, hzs, hpos⟩ := AP.open ha.ap
 have hpv := VR.val (hs.ev hp)
 have hqv := VR.val (hs.ev hq)
 have hz2 : z.cells = #[zv] := by
  have := hz'.zc
  unfold Program.zc at this
  rw [hi] at this
  simp only [hz, Option.map_some, Option.some.injEq] at this
  apply Array.ext'
  rw [this]
 have hm' : n ≤ 9223372036854775807 := hm
 have hw2 : IntKind.i64.wrap (n : Int) = n := Z1r (by omega)
 have hn0 : ((n : Int)).toNat = n := by omega
 have h00 : ¬ ((n : Int) < 0) := by omega
 have hne : n ≠ 0 := by omega
 have h63' : ¬ (9223372036854775807 < (n : Int)) := by omega
 have hb1 : ¬ (281474976710656 < (n : Int) * bytes) := by
  have : ((n * bytes : Nat) : Int) ≤ 140737488355328 := Int.ofNat_le.2 hml
  rw [Int.natCast_mul] at this; omega
 have h48' : ¬ (281474976710656 < Builtin.nextslicecap n 0 * bytes) := by rw [nextslicecap_zero h0]; omega
 have hcap := grownCap_ge w n 0 e
 have hcapm := grownCap_le_maxLen w n 0 e hm
 have hrun : (Builtin.append_ #[t, ti] o.type #[.slice none 0 0, .int .i64 n]).run P w =
   .ok (.slice (some ⟨w.heap.size, 0, none⟩) n (grownCap w n 0 e)) (w.drew.alloc (.cells (Builtin.zeroCells z.cells n ++ Builtin.zeroCells z.cells (grownCap w n 0 e - n)) e)) := by
  simp [Builtin.append_, Go.run_underlying hu.ud, Go.run_underlying hi'.ud, sizeOf, typeInfo, zeroValue, asInt, asIntOf, hi, hz, hsz, hby, hw2, hn0, h00, hb1, hne, h63', h48', Question.forced, run_firstCells_none, newRow, grownCap]
 obtain ⟨id, hid⟩ := Z7w (C.U ++ Z)
 rw [List.mem_append, not_or] at hid
 have e0 : (Builtin.zeroCells z.cells n ++ Builtin.zeroCells z.cells (grownCap w n 0 e - n)) = ([] ++ (Builtin.zeroCells z.cells n).toList ++ (Builtin.zeroCells z.cells (grownCap w n 0 e - n)).toList).toArray := by simp
 have hzl : (Builtin.zeroCells z.cells n).toList.length = n := by rw [Array.length_toList, size_zeroCells, hzs, Nat.mul_one]
 have hN : ([] ++ (Builtin.zeroCells z.cells n).toList ++ (Builtin.zeroCells z.cells (grownCap w n 0 e - n)).toList).length = grownCap w n 0 e := by
  rw [List.nil_append, List.length_append, hzl, Array.length_toList, size_zeroCells, hzs]; omega
 have hget : ∀ j, j < n → (Builtin.zeroCells z.cells n).toList[j]? = some zv := by
  intro j hj
  rw [Array.getElem?_toList, Z7c _ _ _ (by rw [hzs]; omega), hz2]
  simp [Nat.mod_one]
 obtain ⟨hw1, he1⟩ := Z81 (Z := Z) (N := grownCap w n 0 e) (id := id) (o := .cells (Builtin.zeroCells z.cells n ++ Builtin.zeroCells z.cells (grownCap w n 0 e - n)) e) (ob := .rows e 1 ([] ++ List.replicate n [.v zv]))
  (w := w.drew) (C := C) (H := s.H) ⟨hs.wr.hp, hs.wr.nd, fun i o hi => ⟨(hs.wr.ids i o hi).1, (hs.wr.ids i o hi).2.keep (.refl C) (hs.wr.ids i o hi).1 (fun _ _ _ => rfl)⟩, hs.wr.inj, hs.wr.dis⟩ hid.1 hid.2
  (Zf5 (w := w.drew) (olds := []) (news := (Builtin.zeroCells z.cells n).toList) (Ctx.bind_m ..) (by rw [← e0]; exact heap_alloc_new _ _) hN nofun (by intro e he; rw [List.eq_of_mem_replicate he]; rfl) (by simp) (by rw [hzl]; simp) (by intro i e j cc h; simp at h)
   (fun i e' j cc h1 h2 => by
    have hlt := Z19 h1
    rw [List.length_replicate] at hlt
    have hl2 : e' = [.v zv] := List.eq_of_mem_replicate (List.mem_of_getElem? h1)
    subst hl2
    have hj := Z19 h2
    simp only [List.length_singleton] at hj
    have : j = 0 := by omega
    subst this
    simp at h2; subst h2
    exact ⟨zv, by rw [Nat.mul_one, Nat.add_zero]; exact hget i hlt, .v zv⟩) nofun (by
    intro u hu
    obtain ⟨j, hj⟩ := List.mem_iff_getElem?.1 hu
    have hlt := Z19 hj
    rw [hzl] at hlt
    rw [hget j hlt] at hj
    cases hj
    exact Z59 (C := C) (.v zv) hone))
 rw [List.nil_append] at hw1 he1
 have hr : (o.semAt ro a.eval).run P w = .ok (.value (.slice (some ⟨w.heap.size, 0, none⟩) n (grownCap w n 0 e))) (w.drew.alloc (.cells (Builtin.zeroCells z.cells n ++ Builtin.zeroCells z.cells (grownCap w n 0 e - n)) e)) := by
  rw [Oper.semAt_eq _ _ _ (by intro c; rw [ho]; nofun)]
  simp [execOp, ho, resolve, invoke, builtin, hpv, hqv, hrun, Result.andThen, Sem.run_bind]
 rw [hr]
 have hv : VR (C.bind id w.drew.heap.size (grownCap w n 0 e)) (.own id 1 0 n) (.slice (some ⟨w.heap.size, 0, none⟩) n (grownCap w n 0 e)) := by
  have := VR.own (C := C.bind id w.drew.heap.size (grownCap w n 0 e)) id 1 0 n w.heap.size (grownCap w n 0 e) (grownCap w n 0 e) (Ctx.bind_m ..) List.mem_cons_self (by simp) hcap hcapm
  simpa using this
 have he2 : Ext Z C s.H w (C.bind id w.drew.heap.size (grownCap w n 0 e)) ((id, .rows e 1 (List.replicate n [.v zv])) :: s.H) (w.drew.alloc (.cells (Builtin.zeroCells z.cells n ++ Builtin.zeroCells z.cells (grownCap w n 0 e - n)) e)) :=
  ⟨he1.le, he1.av, he1.os, he1.tape, he1.output, he1.size, he1.fr, he1.nhp, he1.nbl, he1.nid⟩
 exact ⟨_, _, h id, hs.put he2.le hw1 (Z1l hd) hv, hx0.trans he2⟩
end Go.Sx
namespace Go.Sx
open Go
def insW : List Str → Str → List Str
 | [], s => [s]
 | x :: r, s => if ltS s x then s :: x :: r else x :: insW r s
def withF (l : List Str) (s : Str) : List Str := if inL l s then l else insW l s
def insF (l : List Str) : List Str := l.foldl withF []
def wD (l : List Str) (s : Str) (i : Nat) : Bool := (l.take i).any (ltS s)
def wO (l : List Str) (s : Str) (i : Nat) : List Str := if wD l s i then insW (l.take i) s else l.take i
def mergeP (a b : List Str) : List Str × Int := if !rightL a || !rightL b then ([], 5) else makeP (a ++ b)
end Go.Sx
namespace Go.Sx
open Go Go.Proofs
theorem Zfi (n : Nat) (hn : n ≤ 1000000) : ACalls Tryz.prog 103 [.v (.slice none 0 0), iA n] [] (GP (fun q : Nat => .own q 1 0 0) (fun q => [(q, .rows 9 1 [])]) (fun _ => True)) := by
 refine Zd (n := 27) Tryz.func103 rfl (by decide +kernel) rfl rfl ?_
 refine qS (qR (qA (qN (qS (qS (qR (qM ?_)))))))
 refine qe eI ?_
 refine qN ?_
 refine Z2 rfl ?_ ?_
 ·intro hc
  exfalso; simp at hc; omega
 ·intro hc
  refine qK (qS (qS (qR (qM (qM ?_)))))
  refine qe (Z6i rfl rfl) ?_
  refine qM ?_
  refine qe (Zx rfl rfl rfl rfl) ?_
  refine qe (Zv (y := iA 0) (Z9 rfl rfl rfl (Z0c (by first | omega | (simp only [List.length_map]; omega)))) (rfl)) ?_
  refine qe (Zv (y := iA n) (Z9 rfl rfl rfl (Z0c (by first | omega | (simp only [List.length_map]; omega)))) (congrArg iA (by simp))) ?_
  refine qA (qN (qS (qR (qM ?_))))
  refine qe eI ?_
  refine qN ?_
  refine Z2 rfl ?_ ?_
  ·intro hc
   have hn0 : 0 < n := by simp at hc; omega
   refine qR (qM (qM ?_))
   refine qe (Z6i rfl rfl) ?_
   refine qe (Z7t rfl rfl rfl) ?_
   refine qM ?_
   refine Z7f (n := n) (w0 rfl) rfl rfl rfl rfl hn0 (by first | omega | (simp; omega) | (simp [maxLen]; omega) | (simp; done) | (simp [maxLen]; done)) (by first | omega | (simp; omega) | (simp [maxLen]; omega) | (simp; done) | (simp [maxLen]; done)) rfl (fun id1 => ?_)
   refine qM ?_
   refine qe (Zx rfl rfl rfl rfl) ?_
   refine qe (Z26 rfl rfl rfl (by first | omega | (simp only [List.length_map]; omega) | (simp only [List.length_map, List.length_drop]; omega)) (by first | omega | (simp only [List.length_map]; omega) | (simp only [List.length_map, List.length_drop]; omega))) ?_
   refine qA (qN (qS ?_))
   refine Z10 (Z99 (m := 0) 0 rfl) ?_
   refine qR (qM (qA (qN (qE ?_))))
   exact Zf rfl (Z7 rfl Z4) (.cons_cons _ .slnil) (gp _ trivial rfl rfl)
  ·intro hc
   refine qK (qS (qR (qM ?_)))
   refine Zy (w0 rfl) rfl (fun id => Z29 id 9 1 (.inl rfl) rfl) (fun id2 => ?_)
   refine qN (qE ?_)
   exact Zf rfl (Z7 rfl Z4) (.cons_cons _ .slnil) (gp _ trivial rfl rfl)
theorem Z3g {ss : List (List Str)} {i : Nat} (h : i < ss.length) : (ss.take (i + 1)).flatten = (ss.take i).flatten ++ ss[i] := by rw [Z1a h, List.flatten_append]; simp
theorem Z57 {ss : List (List Str)} {i n : Nat} (h : ss.flatten.length ≤ n) : (ss.take i).flatten.length ≤ n := by
 have : ss.flatten = (ss.take i).flatten ++ (ss.drop i).flatten := by rw [← List.flatten_append, List.take_append_drop]
 rw [this, List.length_append] at h; omega
theorem Zdi (ss : List (List Str)) (hs : ss.length ≤ 1000) (hf : ss.flatten.length ≤ 100000) : ACalls Tryz.prog 57 [(.lst (ss.map fun l => [row1 sA l]))] [] (Gives (row1 sA ss.flatten)) := by
 refine Zd (n := 36) Tryz.func57 rfl (by decide +kernel) rfl rfl ?_
 refine qS (qR (qA (qN (qS (qR (qA (qN (qS (qS (qR (qM ?_)))))))))))
 refine qe (Zx rfl rfl rfl rfl) ?_
 refine qM (qN (qB ?_))
 refine Zj (α := Nat) (fun i => ⟨[(9, (.lst (ss.map fun l => [row1 sA l]))), (0, (.lst (ss.map fun l => [row1 sA l]))), (10, iA ss.length), (11, iA i), (3, iA (ss.take i).flatten.length)], [], [], 36⟩) (fun i => i ≤ ss.length) (fun i => ss.length - i) 0 (Nat.zero_le _) ?_ ?_
 ·exact Zb [] ⟨rfl, rfl, (by show some (iA _) = some (iA _); simp), rfl, rfl, trivial⟩ rfl (by decide) rfl rfl
 rintro i hJ
 have hb := Z57 (i := i) hf
 have hb1 := Z57 (i := i + 1) hf
 refine qS (qR ?_)
 refine qe eI ?_
 refine qN (qS ?_)
 refine Z2 rfl ?_ ?_
 ·intro hc
  have hi : i < ss.length := by simpa using hc
  rw [Z3g hi, List.length_append] at hb1
  refine qK (qS (qB (qS (qR ?_))))
  refine qe (Z6 rfl rfl rfl (Z04 (fun _ => rfl)) (by first | omega | (simp only [List.length_map]; omega) | (simp only [List.length_map, List.length_drop]; omega)) (by first | omega | (simp only [List.length_map]; omega) | (simp only [List.length_map, List.length_drop]; omega))) ?_
  refine qe (Zv (y := row1 sA ss[i]) (Zu rfl rfl (Z0a (by first | assumption | omega | (simp only [List.length_drop]; omega))) Z3) (rfl)) ?_
  refine qA (qN (qS (qR (qM (qM ?_)))))
  refine qe (Zx rfl rfl rfl rfl) ?_
  refine qe (Z9 rfl rfl rfl (Zn (by first | omega | (simp only [List.length_map]; omega)))) ?_
  refine qA (qN (qS (qR (qM ?_))))
  refine qe eI ?_
  refine qN ?_
  refine Z2 rfl ?_ ?_
  ·intro hc
   exfalso; simp at hc; omega
  ·intro hc
   refine qK (qR ?_)
   refine qe (Z9 rfl rfl rfl (Zn (by first | omega | (simp only [List.length_map]; omega)))) ?_
   refine qM (qN ?_)
   refine ⟨i + 1, hi, (by omega), ?_⟩
   exact qp [] ⟨rfl, rfl, rfl, rfl, (by show some (iA _) = some (iA _); rw [Z3g hi, List.length_append]; simp only [List.length_map]; rfl), trivial⟩
 ·intro hc
  have hi : ¬ i < ss.length := by simpa using hc
  refine qX (qS (qR (qM ?_)))
  refine Z5 [] _ (w0 rfl) rfl rfl rfl rfl (.refl _) (Zfi (ss.take i).flatten.length (by omega)) (fun v1 hv1 => ?_)
  refine qA (qN (qS (qS (qR (qM ?_)))))
  refine qe (Zx rfl rfl rfl rfl) ?_
  refine qM (qN (qB ?_))
  refine Zj (α := Nat × Nat) (fun x => ⟨[(25, (.lst (ss.map fun l => [row1 sA l]))), (26, iA ss.length), (27, iA x.2), (6, .own x.1 1 0 ((ss.take x.2).flatten).length)], [(x.1, .rows 9 1 (((ss.take x.2).flatten).map fun x => [sA x]))], [], 36⟩) (fun x => x.2 ≤ ss.length) (fun x => ss.length - x.2) (v1, 0) (Nat.zero_le _) ?_ ?_
  ·exact Zb [0] ⟨rfl, (by show some (iA _) = some (iA _); simp), rfl, rfl, trivial⟩ rfl (by decide) rfl rfl
  rintro x hJ
  have hb := Z57 (i := x.2) hf
  have hb1 := Z57 (i := x.2 + 1) hf
  refine qS (qR ?_)
  refine qe eI ?_
  refine qN (qS ?_)
  refine Z2 rfl ?_ ?_
  ·intro hc
   have hj : x.2 < ss.length := by simpa using hc
   rw [Z3g hj, List.length_append] at hb1
   refine qK (qS (qB (qS (qR ?_))))
   refine qe (Z6 rfl rfl rfl (Z04 (fun _ => rfl)) (by first | omega | (simp only [List.length_map]; omega) | (simp only [List.length_map, List.length_drop]; omega)) (by first | omega | (simp only [List.length_map]; omega) | (simp only [List.length_map, List.length_drop]; omega))) ?_
   refine qe (Zv (y := row1 sA ss[x.2]) (Zu rfl rfl (Z0a (by first | assumption | omega | (simp only [List.length_drop]; omega))) Z3) (rfl)) ?_
   refine qA (qN (qR (qM (qM ?_))))
   refine Z0n 0 (w0 rfl) rfl rfl rfl rfl (by rw [List.length_map]) rfl (⟨rfl, Z04 (fun _ => rfl)⟩ : SlA _ 1 (row1 sA ss[x.2]) _) (by simp only [List.length_map]; omega) (by simp only [List.length_map, maxLen]; omega) (fun id2 => ?_)
   refine qA (qN (qR ?_))
   refine qe (Z9 rfl rfl rfl (Zn (by first | omega | (simp only [List.length_map]; omega)))) ?_
   refine qM (qN ?_)
   refine ⟨(id2, x.2 + 1), (by show x.2 + 1 ≤ _; omega), (by show ss.length - (x.2 + 1) < ss.length - x.2; omega), ?_⟩
   exact Zb [0] ⟨rfl, rfl, rfl, (by show some (AV.own _ _ _ _) = some (AV.own _ _ _ _); rw [Z3g hj, List.length_append, List.length_map]; first | done | rw [List.length_map]), trivial⟩ (by show some [(_, AObj.rows _ _ _)] = some [(_, AObj.rows _ _ _)]; rw [Z3g hj, List.map_append]) (by decide) rfl rfl
  ·intro hc
   have hj : ¬ x.2 < ss.length := by simpa using hc
   have ef : ((ss.take x.2).flatten) = ss.flatten := by rw [List.take_of_length_le (by omega)]
   refine qX (qS (qR (qM (qA (qN (qE ?_))))))
   exact Z4i 0 rfl rfl rfl rfl (by rw [List.length_map]) (by show row1 sA _ = AV.lst _; rw [ef]; rfl)
structure Ids where
 cl : Nat
 fd : Nat
 md : Nat
 cn : Nat
 fn : Nat
 mn : Nat
 lk : Nat
def gcells (p : Prog) (l : List Rule) (a : Ga) (i : Ids) : List AV := [.lst (p.classes.map Cls.cells), row1 sA p.names, sA p.entry.cls, sA p.entry.name, sA p.entry.desc, .lst (l.map Rule.cells), .own i.cl 1 0 a.cl.length, .own i.fd 2 0 a.fd.length, .own i.md 3 0 a.md.length, .own i.cn 1 0 a.cn.length, .own i.fn 1 0 a.fn.length, .own i.mn 1 0 a.mn.length, .own i.lk 1 0 a.lk.length]
structure Ga.bd (a : Ga) (n : Nat) : Prop where
 cl : a.cl.length ≤ n
 fd : a.fd.length ≤ n
 md : a.md.length ≤ n
 cn : a.cn.length ≤ n
 fn : a.fn.length ≤ n
 mn : a.mn.length ≤ n
 lk : a.lk.length ≤ n
theorem Ga.bd_app {a b : Ga} {n m : Nat} (h : a.bd n) (k : b.bd m) : (a.app b).bd (n + m) := by
 obtain ⟨h1, h2, h3, h4, h5, h6, h7⟩ := h
 obtain ⟨k1, k2, k3, k4, k5, k6, k7⟩ := k
 constructor <;> (unfold Ga.app; simp only [List.length_append]; omega)
theorem Ga.bd_le {a : Ga} {n m : Nat} (h : a.bd n) (k : n ≤ m) : a.bd m := ⟨Nat.le_trans h.cl k, Nat.le_trans h.fd k, Nat.le_trans h.md k, Nat.le_trans h.cn k, Nat.le_trans h.fn k, Nat.le_trans h.mn k, Nat.le_trans h.lk k⟩
theorem Z2w {α : Type} (b : Bool) (x : α) : (okB b x).length ≤ 1 := by unfold okB; split <;> simp
theorem Ga.bd_sum {α : Type} {f : α → Ga} {m : Nat} (h : ∀ x, (f x).bd m) : ∀ l : List α, (Ga.sum (l.map f)).bd (l.length * m)
 | [] => ⟨Nat.zero_le _, Nat.zero_le _, Nat.zero_le _, Nat.zero_le _, Nat.zero_le _, Nat.zero_le _, Nat.zero_le _⟩
 | x :: l => by
  have := Ga.bd_app (h x) (Ga.bd_sum h l)
  rw [List.length_cons, Nat.add_mul, Nat.one_mul, Nat.add_comm]
  exact this
theorem Zc8 (txt : Ty → Str) (p : Prog) (l : List Rule) (r : FRef) : (gaF txt p l r).bd 1 := ⟨Z2w _ _, Z2w _ _, Nat.zero_le _, Nat.zero_le _, Z2w _ _, Nat.zero_le _, Nat.zero_le _⟩
theorem Zf3 (p : Prog) (l : List Rule) (r : MRef) : (gaM p l r).bd 1 := ⟨Z2w _ _, Nat.zero_le _, Z2w _ _, Nat.zero_le _, Nat.zero_le _, Z2w _ _, Z2w _ _⟩
theorem Zc9 (l : List Rule) (c : Cls) : (gaK l c).bd 1 := ⟨Z2w _ _, Nat.zero_le _, Nat.zero_le _, Z2w _ _, Nat.zero_le _, Nat.zero_le _, Nat.zero_le _⟩
theorem Z2d {α : Type} {l : List α} {f : α → Bool} {i : Nat} (h : i < l.length) : (l.take (i + 1)).any f = ((l.take i).any f || f l[i]) := by rw [Z1a h, List.any_append]; simp
theorem Zbk (l : List Rule) (hl : small l.length) (g : Nat) (caps : List AV) (Hc : AHeap) (f : Rule → Bool) (hg : ∀ r, r ∈ l → ACalls Tryz.prog g (r.av :: caps) Hc (GivesH (bA (f r)) Hc)) : ACalls Tryz.prog 87 [.lst (l.map Rule.cells), .fn (.func g) caps] Hc (GivesH (.tup [bA (anyR l f), bA (nmsR l f)]) Hc) := by
 simp only [small] at hl
 refine Zd (n := 25) Tryz.func87 rfl (by decide +kernel) rfl rfl ?_
 refine qS (qR (qA (qA (qN (qS (qS (qR (qM ?_))))))))
 refine qe (Zx rfl rfl rfl rfl) ?_
 refine qM (qN (qB ?_))
 refine Zj (α := Nat) (fun i => ⟨[(10, iA i), (9, iA l.length), (8, .lst (l.map Rule.cells)), (1, .fn (.func g) caps), (4, bA (anyR (l.take i) f)), (5, bA (nmsR (l.take i) f))], [] ++ Hc, [], 25⟩) (fun i => i ≤ l.length) (fun i => l.length - i) 0 (Nat.zero_le _) ?_ ?_
 ·exact Z1o (F := []) (F' := []) (Hj := Hc) [] ⟨rfl, (by show some (iA _) = some (iA _); simp), rfl, rfl, rfl, rfl, trivial⟩ rfl rfl rfl (by decide) rfl rfl
 rintro i hJ
 refine qS (qR ?_)
 refine qe eI ?_
 refine qN (qS ?_)
 refine Z2 rfl ?_ ?_
 ·intro hc
  have hi : i < l.length := by simpa using hc
  refine qK (qS (qB (qS (qR ?_))))
  refine qe (Z6 rfl rfl rfl (Z04 (fun _ => rfl)) (by first | omega | (simp only [List.length_map]; omega) | (simp only [List.length_map, List.length_drop]; omega)) (by first | omega | (simp only [List.length_map]; omega) | (simp only [List.length_map, List.length_drop]; omega))) ?_
  refine qe (Zu rfl rfl (Z0a (by first | assumption | omega | (simp only [List.length_drop]; omega))) (Zt (Nat.le_of_ble_eq_true rfl))) ?_
  refine Zy (w0 rfl) rfl (fun id => Z0b id rfl rfl rfl) (fun id1 => ?_)
  refine Zw 0 (w0 rfl) rfl rfl rfl rfl rfl rfl rfl rfl rfl ?_
  refine qN (qS (qR (qM ?_)))
  refine qL 0 (Zha (y := Rule.av l[i]) (Zt (Nat.le_of_ble_eq_true rfl)) (rfl)) ?_
  refine Z16 Hc [_] (w0 rfl) rfl rfl rfl rfl (List.perm_append_comm (l₁ := [_])) (hg _ (List.getElem_mem hi)) ?_
  refine qN ?_
  refine Z2 rfl ?_ ?_
  ·intro hc
   have hq : f l[i] = true := hc
   refine Z0j 6 rfl (by kernel_rfl) ?_
   refine cM2 (cM2 ?_)
   refine Zc (wF rfl rfl rfl rfl) rfl (fun hg => (Z0 rfl rfl rfl)) ?_
   refine Z0m 0 (wF rfl rfl rfl rfl) rfl rfl (fun hg => (Ze hg rfl)) rfl rfl Z3 ?_
   refine ce (Z1h rfl rfl rfl (fun h => by rw [h]; rfl)) ?_
   refine ce (Z0y rfl rfl) ?_
   refine .done (qA (qN (qR ?_)))
   refine qe (Z9 rfl rfl rfl (Zn (by first | omega | (simp only [List.length_map]; omega)))) ?_
   refine qM (qN ?_)
   refine ⟨i + 1, hi, (by omega), ?_⟩
   exact Z1o (F := [_]) (F' := []) (Hj := Hc) [] ⟨rfl, rfl, rfl, rfl, (congrArg (fun b => some (bA b)) (by unfold anyR; rw [Z2d hi]; simp [hq])), (congrArg (fun b => some (bA b)) (by unfold nmsR; rw [Z2d hi]; simp [hq])), trivial⟩ rfl rfl rfl (by decide) rfl rfl
  ·intro hc
   have hq : f l[i] = false := hc
   refine qK (qR ?_)
   refine qe (Z9 rfl rfl rfl (Zn (by first | omega | (simp only [List.length_map]; omega)))) ?_
   refine qM (qN ?_)
   refine ⟨i + 1, hi, (by omega), ?_⟩
   exact Z1o (F := [_]) (F' := []) (Hj := Hc) [] ⟨rfl, rfl, rfl, rfl, (congrArg (fun b => some (bA b)) (by unfold anyR; rw [Z2d hi]; simp [hq])), (congrArg (fun b => some (bA b)) (by unfold nmsR; rw [Z2d hi]; simp [hq])), trivial⟩ rfl rfl rfl (by decide) rfl rfl
 ·intro hc
  have hi : ¬ i < l.length := by simpa using hc
  refine qX (qS (qR (qM (qM (qA (qA (qN (qE ?_))))))))
  exact Zf rfl (Z7 rfl (Z7 rfl Z4)) (.refl _) (gvH (by rw [List.take_of_length_le (by omega)]; rfl))
theorem Zfe (c : Cls) (hc0 : small c.name.size) (i1 : Nat) (r : Rule) (hr : r.ok) : ACalls Tryz.prog 88 [r.av, .ptr i1 7 0 0] [(i1, .rows 53 7 [c.cells])] (GivesH (bA (clsR r c.name)) [(i1, .rows 53 7 [c.cells])]) := by
 refine Zd (n := 8) Tryz.func88 rfl (by decide +kernel) rfl rfl ?_
 refine qS (qR ?_)
 refine Zy (w0 rfl) rfl (fun id => Z09 id rfl rfl rfl rfl rfl) (fun id1 => ?_)
 refine qA (qN (qS (qR ?_)))
 refine qL 0 (Zt (Nat.le_of_ble_eq_true rfl)) ?_
 refine qe (Z0 rfl rfl rfl) ?_
 refine qL 1 Z3 ?_
 refine qe (Z8 [] rfl rfl rfl (Zgf r hr c.name hc0) List.nodup_nil) ?_
 refine qA (qN (qE ?_))
 exact Zf rfl (Z7 rfl Z4) (.cons _ (.refl _)) (gvH rfl)
theorem Zbe (b : Bool) (ref : FRef) (f : Fld) (h1 : small ref.cls.size) (h2 : small f.name.size) (h3 : small f.type.cls.size) (ib iq jf : Nat) (r : Rule) (hr : r.ok) : ACalls Tryz.prog 120 [r.av, .ptr ib 1 0 0, .ptr iq 2 0 0, .ptr jf 4 0 0] [(ib, .rows 4 1 [[bA b]]), (iq, .rows 46 2 [ref.cells]), (jf, .rows 70 4 [f.cells])] (GivesH (bA (b && memR r ref.cls f.name (textT f.type))) [(ib, .rows 4 1 [[bA b]]), (iq, .rows 46 2 [ref.cells]), (jf, .rows 70 4 [f.cells])]) := by
 have hx := Z5a f.type
 refine Zd (n := 18) Tryz.func120 rfl (by decide +kernel) rfl rfl ?_
 refine qS (qR ?_)
 refine Zy (w0 rfl) rfl (fun id => Z09 id rfl rfl rfl rfl rfl) (fun id1 => ?_)
 refine qA (qN (qS ?_))
 refine Zz [0, 1, 3, 3, 11, 3, 35, 3, 131, 387, 1023, 2047, 4095] 13 rfl (by kernel_rfl) ?_
 refine Za 1 (w0 rfl) rfl rfl rfl rfl rfl Z3 ?_
 refine cM2 ?_
 refine Z0m 0 (wT rfl rfl rfl rfl) rfl rfl (fun hg => rfl) rfl rfl (Zt (Nat.le_of_ble_eq_true rfl)) ?_
 refine Zc (wT rfl rfl rfl rfl) rfl (fun hg => (Z0 rfl rfl rfl)) ?_
 refine Z0m 2 (wT rfl rfl rfl rfl) rfl rfl (fun hg => (Ze hg rfl)) rfl rfl Z3 ?_
 refine Zc (wT rfl rfl rfl rfl) rfl (fun hg => (Z0 rfl rfl rfl)) ?_
 refine Z0m 3 (wT rfl rfl rfl rfl) rfl rfl (fun hg => (Ze hg rfl)) rfl rfl Z3 ?_
 refine Zc (wT rfl rfl rfl rfl) rfl (fun hg => (Z0 rfl rfl rfl)) ?_
 refine Z0m 3 (wT rfl rfl rfl rfl) rfl rfl (fun hg => (Ze hg rfl)) rfl rfl (Zt (Nat.le_of_ble_eq_true rfl)) ?_
 refine Zc (wT rfl rfl rfl rfl) rfl (fun hg => (Z8 [] rfl rfl (Zg (Ze hg rfl) Z05) (Zbv f.type h3) List.nodup_nil)) ?_
 refine Zc (wT rfl rfl rfl rfl) rfl (fun hg => (Z8 [] rfl rfl (Zg (Ze hg rfl) (Zg (Ze hg rfl) (Zg (Ze hg rfl) (Zg (Ze hg rfl) Z05)))) (Zew r hr ref.cls f.name (textT f.type) h1 h2 (by unfold small at h3; omega)) List.nodup_nil)) ?_
 refine ce (Zs rfl rfl rfl (fun h => h)) ?_
 refine ce (Z0y rfl rfl) ?_
 refine .done (qN (qE ?_))
 exact Zf rfl (Z7 rfl Z4) (.cons _ (.refl _)) (gvH rfl)
theorem Zbg (b : Bool) (ref : MRef) (h1 : small ref.cls.size) (h2 : small ref.name.size) (h3 : small ref.desc.size) (ib iq : Nat) (r : Rule) (hr : r.ok) : ACalls Tryz.prog 123 [r.av, .ptr ib 1 0 0, .ptr iq 3 0 0] [(ib, .rows 4 1 [[bA b]]), (iq, .rows 25 3 [ref.cells])] (GivesH (bA (b && memR r ref.cls ref.name ref.desc)) [(ib, .rows 4 1 [[bA b]]), (iq, .rows 25 3 [ref.cells])]) := by
 refine Zd (n := 16) Tryz.func123 rfl (by decide +kernel) rfl rfl ?_
 refine qS (qR ?_)
 refine Zy (w0 rfl) rfl (fun id => Z09 id rfl rfl rfl rfl rfl) (fun id1 => ?_)
 refine qA (qN (qS (qR ?_)))
 refine qL 1 Z3 ?_
 refine qM ?_
 refine Z00 0 (wT rfl rfl rfl rfl) rfl rfl (fun hg => rfl) rfl rfl (Zt (Nat.le_of_ble_eq_true rfl)) ?_
 refine Zp (wT rfl rfl rfl rfl) rfl (fun hg => (Z0 rfl rfl rfl)) ?_
 refine Z00 2 (wT rfl rfl rfl rfl) rfl rfl (fun hg => (Ze hg rfl)) rfl rfl Z3 ?_
 refine Zp (wT rfl rfl rfl rfl) rfl (fun hg => (Z0 rfl rfl rfl)) ?_
 refine Z00 2 (wT rfl rfl rfl rfl) rfl rfl (fun hg => (Ze hg rfl)) rfl rfl Z3 ?_
 refine Zp (wT rfl rfl rfl rfl) rfl (fun hg => (Z0 rfl rfl rfl)) ?_
 refine Z00 2 (wT rfl rfl rfl rfl) rfl rfl (fun hg => (Ze hg rfl)) rfl rfl Z3 ?_
 refine Zp (wT rfl rfl rfl rfl) rfl (fun hg => (Z8 [] rfl rfl (Zg (Ze hg rfl) (Zg (Ze hg rfl) (Zg (Ze hg rfl) (Zg (Ze hg rfl) Z05)))) (Zew r hr ref.cls ref.name ref.desc h1 h2 (by unfold small at h3; omega)) List.nodup_nil)) ?_
 refine qe (Zs rfl rfl rfl (fun h => h)) ?_
 refine qA (qN (qE ?_))
 exact Zf rfl (Z7 rfl Z4) (.cons _ (.refl _)) (gvH rfl)
theorem Z60 {α : Type} {b : Bool} (h : b = true) (x : α) : okB b x = [x] := by rw [h]; rfl
theorem Z82 {α : Type} {b : Bool} (h : b = false) (x : α) : okB b x = [] := by rw [h]; rfl
theorem Zef {p : Prog} {r : FRef} {f : Fld} (h : fldP p r = some f) : ∃ c, c ∈ p.classes ∧ f ∈ c.fields := by
 unfold fldP fldC knownC at h
 cases hk : clsFind p r.cls with
 | none => rw [hk] at h; cases h
 | some c => rw [hk] at h; exact ⟨c, (Z1f hk).2, List.mem_of_find?_eq_some h⟩
theorem Z9r {p : Prog} (hp : p.ok) (ref : FRef) : small ((fldP p ref).getD zFl).name.size ∧ small ((fldP p ref).getD zFl).type.cls.size := by
 cases h : fldP p ref with
 | none => exact ⟨by unfold small; decide, by unfold small; decide⟩
 | some f =>
  obtain ⟨c, hc, hf⟩ := Zef h
  have := (hp.classes.2 c hc).fields.2 f hf
  exact ⟨this.name, this.type.cls⟩
theorem Zds (p : Prog) (hp : p.ok) (l : List Rule) (hl : small l.length) (hr : ∀ r, r ∈ l → r.ok) (a : Ga) (ha : a.bd 1000000) (i : Ids) (g : Nat) (ref : FRef) (hq : ref.ok) : ACalls Tryz.prog 90 [.ptr g 13 0 0, FRef.av ref] [(g, .rows 91 13 [gcells p l a i]), (i.cl, .rows 9 1 (a.cl.map fun x => [sA x])), (i.fd, .rows 46 2 (a.fd.map FRef.cells)), (i.md, .rows 25 3 (a.md.map MRef.cells)), (i.cn, .rows 9 1 (a.cn.map fun x => [sA x])), (i.fn, .rows 9 1 (a.fn.map fun x => [sA x])), (i.mn, .rows 9 1 (a.mn.map fun x => [sA x])), (i.lk, .rows 9 1 (a.lk.map fun x => [sA x]))] (GP (fun _ : Ids => mkRes []) (fun i => [(g, .rows 91 13 [gcells p l (a.app (gaF textT p l ref)) i]), (i.cl, .rows 9 1 ((a.app (gaF textT p l ref)).cl.map fun x => [sA x])), (i.fd, .rows 46 2 ((a.app (gaF textT p l ref)).fd.map FRef.cells)), (i.md, .rows 25 3 ((a.app (gaF textT p l ref)).md.map MRef.cells)), (i.cn, .rows 9 1 ((a.app (gaF textT p l ref)).cn.map fun x => [sA x])), (i.fn, .rows 9 1 ((a.app (gaF textT p l ref)).fn.map fun x => [sA x])), (i.mn, .rows 9 1 ((a.app (gaF textT p l ref)).mn.map fun x => [sA x])), (i.lk, .rows 9 1 ((a.app (gaF textT p l ref)).lk.map fun x => [sA x]))]) (fun _ => True)) := by
 have q1 := ha.cl
 have q2 := ha.fd
 have q3 := ha.md
 have q4 := ha.cn
 have q5 := ha.fn
 have q6 := ha.mn
 have q7 := ha.lk
 have hfo := Z9r hp ref
 refine Zd (n := 66) Tryz.func90 rfl (by decide +kernel) rfl rfl ?_
 refine qS (qR ?_)
 refine Zy (w0 rfl) rfl (fun id => Z09 id rfl rfl rfl rfl rfl) (fun id1 => ?_)
 refine qN (qS ?_)
 refine Z13 [0, 1, 3, 7, 0, 31, 63, 127, 127, 0, 0, 1791, 4095] [11, 12] [3, 4, 9, 10] rfl (by kernel_rfl) ?_
 refine Zh (w0 rfl) rfl (Z06 rfl rfl) rfl ?_
 refine Zh (w0 rfl) rfl (Z02 rfl rfl rfl) rfl ?_
 refine Zh (w0 rfl) rfl (Z0 rfl rfl rfl) rfl ?_
 refine Zl 1 (w0 rfl) rfl rfl rfl rfl rfl (Zt (Nat.le_of_ble_eq_true rfl)) rfl rfl ?_
 refine Zl 0 (w0 rfl) rfl rfl rfl rfl rfl (Zt (Nat.le_of_ble_eq_true rfl)) rfl rfl ?_
 refine Zh (w0 rfl) rfl (Z8 [] rfl rfl rfl (Z7k p hp ref) List.nodup_nil) rfl ?_
 refine Zh (w0 rfl) rfl (Z06 rfl rfl) rfl ?_
 refine Zh (w0 rfl) rfl (Zi rfl rfl rfl) rfl ?_
 refine Zh (w0 rfl) rfl (Zi rfl rfl rfl) rfl ?_
 refine Z1e (w0 rfl) rfl (fun id => Z0b id rfl rfl rfl) rfl rfl (fun id2 => ?_)
 refine Z1e (w0 rfl) rfl (fun id => Z0b id rfl rfl rfl) rfl rfl (fun id3 => ?_)
 refine Z0t 1 [] (w0 rfl) rfl rfl rfl rfl rfl rfl rfl rfl rfl rfl trivial ?_
 refine Z0t 0 [] (w0 rfl) rfl rfl rfl rfl rfl rfl rfl rfl rfl rfl trivial ?_
 refine .done (qS (qR (qM ?_)))
 refine qe (Z02 rfl rfl rfl) ?_
 refine qe (Z0 rfl rfl rfl) ?_
 refine qL 3 Z3 ?_
 refine qe (Z1k rfl rfl) ?_
 refine Z16 [_, _, _] _ (w0 rfl) rfl rfl rfl rfl (Z2q [0, 1, 0] rfl) (Zbk l hl 120 _ _ (fHold textT p ref) (fun r hm => Zbe _ ref _ hq.cls hfo.1 hfo.2 id3 id1 id2 r (hr r hm))) ?_
 refine qM ?_
 refine qe (Zi rfl rfl rfl) ?_
 refine qe (Zi rfl rfl rfl) ?_
 refine qA (qA (qN (qS (qS (qR (qM (qN ?_)))))))
 refine Z2 rfl ?_ ?_
 ·intro hc
  have t1 : anyR l (fHold textT p ref) = true := hc
  refine qS ?_
  refine Z13 [0, 0, 2, 6, 14, 30, 0, 64, 254, 511, 1023, 2047, 4095] [8, 12] [5, 6, 7] rfl (by kernel_rfl) ?_
  refine Zh (w0 rfl) rfl (Z06 rfl rfl) rfl ?_
  refine Zh (w0 rfl) rfl (Z06 rfl rfl) rfl ?_
  refine Zh (w0 rfl) rfl (Z02 rfl rfl rfl) rfl ?_
  refine Zh (w0 rfl) rfl (Z0 rfl rfl rfl) rfl ?_
  refine Zh (w0 rfl) rfl (Z0 rfl rfl rfl) rfl ?_
  refine Zl 3 (w0 rfl) rfl rfl rfl rfl rfl Z3 rfl rfl ?_
  refine Zl 2 (w0 rfl) rfl rfl rfl rfl rfl (Zt (Nat.le_of_ble_eq_true rfl)) rfl rfl ?_
  refine Z1e (w0 rfl) rfl (fun id => Zo id (ps := [(0, .tmp 33)]) rfl rfl rfl rfl rfl rfl rfl rfl) rfl rfl (fun id4 => ?_)
  refine Z0v 6 [] (w0 rfl) rfl rfl rfl rfl (by simp) rfl ⟨rfl, _, _, List.mem_of_getElem? (i := 0) rfl, by simp, rfl⟩ (by first | omega | (simp; omega) | (simp [maxLen]; omega) | (simp; done) | (simp [maxLen]; done)) (by first | omega | (simp; omega) | (simp [maxLen]; omega) | (simp; done) | (simp [maxLen]; done)) rfl (fun _ => trivial) (fun id5 => ?_)
  refine Zh (w0 rfl) rfl (Z02 rfl rfl rfl) rfl ?_
  refine Zh (w0 rfl) rfl (Z0 rfl rfl rfl) rfl ?_
  refine Zh (w0 rfl) rfl (Z0 rfl rfl rfl) rfl ?_
  refine Z0t 4 [] (w0 rfl) rfl rfl rfl rfl rfl rfl rfl rfl rfl rfl trivial ?_
  refine .done ?_
  refine Z13 [0, 0, 2, 6, 14, 30, 0, 64, 192, 510, 1023, 2047, 4095, 8191] [9, 13] [5, 7, 8] rfl (by kernel_rfl) ?_
  refine Zh (w0 rfl) rfl (Z06 rfl rfl) rfl ?_
  refine Zh (w0 rfl) rfl (Z06 rfl rfl) rfl ?_
  refine Zh (w0 rfl) rfl (Z02 rfl rfl rfl) rfl ?_
  refine Zh (w0 rfl) rfl (Z0 rfl rfl rfl) rfl ?_
  refine Zh (w0 rfl) rfl (Z0 rfl rfl rfl) rfl ?_
  refine Zl 4 (w0 rfl) rfl rfl rfl rfl rfl Z3 rfl rfl ?_
  refine Zh (w0 rfl) rfl (Z0 rfl rfl rfl) rfl ?_
  refine Zl 3 (w0 rfl) rfl rfl rfl rfl rfl Z3 rfl rfl ?_
  refine Z1e (w0 rfl) rfl (fun id => Zo id (ps := [(0, .tmp 46)]) rfl rfl rfl rfl rfl rfl rfl rfl) rfl rfl (fun id6 => ?_)
  refine Z0v 6 [] (w0 rfl) rfl rfl rfl rfl (by simp) rfl ⟨rfl, _, _, List.mem_of_getElem? (i := 0) rfl, by simp, rfl⟩ (by first | omega | (simp; omega) | (simp [maxLen]; omega) | (simp; done) | (simp [maxLen]; done)) (by first | omega | (simp; omega) | (simp [maxLen]; omega) | (simp; done) | (simp [maxLen]; done)) rfl (fun _ => trivial) (fun id7 => ?_)
  refine Zh (w0 rfl) rfl (Z02 rfl rfl rfl) rfl ?_
  refine Zh (w0 rfl) rfl (Z0 rfl rfl rfl) rfl ?_
  refine Zh (w0 rfl) rfl (Z0 rfl rfl rfl) rfl ?_
  refine Z0t 5 [] (w0 rfl) rfl rfl rfl rfl rfl rfl rfl rfl rfl rfl trivial ?_
  refine .done (qS (qR (qM (qN ?_))))
  refine Z2 rfl ?_ ?_
  ·intro hc
   have t2 : nmsR l (fHold textT p ref) = true := hc
   refine Z13 [0, 0, 2, 6, 14, 30, 0, 64, 192, 510, 1023, 2047, 4095, 8191] [9, 13] [5, 7, 8] rfl (by kernel_rfl) ?_
   refine Zh (w0 rfl) rfl (Z06 rfl rfl) rfl ?_
   refine Zh (w0 rfl) rfl (Z06 rfl rfl) rfl ?_
   refine Zh (w0 rfl) rfl (Z02 rfl rfl rfl) rfl ?_
   refine Zh (w0 rfl) rfl (Z0 rfl rfl rfl) rfl ?_
   refine Zh (w0 rfl) rfl (Z0 rfl rfl rfl) rfl ?_
   refine Zl 5 (w0 rfl) rfl rfl rfl rfl rfl Z3 rfl rfl ?_
   refine Zh (w0 rfl) rfl (Z0 rfl rfl rfl) rfl ?_
   refine Zl 3 (w0 rfl) rfl rfl rfl rfl rfl Z3 rfl rfl ?_
   refine Z1e (w0 rfl) rfl (fun id => Zo id (ps := [(0, .tmp 60)]) rfl rfl rfl rfl rfl rfl rfl rfl) rfl rfl (fun id8 => ?_)
   refine Z0v 11 [] (w0 rfl) rfl rfl rfl rfl (by simp) rfl ⟨rfl, _, _, List.mem_of_getElem? (i := 0) rfl, by simp, rfl⟩ (by first | omega | (simp; omega) | (simp [maxLen]; omega) | (simp; done) | (simp [maxLen]; done)) (by first | omega | (simp; omega) | (simp [maxLen]; omega) | (simp; done) | (simp [maxLen]; done)) rfl (fun _ => trivial) (fun id9 => ?_)
   refine Zh (w0 rfl) rfl (Z02 rfl rfl rfl) rfl ?_
   refine Zh (w0 rfl) rfl (Z0 rfl rfl rfl) rfl ?_
   refine Zh (w0 rfl) rfl (Z0 rfl rfl rfl) rfl ?_
   refine Z0t 6 [] (w0 rfl) rfl rfl rfl rfl rfl rfl rfl rfl rfl rfl trivial ?_
   refine .done ?_
   exact Zf rfl Z4 (.cons _ (.cons _ (.cons _ (.cons _ (.cons _ (.cons _ (.cons_cons _ (.cons_cons _ (.cons_cons _ (.cons_cons _ (.cons_cons _ (.cons_cons _ (.cons_cons _ (.cons_cons _ .slnil)))))))))))))) (gp ⟨id7, id5, i.md, i.cn, id9, i.mn, i.lk⟩ trivial rfl (by show [(_, AObj.rows _ _ _), (_, AObj.rows _ _ _), (_, AObj.rows _ _ _), (_, AObj.rows _ _ _), (_, AObj.rows _ _ _), (_, AObj.rows _ _ _), (_, AObj.rows _ _ _), (_, AObj.rows _ _ _)] = [(_, AObj.rows _ _ _), (_, AObj.rows _ _ _), (_, AObj.rows _ _ _), (_, AObj.rows _ _ _), (_, AObj.rows _ _ _), (_, AObj.rows _ _ _), (_, AObj.rows _ _ _), (_, AObj.rows _ _ _)]; simp [gcells, Ga.app, cellsA, FRef.av, FRef.cells, MRef.av, MRef.cells, nDot, nAsk, gaF, okB, t1, t2]))
  ·intro hc
   have t2 : nmsR l (fHold textT p ref) = false := hc
   refine qK ?_
   exact Zf rfl Z4 (.cons _ (.cons _ (.cons _ (.cons _ (.cons _ (.cons_cons _ (.cons_cons _ (.cons_cons _ (.cons_cons _ (.cons_cons _ (.cons_cons _ (.cons_cons _ (.cons_cons _ .slnil))))))))))))) (gp ⟨id7, id5, i.md, i.cn, i.fn, i.mn, i.lk⟩ trivial rfl (by show [(_, AObj.rows _ _ _), (_, AObj.rows _ _ _), (_, AObj.rows _ _ _), (_, AObj.rows _ _ _), (_, AObj.rows _ _ _), (_, AObj.rows _ _ _), (_, AObj.rows _ _ _), (_, AObj.rows _ _ _)] = [(_, AObj.rows _ _ _), (_, AObj.rows _ _ _), (_, AObj.rows _ _ _), (_, AObj.rows _ _ _), (_, AObj.rows _ _ _), (_, AObj.rows _ _ _), (_, AObj.rows _ _ _), (_, AObj.rows _ _ _)]; simp [gcells, Ga.app, cellsA, FRef.av, FRef.cells, MRef.av, MRef.cells, nDot, nAsk, gaF, okB, t1, t2]))
 ·intro hc
  have t1 : anyR l (fHold textT p ref) = false := hc
  refine qK (qS (qR (qM (qN ?_))))
  refine Z2 rfl ?_ ?_
  ·intro hc
   have t2 : nmsR l (fHold textT p ref) = true := hc
   refine Z13 [0, 0, 2, 6, 14, 30, 0, 64, 192, 510, 1023, 2047, 4095, 8191] [9, 13] [5, 7, 8] rfl (by kernel_rfl) ?_
   refine Zh (w0 rfl) rfl (Z06 rfl rfl) rfl ?_
   refine Zh (w0 rfl) rfl (Z06 rfl rfl) rfl ?_
   refine Zh (w0 rfl) rfl (Z02 rfl rfl rfl) rfl ?_
   refine Zh (w0 rfl) rfl (Z0 rfl rfl rfl) rfl ?_
   refine Zh (w0 rfl) rfl (Z0 rfl rfl rfl) rfl ?_
   refine Zl 3 (w0 rfl) rfl rfl rfl rfl rfl Z3 rfl rfl ?_
   refine Zh (w0 rfl) rfl (Z0 rfl rfl rfl) rfl ?_
   refine Zl 1 (w0 rfl) rfl rfl rfl rfl rfl Z3 rfl rfl ?_
   refine Z1e (w0 rfl) rfl (fun id => Zo id (ps := [(0, .tmp 60)]) rfl rfl rfl rfl rfl rfl rfl rfl) rfl rfl (fun id10 => ?_)
   refine Z0v 9 [] (w0 rfl) rfl rfl rfl rfl (by simp) rfl ⟨rfl, _, _, List.mem_of_getElem? (i := 0) rfl, by simp, rfl⟩ (by first | omega | (simp; omega) | (simp [maxLen]; omega) | (simp; done) | (simp [maxLen]; done)) (by first | omega | (simp; omega) | (simp [maxLen]; omega) | (simp; done) | (simp [maxLen]; done)) rfl (fun _ => trivial) (fun id11 => ?_)
   refine Zh (w0 rfl) rfl (Z02 rfl rfl rfl) rfl ?_
   refine Zh (w0 rfl) rfl (Z0 rfl rfl rfl) rfl ?_
   refine Zh (w0 rfl) rfl (Z0 rfl rfl rfl) rfl ?_
   refine Z0t 4 [] (w0 rfl) rfl rfl rfl rfl rfl rfl rfl rfl rfl rfl trivial ?_
   refine .done ?_
   exact Zf rfl Z4 (.cons _ (.cons _ (.cons _ (.cons _ (.cons_cons _ (.cons_cons _ (.cons_cons _ (.cons_cons _ (.cons_cons _ (.cons_cons _ (.cons_cons _ (.cons_cons _ .slnil)))))))))))) (gp ⟨i.cl, i.fd, i.md, i.cn, id11, i.mn, i.lk⟩ trivial rfl (by show [(_, AObj.rows _ _ _), (_, AObj.rows _ _ _), (_, AObj.rows _ _ _), (_, AObj.rows _ _ _), (_, AObj.rows _ _ _), (_, AObj.rows _ _ _), (_, AObj.rows _ _ _), (_, AObj.rows _ _ _)] = [(_, AObj.rows _ _ _), (_, AObj.rows _ _ _), (_, AObj.rows _ _ _), (_, AObj.rows _ _ _), (_, AObj.rows _ _ _), (_, AObj.rows _ _ _), (_, AObj.rows _ _ _), (_, AObj.rows _ _ _)]; simp [gcells, Ga.app, cellsA, FRef.av, FRef.cells, MRef.av, MRef.cells, nDot, nAsk, gaF, okB, t1, t2]))
  ·intro hc
   have t2 : nmsR l (fHold textT p ref) = false := hc
   refine qK ?_
   exact Zf rfl Z4 (.cons _ (.cons _ (.cons _ (.cons_cons _ (.cons_cons _ (.cons_cons _ (.cons_cons _ (.cons_cons _ (.cons_cons _ (.cons_cons _ (.cons_cons _ .slnil))))))))))) (gp ⟨i.cl, i.fd, i.md, i.cn, i.fn, i.mn, i.lk⟩ trivial rfl (by show [(_, AObj.rows _ _ _), (_, AObj.rows _ _ _), (_, AObj.rows _ _ _), (_, AObj.rows _ _ _), (_, AObj.rows _ _ _), (_, AObj.rows _ _ _), (_, AObj.rows _ _ _), (_, AObj.rows _ _ _)] = [(_, AObj.rows _ _ _), (_, AObj.rows _ _ _), (_, AObj.rows _ _ _), (_, AObj.rows _ _ _), (_, AObj.rows _ _ _), (_, AObj.rows _ _ _), (_, AObj.rows _ _ _), (_, AObj.rows _ _ _)]; simp [gcells, Ga.app, cellsA, FRef.av, FRef.cells, MRef.av, MRef.cells, nDot, nAsk, gaF, okB, t1, t2]))
theorem Zbf (p : Prog) (hp : p.ok) (l : List Rule) (hl : small l.length) (hr : ∀ r, r ∈ l → r.ok) (a : Ga) (ha : a.bd 1000000) (i : Ids) (g : Nat) (ref : MRef) (hq : ref.ok) : ACalls Tryz.prog 91 [.ptr g 13 0 0, MRef.av ref] [(g, .rows 91 13 [gcells p l a i]), (i.cl, .rows 9 1 (a.cl.map fun x => [sA x])), (i.fd, .rows 46 2 (a.fd.map FRef.cells)), (i.md, .rows 25 3 (a.md.map MRef.cells)), (i.cn, .rows 9 1 (a.cn.map fun x => [sA x])), (i.fn, .rows 9 1 (a.fn.map fun x => [sA x])), (i.mn, .rows 9 1 (a.mn.map fun x => [sA x])), (i.lk, .rows 9 1 (a.lk.map fun x => [sA x]))] (GP (fun _ : Ids => mkRes []) (fun i => [(g, .rows 91 13 [gcells p l (a.app (gaM p l ref)) i]), (i.cl, .rows 9 1 ((a.app (gaM p l ref)).cl.map fun x => [sA x])), (i.fd, .rows 46 2 ((a.app (gaM p l ref)).fd.map FRef.cells)), (i.md, .rows 25 3 ((a.app (gaM p l ref)).md.map MRef.cells)), (i.cn, .rows 9 1 ((a.app (gaM p l ref)).cn.map fun x => [sA x])), (i.fn, .rows 9 1 ((a.app (gaM p l ref)).fn.map fun x => [sA x])), (i.mn, .rows 9 1 ((a.app (gaM p l ref)).mn.map fun x => [sA x])), (i.lk, .rows 9 1 ((a.app (gaM p l ref)).lk.map fun x => [sA x]))]) (fun _ => True)) := by
 have q1 := ha.cl
 have q2 := ha.fd
 have q3 := ha.md
 have q4 := ha.cn
 have q5 := ha.fn
 have q6 := ha.mn
 have q7 := ha.lk
 have hq1 := hq.cls
 have hq2 := hq.name
 have hq3 := hq.desc
 refine Zd (n := 93) Tryz.func91 rfl (by decide +kernel) rfl rfl ?_
 refine qS (qR ?_)
 refine Zy (w0 rfl) rfl (fun id => Z09 id rfl rfl rfl rfl rfl) (fun id1 => ?_)
 refine qN (qS ?_)
 refine Z13 [0, 1, 3, 7, 0, 31, 63, 127, 127, 0, 0, 1791, 4095] [11, 12] [3, 4, 9, 10] rfl (by kernel_rfl) ?_
 refine Zh (w0 rfl) rfl (Z06 rfl rfl) rfl ?_
 refine Zh (w0 rfl) rfl (Z02 rfl rfl rfl) rfl ?_
 refine Zh (w0 rfl) rfl (Z0 rfl rfl rfl) rfl ?_
 refine Zl 1 (w0 rfl) rfl rfl rfl rfl rfl (Zt (Nat.le_of_ble_eq_true rfl)) rfl rfl ?_
 refine Zl 0 (w0 rfl) rfl rfl rfl rfl rfl (Zt (Nat.le_of_ble_eq_true rfl)) rfl rfl ?_
 refine Zh (w0 rfl) rfl (Z8 [] rfl rfl rfl (Zgz p hp ref) List.nodup_nil) rfl ?_
 refine Zh (w0 rfl) rfl (Z06 rfl rfl) rfl ?_
 refine Zh (w0 rfl) rfl (Zi rfl rfl rfl) rfl ?_
 refine Zh (w0 rfl) rfl (Zi rfl rfl rfl) rfl ?_
 refine Z1e (w0 rfl) rfl (fun id => Z0b id rfl rfl rfl) rfl rfl (fun id2 => ?_)
 refine Z1e (w0 rfl) rfl (fun id => Z0b id rfl rfl rfl) rfl rfl (fun id3 => ?_)
 refine Z0t 1 [] (w0 rfl) rfl rfl rfl rfl rfl rfl rfl rfl rfl rfl trivial ?_
 refine Z0t 0 [] (w0 rfl) rfl rfl rfl rfl rfl rfl rfl rfl rfl rfl trivial ?_
 refine .done (qS (qR (qM ?_)))
 refine qe (Z02 rfl rfl rfl) ?_
 refine qe (Z0 rfl rfl rfl) ?_
 refine qL 3 Z3 ?_
 refine qe (Z1k rfl rfl) ?_
 refine Z16 [_, _] _ (w0 rfl) rfl rfl rfl rfl (Z2q [0, 1] rfl) (Zbk l hl 123 _ _ (mHold p ref) (fun r hm => Zbg _ ref hq1 hq2 hq3 id3 id1 r (hr r hm))) ?_
 refine qM ?_
 refine qe (Zi rfl rfl rfl) ?_
 refine qe (Zi rfl rfl rfl) ?_
 refine qA (qA (qN (qS (qS (qR (qM (qN ?_)))))))
 refine Z2 rfl ?_ ?_
 ·intro hc
  have t1 : anyR l (mHold p ref) = true := hc
  have e1 := fun {α : Type} (x : α) => Z60 t1 x
  refine qS ?_
  refine Z13 [0, 0, 2, 6, 14, 30, 0, 64, 254, 511, 1023, 2047, 4095] [8, 12] [5, 6, 7] rfl (by kernel_rfl) ?_
  refine Zh (w0 rfl) rfl (Z06 rfl rfl) rfl ?_
  refine Zh (w0 rfl) rfl (Z06 rfl rfl) rfl ?_
  refine Zh (w0 rfl) rfl (Z02 rfl rfl rfl) rfl ?_
  refine Zh (w0 rfl) rfl (Z0 rfl rfl rfl) rfl ?_
  refine Zh (w0 rfl) rfl (Z0 rfl rfl rfl) rfl ?_
  refine Zl 3 (w0 rfl) rfl rfl rfl rfl rfl Z3 rfl rfl ?_
  refine Zl 2 (w0 rfl) rfl rfl rfl rfl rfl (Zt (Nat.le_of_ble_eq_true rfl)) rfl rfl ?_
  refine Z1e (w0 rfl) rfl (fun id => Zo id (ps := [(0, .tmp 33)]) rfl rfl rfl rfl rfl rfl rfl rfl) rfl rfl (fun id4 => ?_)
  refine Z0v 7 [] (w0 rfl) rfl rfl rfl rfl (by simp) rfl ⟨rfl, _, _, List.mem_of_getElem? (i := 0) rfl, by simp, rfl⟩ (by first | omega | (simp; omega) | (simp [maxLen]; omega) | (simp; done) | (simp [maxLen]; done)) (by first | omega | (simp; omega) | (simp [maxLen]; omega) | (simp; done) | (simp [maxLen]; done)) rfl (fun _ => trivial) (fun id5 => ?_)
  refine Zh (w0 rfl) rfl (Z02 rfl rfl rfl) rfl ?_
  refine Zh (w0 rfl) rfl (Z0 rfl rfl rfl) rfl ?_
  refine Zh (w0 rfl) rfl (Z0 rfl rfl rfl) rfl ?_
  refine Z0t 4 [] (w0 rfl) rfl rfl rfl rfl rfl rfl rfl rfl rfl rfl trivial ?_
  refine .done (qS ?_)
  refine Z13 [0, 0, 2, 6, 14, 30, 0, 64, 192, 510, 1023, 2047, 4095, 8191] [9, 13] [5, 7, 8] rfl (by kernel_rfl) ?_
  refine Zh (w0 rfl) rfl (Z06 rfl rfl) rfl ?_
  refine Zh (w0 rfl) rfl (Z06 rfl rfl) rfl ?_
  refine Zh (w0 rfl) rfl (Z02 rfl rfl rfl) rfl ?_
  refine Zh (w0 rfl) rfl (Z0 rfl rfl rfl) rfl ?_
  refine Zh (w0 rfl) rfl (Z0 rfl rfl rfl) rfl ?_
  refine Zl 4 (w0 rfl) rfl rfl rfl rfl rfl Z3 rfl rfl ?_
  refine Zh (w0 rfl) rfl (Z0 rfl rfl rfl) rfl ?_
  refine Zl 3 (w0 rfl) rfl rfl rfl rfl rfl Z3 rfl rfl ?_
  refine Z1e (w0 rfl) rfl (fun id => Zo id (ps := [(0, .tmp 46)]) rfl rfl rfl rfl rfl rfl rfl rfl) rfl rfl (fun id6 => ?_)
  refine Z0v 6 [] (w0 rfl) rfl rfl rfl rfl (by simp) rfl ⟨rfl, _, _, List.mem_of_getElem? (i := 0) rfl, by simp, rfl⟩ (by first | omega | (simp; omega) | (simp [maxLen]; omega) | (simp; done) | (simp [maxLen]; done)) (by first | omega | (simp; omega) | (simp [maxLen]; omega) | (simp; done) | (simp [maxLen]; done)) rfl (fun _ => trivial) (fun id7 => ?_)
  refine Zh (w0 rfl) rfl (Z02 rfl rfl rfl) rfl ?_
  refine Zh (w0 rfl) rfl (Z0 rfl rfl rfl) rfl ?_
  refine Zh (w0 rfl) rfl (Z0 rfl rfl rfl) rfl ?_
  refine Z0t 5 [] (w0 rfl) rfl rfl rfl rfl rfl rfl rfl rfl rfl rfl trivial ?_
  refine .done (qS (qR ?_))
  refine qe (Z0 rfl rfl rfl) ?_
  refine qL 3 Z3 ?_
  refine qM ?_
  refine Zp (wT rfl rfl rfl rfl) rfl (fun hg => (Z0 rfl rfl rfl)) ?_
  refine Z00 4 (wT rfl rfl rfl rfl) rfl rfl (fun hg => (Ze hg rfl)) rfl rfl Z3 ?_
  refine Zp (wT rfl rfl rfl rfl) rfl (fun hg => (Z0o rfl (Ze hg rfl) rfl rfl)) ?_
  refine qe (Zs rfl rfl rfl (fun h => h)) ?_
  refine qN ?_
  refine Z2 rfl ?_ ?_
  ·intro hc
   have t3 : (((getP p ref).getD zMt).static && beqS ref.desc nAsk) = true := hc
   have e3 := fun {α : Type} (x : α) => Z60 (show (anyR l (mHold p ref) && (((getP p ref).getD zMt).static && beqS ref.desc nAsk)) = true by rw [t1, t3]; rfl) x
   refine Z13 [0, 0, 2, 6, 14, 30, 0, 64, 192, 0, 512, 1984, 4032, 8190, 16383, 32767, 65535, 131071] [13, 17] [5, 7, 10, 12] rfl (by kernel_rfl) ?_
   refine Zh (w0 rfl) rfl (Z06 rfl rfl) rfl ?_
   refine Zh (w0 rfl) rfl (Z06 rfl rfl) rfl ?_
   refine Zh (w0 rfl) rfl (Z02 rfl rfl rfl) rfl ?_
   refine Zh (w0 rfl) rfl (Z0 rfl rfl rfl) rfl ?_
   refine Zh (w0 rfl) rfl (Z0 rfl rfl rfl) rfl ?_
   refine Zl 5 (w0 rfl) rfl rfl rfl rfl rfl Z3 rfl rfl ?_
   refine Zh (w0 rfl) rfl (Z0 rfl rfl rfl) rfl ?_
   refine Zl 4 (w0 rfl) rfl rfl rfl rfl rfl Z3 rfl rfl ?_
   refine Zh (w0 rfl) rfl (Z12 rfl rfl rfl (by have k0 : ByteArray.size ⟨#[40, 41, 73]⟩ = 3 := rfl; have k1 : ByteArray.size ⟨#[46]⟩ = 1 := rfl; (try simp only [ByteArray.size_append, small] at *) <;> omega)) rfl ?_
   refine Zh (w0 rfl) rfl (Z0 rfl rfl rfl) rfl ?_
   refine Zl 4 (w0 rfl) rfl rfl rfl rfl rfl Z3 rfl rfl ?_
   refine Zh (w0 rfl) rfl (Z12 rfl rfl rfl (by have k0 : ByteArray.size ⟨#[40, 41, 73]⟩ = 3 := rfl; have k1 : ByteArray.size ⟨#[46]⟩ = 1 := rfl; (try simp only [ByteArray.size_append, small] at *) <;> omega)) rfl ?_
   refine Z1e (w0 rfl) rfl (fun id => Zo id (ps := [(0, .tmp 70)]) rfl rfl rfl rfl rfl rfl rfl rfl) rfl rfl (fun id8 => ?_)
   refine Z0v 13 [] (w0 rfl) rfl rfl rfl rfl (by simp) rfl ⟨rfl, _, _, List.mem_of_getElem? (i := 0) rfl, by simp, rfl⟩ (by first | omega | (simp; omega) | (simp [maxLen]; omega) | (simp; done) | (simp [maxLen]; done)) (by first | omega | (simp; omega) | (simp [maxLen]; omega) | (simp; done) | (simp [maxLen]; done)) rfl (fun _ => trivial) (fun id9 => ?_)
   refine Zh (w0 rfl) rfl (Z02 rfl rfl rfl) rfl ?_
   refine Zh (w0 rfl) rfl (Z0 rfl rfl rfl) rfl ?_
   refine Zh (w0 rfl) rfl (Z0 rfl rfl rfl) rfl ?_
   refine Z0t 6 [] (w0 rfl) rfl rfl rfl rfl rfl rfl rfl rfl rfl rfl trivial ?_
   refine .done (qS (qR (qM (qN ?_))))
   refine Z2 rfl ?_ ?_
   ·intro hc
    have t2 : nmsR l (mHold p ref) = true := hc
    have e2 := fun {α : Type} (x : α) => Z60 t2 x
    refine Z13 [0, 0, 2, 6, 14, 30, 0, 64, 0, 256, 960, 1984, 4094, 8191, 16383, 32767, 65535] [12, 16] [5, 7, 9, 11] rfl (by kernel_rfl) ?_
    refine Zh (w0 rfl) rfl (Z06 rfl rfl) rfl ?_
    refine Zh (w0 rfl) rfl (Z06 rfl rfl) rfl ?_
    refine Zh (w0 rfl) rfl (Z02 rfl rfl rfl) rfl ?_
    refine Zh (w0 rfl) rfl (Z0 rfl rfl rfl) rfl ?_
    refine Zh (w0 rfl) rfl (Z0 rfl rfl rfl) rfl ?_
    refine Zl 6 (w0 rfl) rfl rfl rfl rfl rfl Z3 rfl rfl ?_
    refine Zh (w0 rfl) rfl (Z0 rfl rfl rfl) rfl ?_
    refine Zl 5 (w0 rfl) rfl rfl rfl rfl rfl Z3 rfl rfl ?_
    refine Zh (w0 rfl) rfl (Z0 rfl rfl rfl) rfl ?_
    refine Zl 5 (w0 rfl) rfl rfl rfl rfl rfl Z3 rfl rfl ?_
    refine Zh (w0 rfl) rfl (Z12 rfl rfl rfl (by have k0 : ByteArray.size ⟨#[40, 41, 73]⟩ = 3 := rfl; have k1 : ByteArray.size ⟨#[46]⟩ = 1 := rfl; (try simp only [ByteArray.size_append, small] at *) <;> omega)) rfl ?_
    refine Z1e (w0 rfl) rfl (fun id => Zo id (ps := [(0, .tmp 87)]) rfl rfl rfl rfl rfl rfl rfl rfl) rfl rfl (fun id10 => ?_)
    refine Z0v 13 [] (w0 rfl) rfl rfl rfl rfl (by simp) rfl ⟨rfl, _, _, List.mem_of_getElem? (i := 0) rfl, by simp, rfl⟩ (by first | omega | (simp; omega) | (simp [maxLen]; omega) | (simp; done) | (simp [maxLen]; done)) (by first | omega | (simp; omega) | (simp [maxLen]; omega) | (simp; done) | (simp [maxLen]; done)) rfl (fun _ => trivial) (fun id11 => ?_)
    refine Zh (w0 rfl) rfl (Z02 rfl rfl rfl) rfl ?_
    refine Zh (w0 rfl) rfl (Z0 rfl rfl rfl) rfl ?_
    refine Zh (w0 rfl) rfl (Z0 rfl rfl rfl) rfl ?_
    refine Z0t 7 [] (w0 rfl) rfl rfl rfl rfl rfl rfl rfl rfl rfl rfl trivial ?_
    refine .done ?_
    exact Zf rfl Z4 (.cons _ (.cons _ (.cons _ (.cons _ (.cons _ (.cons _ (.cons _ (.cons_cons _ (.cons_cons _ (.cons_cons _ (.cons_cons _ (.cons_cons _ (.cons_cons _ (.cons_cons _ (.cons_cons _ .slnil))))))))))))))) (gp ⟨id7, i.fd, id5, i.cn, i.fn, id11, id9⟩ trivial rfl (by show [(_, AObj.rows _ _ _), (_, AObj.rows _ _ _), (_, AObj.rows _ _ _), (_, AObj.rows _ _ _), (_, AObj.rows _ _ _), (_, AObj.rows _ _ _), (_, AObj.rows _ _ _), (_, AObj.rows _ _ _)] = [(_, AObj.rows _ _ _), (_, AObj.rows _ _ _), (_, AObj.rows _ _ _), (_, AObj.rows _ _ _), (_, AObj.rows _ _ _), (_, AObj.rows _ _ _), (_, AObj.rows _ _ _), (_, AObj.rows _ _ _)]; simp [gcells, Ga.app, cellsA, FRef.av, FRef.cells, MRef.av, MRef.cells, nDot, gaM, e1, e2, e3]))
   ·intro hc
    have t2 : nmsR l (mHold p ref) = false := hc
    have e2 := fun {α : Type} (x : α) => Z82 t2 x
    refine qK ?_
    exact Zf rfl Z4 (.cons _ (.cons _ (.cons _ (.cons _ (.cons _ (.cons _ (.cons_cons _ (.cons_cons _ (.cons_cons _ (.cons_cons _ (.cons_cons _ (.cons_cons _ (.cons_cons _ (.cons_cons _ .slnil)))))))))))))) (gp ⟨id7, i.fd, id5, i.cn, i.fn, i.mn, id9⟩ trivial rfl (by show [(_, AObj.rows _ _ _), (_, AObj.rows _ _ _), (_, AObj.rows _ _ _), (_, AObj.rows _ _ _), (_, AObj.rows _ _ _), (_, AObj.rows _ _ _), (_, AObj.rows _ _ _), (_, AObj.rows _ _ _)] = [(_, AObj.rows _ _ _), (_, AObj.rows _ _ _), (_, AObj.rows _ _ _), (_, AObj.rows _ _ _), (_, AObj.rows _ _ _), (_, AObj.rows _ _ _), (_, AObj.rows _ _ _), (_, AObj.rows _ _ _)]; simp [gcells, Ga.app, cellsA, FRef.av, FRef.cells, MRef.av, MRef.cells, nDot, gaM, e1, e2, e3]))
  ·intro hc
   have t3 : (((getP p ref).getD zMt).static && beqS ref.desc nAsk) = false := hc
   have e3 := fun {α : Type} (x : α) => Z82 (show (anyR l (mHold p ref) && (((getP p ref).getD zMt).static && beqS ref.desc nAsk)) = false by rw [t1, t3]; rfl) x
   refine qK (qS (qR (qM (qN ?_))))
   refine Z2 rfl ?_ ?_
   ·intro hc
    have t2 : nmsR l (mHold p ref) = true := hc
    have e2 := fun {α : Type} (x : α) => Z60 t2 x
    refine Z13 [0, 0, 2, 6, 14, 30, 0, 64, 0, 256, 960, 1984, 4094, 8191, 16383, 32767, 65535] [12, 16] [5, 7, 9, 11] rfl (by kernel_rfl) ?_
    refine Zh (w0 rfl) rfl (Z06 rfl rfl) rfl ?_
    refine Zh (w0 rfl) rfl (Z06 rfl rfl) rfl ?_
    refine Zh (w0 rfl) rfl (Z02 rfl rfl rfl) rfl ?_
    refine Zh (w0 rfl) rfl (Z0 rfl rfl rfl) rfl ?_
    refine Zh (w0 rfl) rfl (Z0 rfl rfl rfl) rfl ?_
    refine Zl 5 (w0 rfl) rfl rfl rfl rfl rfl Z3 rfl rfl ?_
    refine Zh (w0 rfl) rfl (Z0 rfl rfl rfl) rfl ?_
    refine Zl 4 (w0 rfl) rfl rfl rfl rfl rfl Z3 rfl rfl ?_
    refine Zh (w0 rfl) rfl (Z0 rfl rfl rfl) rfl ?_
    refine Zl 4 (w0 rfl) rfl rfl rfl rfl rfl Z3 rfl rfl ?_
    refine Zh (w0 rfl) rfl (Z12 rfl rfl rfl (by have k0 : ByteArray.size ⟨#[40, 41, 73]⟩ = 3 := rfl; have k1 : ByteArray.size ⟨#[46]⟩ = 1 := rfl; (try simp only [ByteArray.size_append, small] at *) <;> omega)) rfl ?_
    refine Z1e (w0 rfl) rfl (fun id => Zo id (ps := [(0, .tmp 87)]) rfl rfl rfl rfl rfl rfl rfl rfl) rfl rfl (fun id12 => ?_)
    refine Z0v 12 [] (w0 rfl) rfl rfl rfl rfl (by simp) rfl ⟨rfl, _, _, List.mem_of_getElem? (i := 0) rfl, by simp, rfl⟩ (by first | omega | (simp; omega) | (simp [maxLen]; omega) | (simp; done) | (simp [maxLen]; done)) (by first | omega | (simp; omega) | (simp [maxLen]; omega) | (simp; done) | (simp [maxLen]; done)) rfl (fun _ => trivial) (fun id13 => ?_)
    refine Zh (w0 rfl) rfl (Z02 rfl rfl rfl) rfl ?_
    refine Zh (w0 rfl) rfl (Z0 rfl rfl rfl) rfl ?_
    refine Zh (w0 rfl) rfl (Z0 rfl rfl rfl) rfl ?_
    refine Z0t 6 [] (w0 rfl) rfl rfl rfl rfl rfl rfl rfl rfl rfl rfl trivial ?_
    refine .done ?_
    exact Zf rfl Z4 (.cons _ (.cons _ (.cons _ (.cons _ (.cons _ (.cons _ (.cons_cons _ (.cons_cons _ (.cons_cons _ (.cons_cons _ (.cons_cons _ (.cons_cons _ (.cons_cons _ (.cons_cons _ .slnil)))))))))))))) (gp ⟨id7, i.fd, id5, i.cn, i.fn, id13, i.lk⟩ trivial rfl (by show [(_, AObj.rows _ _ _), (_, AObj.rows _ _ _), (_, AObj.rows _ _ _), (_, AObj.rows _ _ _), (_, AObj.rows _ _ _), (_, AObj.rows _ _ _), (_, AObj.rows _ _ _), (_, AObj.rows _ _ _)] = [(_, AObj.rows _ _ _), (_, AObj.rows _ _ _), (_, AObj.rows _ _ _), (_, AObj.rows _ _ _), (_, AObj.rows _ _ _), (_, AObj.rows _ _ _), (_, AObj.rows _ _ _), (_, AObj.rows _ _ _)]; simp [gcells, Ga.app, cellsA, FRef.av, FRef.cells, MRef.av, MRef.cells, nDot, gaM, e1, e2, e3]))
   ·intro hc
    have t2 : nmsR l (mHold p ref) = false := hc
    have e2 := fun {α : Type} (x : α) => Z82 t2 x
    refine qK ?_
    exact Zf rfl Z4 (.cons _ (.cons _ (.cons _ (.cons _ (.cons _ (.cons_cons _ (.cons_cons _ (.cons_cons _ (.cons_cons _ (.cons_cons _ (.cons_cons _ (.cons_cons _ (.cons_cons _ .slnil))))))))))))) (gp ⟨id7, i.fd, id5, i.cn, i.fn, i.mn, i.lk⟩ trivial rfl (by show [(_, AObj.rows _ _ _), (_, AObj.rows _ _ _), (_, AObj.rows _ _ _), (_, AObj.rows _ _ _), (_, AObj.rows _ _ _), (_, AObj.rows _ _ _), (_, AObj.rows _ _ _), (_, AObj.rows _ _ _)] = [(_, AObj.rows _ _ _), (_, AObj.rows _ _ _), (_, AObj.rows _ _ _), (_, AObj.rows _ _ _), (_, AObj.rows _ _ _), (_, AObj.rows _ _ _), (_, AObj.rows _ _ _), (_, AObj.rows _ _ _)]; simp [gcells, Ga.app, cellsA, FRef.av, FRef.cells, MRef.av, MRef.cells, nDot, gaM, e1, e2, e3]))
 ·intro hc
  have t1 : anyR l (mHold p ref) = false := hc
  have e1 := fun {α : Type} (x : α) => Z82 t1 x
  have e3 := fun {α : Type} (x : α) => Z82 (show (anyR l (mHold p ref) && (((getP p ref).getD zMt).static && beqS ref.desc nAsk)) = false by rw [t1]; rfl) x
  refine qK (qS (qR (qM (qN ?_))))
  refine Z2 rfl ?_ ?_
  ·intro hc
   have t2 : nmsR l (mHold p ref) = true := hc
   have e2 := fun {α : Type} (x : α) => Z60 t2 x
   refine Z13 [0, 0, 2, 6, 14, 30, 0, 64, 0, 256, 960, 1984, 4094, 8191, 16383, 32767, 65535] [12, 16] [5, 7, 9, 11] rfl (by kernel_rfl) ?_
   refine Zh (w0 rfl) rfl (Z06 rfl rfl) rfl ?_
   refine Zh (w0 rfl) rfl (Z06 rfl rfl) rfl ?_
   refine Zh (w0 rfl) rfl (Z02 rfl rfl rfl) rfl ?_
   refine Zh (w0 rfl) rfl (Z0 rfl rfl rfl) rfl ?_
   refine Zh (w0 rfl) rfl (Z0 rfl rfl rfl) rfl ?_
   refine Zl 3 (w0 rfl) rfl rfl rfl rfl rfl Z3 rfl rfl ?_
   refine Zh (w0 rfl) rfl (Z0 rfl rfl rfl) rfl ?_
   refine Zl 2 (w0 rfl) rfl rfl rfl rfl rfl Z3 rfl rfl ?_
   refine Zh (w0 rfl) rfl (Z0 rfl rfl rfl) rfl ?_
   refine Zl 2 (w0 rfl) rfl rfl rfl rfl rfl Z3 rfl rfl ?_
   refine Zh (w0 rfl) rfl (Z12 rfl rfl rfl (by have k0 : ByteArray.size ⟨#[40, 41, 73]⟩ = 3 := rfl; have k1 : ByteArray.size ⟨#[46]⟩ = 1 := rfl; (try simp only [ByteArray.size_append, small] at *) <;> omega)) rfl ?_
   refine Z1e (w0 rfl) rfl (fun id => Zo id (ps := [(0, .tmp 87)]) rfl rfl rfl rfl rfl rfl rfl rfl) rfl rfl (fun id14 => ?_)
   refine Z0v 10 [] (w0 rfl) rfl rfl rfl rfl (by simp) rfl ⟨rfl, _, _, List.mem_of_getElem? (i := 0) rfl, by simp, rfl⟩ (by first | omega | (simp; omega) | (simp [maxLen]; omega) | (simp; done) | (simp [maxLen]; done)) (by first | omega | (simp; omega) | (simp [maxLen]; omega) | (simp; done) | (simp [maxLen]; done)) rfl (fun _ => trivial) (fun id15 => ?_)
   refine Zh (w0 rfl) rfl (Z02 rfl rfl rfl) rfl ?_
   refine Zh (w0 rfl) rfl (Z0 rfl rfl rfl) rfl ?_
   refine Zh (w0 rfl) rfl (Z0 rfl rfl rfl) rfl ?_
   refine Z0t 4 [] (w0 rfl) rfl rfl rfl rfl rfl rfl rfl rfl rfl rfl trivial ?_
   refine .done ?_
   exact Zf rfl Z4 (.cons _ (.cons _ (.cons _ (.cons _ (.cons_cons _ (.cons_cons _ (.cons_cons _ (.cons_cons _ (.cons_cons _ (.cons_cons _ (.cons_cons _ (.cons_cons _ .slnil)))))))))))) (gp ⟨i.cl, i.fd, i.md, i.cn, i.fn, id15, i.lk⟩ trivial rfl (by show [(_, AObj.rows _ _ _), (_, AObj.rows _ _ _), (_, AObj.rows _ _ _), (_, AObj.rows _ _ _), (_, AObj.rows _ _ _), (_, AObj.rows _ _ _), (_, AObj.rows _ _ _), (_, AObj.rows _ _ _)] = [(_, AObj.rows _ _ _), (_, AObj.rows _ _ _), (_, AObj.rows _ _ _), (_, AObj.rows _ _ _), (_, AObj.rows _ _ _), (_, AObj.rows _ _ _), (_, AObj.rows _ _ _), (_, AObj.rows _ _ _)]; simp [gcells, Ga.app, cellsA, FRef.av, FRef.cells, MRef.av, MRef.cells, nDot, gaM, e1, e2, e3]))
  ·intro hc
   have t2 : nmsR l (mHold p ref) = false := hc
   have e2 := fun {α : Type} (x : α) => Z82 t2 x
   refine qK ?_
   exact Zf rfl Z4 (.cons _ (.cons _ (.cons _ (.cons_cons _ (.cons_cons _ (.cons_cons _ (.cons_cons _ (.cons_cons _ (.cons_cons _ (.cons_cons _ (.cons_cons _ .slnil))))))))))) (gp ⟨i.cl, i.fd, i.md, i.cn, i.fn, i.mn, i.lk⟩ trivial rfl (by show [(_, AObj.rows _ _ _), (_, AObj.rows _ _ _), (_, AObj.rows _ _ _), (_, AObj.rows _ _ _), (_, AObj.rows _ _ _), (_, AObj.rows _ _ _), (_, AObj.rows _ _ _), (_, AObj.rows _ _ _)] = [(_, AObj.rows _ _ _), (_, AObj.rows _ _ _), (_, AObj.rows _ _ _), (_, AObj.rows _ _ _), (_, AObj.rows _ _ _), (_, AObj.rows _ _ _), (_, AObj.rows _ _ _), (_, AObj.rows _ _ _)]; simp [gcells, Ga.app, cellsA, FRef.av, FRef.cells, MRef.av, MRef.cells, nDot, gaM, e1, e2, e3]))
end Go.Sx
namespace Go.Sx
open Go
variable {P : Program} {ro : Option Nat} {Q : Exit → St → Prop} {s : St}
theorem Z52 {x y : Code} {α : Type} (inv : α → St) (J : α → Prop) (h : AWp P ro x (thenQ (fun s' => ∃ a, J a ∧ Weak s' (inv a)) Q) s) (hy : ∀ a, J a → AWp P ro y Q (inv a)) : AWp P ro (.seq x y) Q s :=
 Zb8 (Z9d h (by
  intro e s h
  cases e with
  | normal => obtain ⟨a, ja, hw⟩ := h; exact Z10 hw (hy a ja)
  | _ => exact h))
end Go.Sx
namespace Go.Sx
open Go Go.Proofs
def gaK1 (l : List Rule) (c : Cls) : Ga := ⟨okB (anyR l (clsR · c.name)) c.name, [], [], [], [], [], []⟩
theorem Zg3 (l : List Rule) (c : Cls) : (gaK1 l c).bd 1 := ⟨Z2w _ _, Nat.zero_le _, Nat.zero_le _, Nat.zero_le _, Nat.zero_le _, Nat.zero_le _, Nat.zero_le _⟩
def gaFN (p : Prog) (l : List Rule) (a : Ga) (c : Cls) (n : Nat) : Ga := (a.app (gaK l c)).app (Ga.sum ((c.fields.take n).map fun f : Fld => gaF textT p l ⟨c.name, f.name⟩))
def gaMN (p : Prog) (l : List Rule) (a : Ga) (c : Cls) (n : Nat) : Ga := ((a.app (gaK l c)).app (Ga.sum (gaFs textT p l c))).app (Ga.sum ((c.methods.take n).map fun m : Meth => gaM p l ⟨c.name, m.name, m.desc⟩))
theorem Z7x (p : Prog) (l : List Rule) (a : Ga) (c : Cls) : gaFN p l a c 0 = a.app (gaK l c) := Ga.app_nil _
theorem Zc7 (p : Prog) (l : List Rule) (a : Ga) (c : Cls) {n : Nat} (h : n < c.fields.length) : gaFN p l a c (n + 1) = (gaFN p l a c n).app (gaF textT p l ⟨c.name, c.fields[n].name⟩) := Ga.sum_take h _
theorem Zeg (p : Prog) (l : List Rule) (a : Ga) (c : Cls) {n : Nat} (h : ¬ n < c.fields.length) : gaFN p l a c n = gaMN p l a c 0 := by
 unfold gaFN gaMN gaFs; rw [List.take_of_length_le (by omega)]; exact (Ga.app_nil _).symm
theorem Zca (p : Prog) (l : List Rule) (a : Ga) (c : Cls) {n : Nat} (h : n < c.methods.length) : gaMN p l a c (n + 1) = (gaMN p l a c n).app (gaM p l ⟨c.name, c.methods[n].name, c.methods[n].desc⟩) := Ga.sum_take h _
theorem Zeh (p : Prog) (l : List Rule) (a : Ga) (c : Cls) {n : Nat} (h : ¬ n < c.methods.length) : gaMN p l a c n = a.app (gaC textT p l c) := by
 unfold gaMN; rw [List.take_of_length_le (by omega), gaC]; simp only [Ga.app_assoc]; rfl
theorem Zg2 (p : Prog) (l : List Rule) {a : Ga} (ha : a.bd 500000) (c : Cls) (hf4 : c.fields.length ≤ 40) (n : Nat) : (gaFN p l a c n).bd 1000000 :=
 Ga.bd_le (Ga.bd_app (Ga.bd_app ha (Zc9 l c)) (Ga.bd_sum (m := 1) (fun f => Zc8 _ _ _ _) _)) (by rw [List.length_take]; omega)
theorem Zg4 (p : Prog) (l : List Rule) {a : Ga} (ha : a.bd 500000) (c : Cls) (hf4 : c.fields.length ≤ 40) (hm4 : c.methods.length ≤ 40) (n : Nat) : (gaMN p l a c n).bd 1000000 :=
 Ga.bd_le (Ga.bd_app (Ga.bd_app (Ga.bd_app ha (Zc9 l c)) (Ga.bd_sum (m := 1) (fun f => Zc8 _ _ _ _) _)) (Ga.bd_sum (m := 1) (fun f => Zf3 _ _ _) _)) (by rw [List.length_take]; omega)
theorem Zdr (p : Prog) (hp : p.ok) (l : List Rule) (hl : small l.length) (hr : ∀ r, r ∈ l → r.ok) (a : Ga) (ha : a.bd 500000) (i : Ids) (g : Nat) (c : Cls) (hc0 : c.ok) (hf4 : c.fields.length ≤ 40) (hm4 : c.methods.length ≤ 40) : ACalls Tryz.prog 49 [.ptr g 13 0 0, c.av] [(g, .rows 91 13 [gcells p l a i]), (i.cl, .rows 9 1 (a.cl.map fun x => [sA x])), (i.fd, .rows 46 2 (a.fd.map FRef.cells)), (i.md, .rows 25 3 (a.md.map MRef.cells)), (i.cn, .rows 9 1 (a.cn.map fun x => [sA x])), (i.fn, .rows 9 1 (a.fn.map fun x => [sA x])), (i.mn, .rows 9 1 (a.mn.map fun x => [sA x])), (i.lk, .rows 9 1 (a.lk.map fun x => [sA x]))] (GP (fun _ : Ids => mkRes []) (fun i => [(g, .rows 91 13 [gcells p l (a.app (gaC textT p l c)) i]), (i.cl, .rows 9 1 ((a.app (gaC textT p l c)).cl.map fun x => [sA x])), (i.fd, .rows 46 2 ((a.app (gaC textT p l c)).fd.map FRef.cells)), (i.md, .rows 25 3 ((a.app (gaC textT p l c)).md.map MRef.cells)), (i.cn, .rows 9 1 ((a.app (gaC textT p l c)).cn.map fun x => [sA x])), (i.fn, .rows 9 1 ((a.app (gaC textT p l c)).fn.map fun x => [sA x])), (i.mn, .rows 9 1 ((a.app (gaC textT p l c)).mn.map fun x => [sA x])), (i.lk, .rows 9 1 ((a.app (gaC textT p l c)).lk.map fun x => [sA x]))]) (fun _ => True)) := by
 have hcn := hc0.name
 have hcf := hc0.fields.2
 have hcm := hc0.methods.2
 simp only [small] at hcn
 have q1 := ha.cl
 have q2 := ha.fd
 have q3 := ha.md
 have q4 := ha.cn
 have q5 := ha.fn
 have q6 := ha.mn
 have q7 := ha.lk
 refine Zd (n := 79) Tryz.func49 rfl (by decide +kernel) rfl rfl ?_
 refine qS (qR ?_)
 refine Zy (w0 rfl) rfl (fun id => Z09 id rfl rfl rfl rfl rfl) (fun id1 => ?_)
 refine qN (qS (qR (qM ?_)))
 refine qe (Z02 rfl rfl rfl) ?_
 refine qe (Z0 rfl rfl rfl) ?_
 refine qL 1 Z3 ?_
 refine qe (Z1k rfl rfl) ?_
 refine Z16 [_] _ (w0 rfl) rfl rfl rfl rfl (Z2q [0] rfl) (Zbk l hl 88 _ _ (clsR · c.name) (fun r hm => Zfe c hc0.name id1 r (hr r hm))) ?_
 refine qM ?_
 refine qe (Zi rfl rfl rfl) ?_
 refine qe (Zi rfl rfl rfl) ?_
 refine qA (qA (qN ?_))
 refine Z52 (α := Ids) (fun j1 => ⟨[(0, .ptr g 13 0 0), (3, .ptr id1 7 0 0), (5, bA (nmsR l (clsR · c.name)))], [(g, .rows 91 13 [gcells p l (a.app (gaK1 l c)) j1]), (j1.cl, .rows 9 1 ((a.app (gaK1 l c)).cl.map fun x => [sA x])), (j1.fd, .rows 46 2 ((a.app (gaK1 l c)).fd.map FRef.cells)), (j1.md, .rows 25 3 ((a.app (gaK1 l c)).md.map MRef.cells)), (j1.cn, .rows 9 1 ((a.app (gaK1 l c)).cn.map fun x => [sA x])), (j1.fn, .rows 9 1 ((a.app (gaK1 l c)).fn.map fun x => [sA x])), (j1.mn, .rows 9 1 ((a.app (gaK1 l c)).mn.map fun x => [sA x])), (j1.lk, .rows 9 1 ((a.app (gaK1 l c)).lk.map fun x => [sA x])), (id1, .rows 53 7 [c.cells])], [], 79⟩) (fun j1 => True) ?_ ?_
 ·skip
  refine qS (qR (qM (qN ?_)))
  refine Z2 rfl ?_ ?_
  ·intro hc
   have t1 : anyR l (clsR · c.name) = true := hc
   have e1 := fun {α : Type} (x : α) => Z60 t1 x
   refine Z13 [0, 0, 2, 6, 14, 30, 0, 64, 192, 510, 1023, 2047, 4095, 8191] [9, 13] [5, 7, 8] rfl (by kernel_rfl) ?_
   refine Zh (w0 rfl) rfl (Z06 rfl rfl) rfl ?_
   refine Zh (w0 rfl) rfl (Z06 rfl rfl) rfl ?_
   refine Zh (w0 rfl) rfl (Z02 rfl rfl rfl) rfl ?_
   refine Zh (w0 rfl) rfl (Z0 rfl rfl rfl) rfl ?_
   refine Zh (w0 rfl) rfl (Z0 rfl rfl rfl) rfl ?_
   refine Zl 1 (w0 rfl) rfl rfl rfl rfl rfl Z3 rfl rfl ?_
   refine Zh (w0 rfl) rfl (Z0 rfl rfl rfl) rfl ?_
   refine Zl 0 (w0 rfl) rfl rfl rfl rfl rfl Z3 rfl rfl ?_
   refine Z1e (w0 rfl) rfl (fun id => Zo id (ps := [(0, .tmp 27)]) rfl rfl rfl rfl rfl rfl rfl rfl) rfl rfl (fun id2 => ?_)
   refine Z0v 3 [] (w0 rfl) rfl rfl rfl rfl (by simp) rfl ⟨rfl, _, _, List.mem_of_getElem? (i := 0) rfl, by simp, rfl⟩ (by first | omega | (simp; omega) | (simp [maxLen]; omega) | (simp; done) | (simp [maxLen]; done)) (by first | omega | (simp; omega) | (simp [maxLen]; omega) | (simp; done) | (simp [maxLen]; done)) rfl (fun _ => trivial) (fun id3 => ?_)
   refine Zh (w0 rfl) rfl (Z02 rfl rfl rfl) rfl ?_
   refine Zh (w0 rfl) rfl (Z0 rfl rfl rfl) rfl ?_
   refine Zh (w0 rfl) rfl (Z0 rfl rfl rfl) rfl ?_
   refine Z0t 2 [] (w0 rfl) rfl rfl rfl rfl rfl rfl rfl rfl rfl rfl trivial ?_
   refine .done ?_
   refine ⟨⟨id3, i.fd, i.md, i.cn, i.fn, i.mn, i.lk⟩, trivial, ?_⟩
   exact Zb [2, 3, 4, 5, 6, 7, 8, 9, 1] ⟨rfl, rfl, rfl, trivial⟩ (by show some [(_, AObj.rows _ _ _), (_, AObj.rows _ _ _), (_, AObj.rows _ _ _), (_, AObj.rows _ _ _), (_, AObj.rows _ _ _), (_, AObj.rows _ _ _), (_, AObj.rows _ _ _), (_, AObj.rows _ _ _), (_, AObj.rows _ _ _)] = some [(_, AObj.rows _ _ _), (_, AObj.rows _ _ _), (_, AObj.rows _ _ _), (_, AObj.rows _ _ _), (_, AObj.rows _ _ _), (_, AObj.rows _ _ _), (_, AObj.rows _ _ _), (_, AObj.rows _ _ _), (_, AObj.rows _ _ _)]; simp [gcells, Ga.app, cellsA, Cls.av, Cls.cells, gaK1, e1]) (by decide) rfl rfl
  ·intro hc
   have t1 : anyR l (clsR · c.name) = false := hc
   have e1 := fun {α : Type} (x : α) => Z82 t1 x
   refine qK ?_
   refine ⟨⟨i.cl, i.fd, i.md, i.cn, i.fn, i.mn, i.lk⟩, trivial, ?_⟩
   exact Zb [1, 2, 3, 4, 5, 6, 7, 8, 0] ⟨rfl, rfl, rfl, trivial⟩ (by show some [(_, AObj.rows _ _ _), (_, AObj.rows _ _ _), (_, AObj.rows _ _ _), (_, AObj.rows _ _ _), (_, AObj.rows _ _ _), (_, AObj.rows _ _ _), (_, AObj.rows _ _ _), (_, AObj.rows _ _ _), (_, AObj.rows _ _ _)] = some [(_, AObj.rows _ _ _), (_, AObj.rows _ _ _), (_, AObj.rows _ _ _), (_, AObj.rows _ _ _), (_, AObj.rows _ _ _), (_, AObj.rows _ _ _), (_, AObj.rows _ _ _), (_, AObj.rows _ _ _), (_, AObj.rows _ _ _)]; simp [gcells, Ga.app, cellsA, Cls.av, Cls.cells, gaK1, e1]) (by decide) rfl rfl
 ·rintro j1 hJ
  have qk := Ga.bd_app ha (Zg3 l c)
  have q8 := qk.cn
  refine Z52 (α := Ids) (fun j2 => ⟨[(0, .ptr g 13 0 0), (3, .ptr id1 7 0 0)], [(g, .rows 91 13 [gcells p l (gaFN p l a c 0) j2]), (j2.cl, .rows 9 1 ((gaFN p l a c 0).cl.map fun x => [sA x])), (j2.fd, .rows 46 2 ((gaFN p l a c 0).fd.map FRef.cells)), (j2.md, .rows 25 3 ((gaFN p l a c 0).md.map MRef.cells)), (j2.cn, .rows 9 1 ((gaFN p l a c 0).cn.map fun x => [sA x])), (j2.fn, .rows 9 1 ((gaFN p l a c 0).fn.map fun x => [sA x])), (j2.mn, .rows 9 1 ((gaFN p l a c 0).mn.map fun x => [sA x])), (j2.lk, .rows 9 1 ((gaFN p l a c 0).lk.map fun x => [sA x])), (id1, .rows 53 7 [c.cells])], [], 79⟩) (fun j2 => True) ?_ ?_
  ·skip
   refine qS (qR (qM (qN ?_)))
   refine Z2 rfl ?_ ?_
   ·intro hc
    have t2 : nmsR l (clsR · c.name) = true := hc
    have e2 := fun {α : Type} (x : α) => Z60 t2 x
    refine Z13 [0, 0, 2, 6, 14, 30, 0, 64, 192, 510, 1023, 2047, 4095, 8191] [9, 13] [5, 7, 8] rfl (by kernel_rfl) ?_
    refine Zh (w0 rfl) rfl (Z06 rfl rfl) rfl ?_
    refine Zh (w0 rfl) rfl (Z06 rfl rfl) rfl ?_
    refine Zh (w0 rfl) rfl (Z02 rfl rfl rfl) rfl ?_
    refine Zh (w0 rfl) rfl (Z0 rfl rfl rfl) rfl ?_
    refine Zh (w0 rfl) rfl (Z0 rfl rfl rfl) rfl ?_
    refine Zl 0 (w0 rfl) rfl rfl rfl rfl rfl Z3 rfl rfl ?_
    refine Zh (w0 rfl) rfl (Z0 rfl rfl rfl) rfl ?_
    refine Zl 8 (w0 rfl) rfl rfl rfl rfl rfl Z3 rfl rfl ?_
    refine Z1e (w0 rfl) rfl (fun id => Zo id (ps := [(0, .tmp 41)]) rfl rfl rfl rfl rfl rfl rfl rfl) rfl rfl (fun id4 => ?_)
    refine Z0v 5 [] (w0 rfl) rfl rfl rfl rfl (by simp) rfl ⟨rfl, _, _, List.mem_of_getElem? (i := 0) rfl, by simp, rfl⟩ (by first | omega | (simp; omega) | (simp [maxLen]; omega) | (simp; done) | (simp [maxLen]; done)) (by first | omega | (simp; omega) | (simp [maxLen]; omega) | (simp; done) | (simp [maxLen]; done)) rfl (fun _ => trivial) (fun id5 => ?_)
    refine Zh (w0 rfl) rfl (Z02 rfl rfl rfl) rfl ?_
    refine Zh (w0 rfl) rfl (Z0 rfl rfl rfl) rfl ?_
    refine Zh (w0 rfl) rfl (Z0 rfl rfl rfl) rfl ?_
    refine Z0t 1 [] (w0 rfl) rfl rfl rfl rfl rfl rfl rfl rfl rfl rfl trivial ?_
    refine .done ?_
    refine ⟨⟨j1.cl, j1.fd, j1.md, id5, j1.fn, j1.mn, j1.lk⟩, trivial, ?_⟩
    exact Zb [1, 2, 3, 4, 5, 6, 7, 8, 9] ⟨rfl, rfl, trivial⟩ (by show some [(_, AObj.rows _ _ _), (_, AObj.rows _ _ _), (_, AObj.rows _ _ _), (_, AObj.rows _ _ _), (_, AObj.rows _ _ _), (_, AObj.rows _ _ _), (_, AObj.rows _ _ _), (_, AObj.rows _ _ _), (_, AObj.rows _ _ _)] = some [(_, AObj.rows _ _ _), (_, AObj.rows _ _ _), (_, AObj.rows _ _ _), (_, AObj.rows _ _ _), (_, AObj.rows _ _ _), (_, AObj.rows _ _ _), (_, AObj.rows _ _ _), (_, AObj.rows _ _ _), (_, AObj.rows _ _ _)]; rw [Z7x]; simp [gcells, Ga.app, cellsA, Cls.av, Cls.cells, gaK, gaK1, e2]) (by decide) rfl rfl
   ·intro hc
    have t2 : nmsR l (clsR · c.name) = false := hc
    have e2 := fun {α : Type} (x : α) => Z82 t2 x
    refine qK ?_
    refine ⟨⟨j1.cl, j1.fd, j1.md, j1.cn, j1.fn, j1.mn, j1.lk⟩, trivial, ?_⟩
    exact Zb [0, 1, 2, 3, 4, 5, 6, 7, 8] ⟨rfl, rfl, trivial⟩ (by show some [(_, AObj.rows _ _ _), (_, AObj.rows _ _ _), (_, AObj.rows _ _ _), (_, AObj.rows _ _ _), (_, AObj.rows _ _ _), (_, AObj.rows _ _ _), (_, AObj.rows _ _ _), (_, AObj.rows _ _ _), (_, AObj.rows _ _ _)] = some [(_, AObj.rows _ _ _), (_, AObj.rows _ _ _), (_, AObj.rows _ _ _), (_, AObj.rows _ _ _), (_, AObj.rows _ _ _), (_, AObj.rows _ _ _), (_, AObj.rows _ _ _), (_, AObj.rows _ _ _), (_, AObj.rows _ _ _)]; rw [Z7x]; simp [gcells, Ga.app, cellsA, Cls.av, Cls.cells, gaK, gaK1, e2]) (by decide) rfl rfl
  ·rintro j2 hJ
   refine qS (qS (qR ?_))
   refine qe (Z0 rfl rfl rfl) ?_
   refine qL 8 Z3 ?_
   refine qe (Zx rfl rfl rfl rfl) ?_
   refine qM (qN (qB ?_))
   refine Zj (α := Ids × Nat) (fun x => ⟨[(48, .lst (c.fields.map Fld.cells)), (49, iA c.fields.length), (50, iA x.2), (0, .ptr g 13 0 0), (3, .ptr id1 7 0 0)], [(g, .rows 91 13 [gcells p l (gaFN p l a c x.2) x.1]), (x.1.cl, .rows 9 1 ((gaFN p l a c x.2).cl.map fun x => [sA x])), (x.1.fd, .rows 46 2 ((gaFN p l a c x.2).fd.map FRef.cells)), (x.1.md, .rows 25 3 ((gaFN p l a c x.2).md.map MRef.cells)), (x.1.cn, .rows 9 1 ((gaFN p l a c x.2).cn.map fun x => [sA x])), (x.1.fn, .rows 9 1 ((gaFN p l a c x.2).fn.map fun x => [sA x])), (x.1.mn, .rows 9 1 ((gaFN p l a c x.2).mn.map fun x => [sA x])), (x.1.lk, .rows 9 1 ((gaFN p l a c x.2).lk.map fun x => [sA x])), (id1, .rows 53 7 [c.cells])], [], 79⟩) (fun x => x.2 ≤ c.fields.length) (fun x => c.fields.length - x.2) (j2, 0) (Nat.zero_le _) ?_ ?_
   ·exact Zb [0, 1, 2, 3, 4, 5, 6, 7, 8] ⟨rfl, (by show some (iA _) = some (iA _); simp), rfl, rfl, rfl, trivial⟩ rfl (by decide) rfl rfl
   rintro x hJ
   refine qS (qR ?_)
   refine qe eI ?_
   refine qN (qS ?_)
   refine Z2 rfl ?_ ?_
   ·intro hc
    have hx : x.2 < c.fields.length := by simpa using hc
    have ex := Zc7 p l a c hx
    refine qK (qS (qB (qS (qR ?_))))
    refine qe (Z6 rfl rfl rfl (Z04 (fun _ => rfl)) (by first | omega | (simp only [List.length_map]; omega) | (simp only [List.length_map, List.length_drop]; omega)) (by first | omega | (simp only [List.length_map]; omega) | (simp only [List.length_map, List.length_drop]; omega))) ?_
    refine qe (Zu rfl rfl (Z0a (by first | assumption | omega | (simp only [List.length_drop]; omega))) (Zt (Nat.le_of_ble_eq_true rfl))) ?_
    refine Zy (w0 rfl) rfl (fun id => Z0b id rfl rfl rfl) (fun id6 => ?_)
    refine Zw 0 (w0 rfl) rfl rfl rfl rfl rfl rfl rfl rfl rfl ?_
    refine qN (qR (qM ?_))
    refine qe (Z0 rfl rfl rfl) ?_
    refine qL 9 Z3 ?_
    refine qe (Z0 rfl rfl rfl) ?_
    refine qL 0 Z3 ?_
    refine qe (Zv (y := FRef.av ⟨c.name, c.fields[x.2].name⟩) (Z0k rfl rfl rfl) (rfl)) ?_
    refine Z5 [_, _, _, _, _, _, _, _] _ (w0 rfl) rfl rfl rfl rfl (Z2q [1, 1, 1, 1, 1, 1, 1, 1] rfl) (Zds p hp l hl hr (gaFN p l a c x.2) (Zg2 p l ha c hf4 _) x.1 g ⟨c.name, c.fields[x.2].name⟩ ⟨hc0.name, (hcf _ (List.getElem_mem hx)).name⟩) (fun v7 hv7 => ?_)
    refine qN (qR ?_)
    refine qe (Z9 rfl rfl rfl (Zn (by first | omega | (simp only [List.length_map]; omega)))) ?_
    refine qM (qN ?_)
    refine ⟨(v7, x.2 + 1), (by show x.2 + 1 ≤ _; omega), (by show c.fields.length - (x.2 + 1) < c.fields.length - x.2; omega), ?_⟩
    exact Zb [0, 1, 2, 3, 4, 5, 6, 7, 9] ⟨rfl, rfl, rfl, rfl, rfl, trivial⟩ (by show some [(_, AObj.rows _ _ _), (_, AObj.rows _ _ _), (_, AObj.rows _ _ _), (_, AObj.rows _ _ _), (_, AObj.rows _ _ _), (_, AObj.rows _ _ _), (_, AObj.rows _ _ _), (_, AObj.rows _ _ _), (_, AObj.rows _ _ _)] = some [(_, AObj.rows _ _ _), (_, AObj.rows _ _ _), (_, AObj.rows _ _ _), (_, AObj.rows _ _ _), (_, AObj.rows _ _ _), (_, AObj.rows _ _ _), (_, AObj.rows _ _ _), (_, AObj.rows _ _ _), (_, AObj.rows _ _ _)]; rw [ex]) (by decide) rfl rfl
   ·intro hc
    have hx : ¬ x.2 < c.fields.length := by simpa using hc
    have e0 := Zeg p l a c hx
    refine qX (qS (qR ?_))
    refine qe (Z0 rfl rfl rfl) ?_
    refine qL 8 Z3 ?_
    refine qe (Zx rfl rfl rfl rfl) ?_
    refine qM (qN (qB ?_))
    refine Zj (α := Ids × Nat) (fun y => ⟨[(63, .lst (c.methods.map Meth.cells)), (64, iA c.methods.length), (65, iA y.2), (0, .ptr g 13 0 0), (3, .ptr id1 7 0 0)], [(g, .rows 91 13 [gcells p l (gaMN p l a c y.2) y.1]), (y.1.cl, .rows 9 1 ((gaMN p l a c y.2).cl.map fun x => [sA x])), (y.1.fd, .rows 46 2 ((gaMN p l a c y.2).fd.map FRef.cells)), (y.1.md, .rows 25 3 ((gaMN p l a c y.2).md.map MRef.cells)), (y.1.cn, .rows 9 1 ((gaMN p l a c y.2).cn.map fun x => [sA x])), (y.1.fn, .rows 9 1 ((gaMN p l a c y.2).fn.map fun x => [sA x])), (y.1.mn, .rows 9 1 ((gaMN p l a c y.2).mn.map fun x => [sA x])), (y.1.lk, .rows 9 1 ((gaMN p l a c y.2).lk.map fun x => [sA x])), (id1, .rows 53 7 [c.cells])], [], 79⟩) (fun y => y.2 ≤ c.methods.length) (fun y => c.methods.length - y.2) (x.1, 0) (Nat.zero_le _) ?_ ?_
    ·exact Zb [0, 1, 2, 3, 4, 5, 6, 7, 8] ⟨rfl, (by show some (iA _) = some (iA _); simp), rfl, rfl, rfl, trivial⟩ (by show some [(_, AObj.rows _ _ _), (_, AObj.rows _ _ _), (_, AObj.rows _ _ _), (_, AObj.rows _ _ _), (_, AObj.rows _ _ _), (_, AObj.rows _ _ _), (_, AObj.rows _ _ _), (_, AObj.rows _ _ _), (_, AObj.rows _ _ _)] = some [(_, AObj.rows _ _ _), (_, AObj.rows _ _ _), (_, AObj.rows _ _ _), (_, AObj.rows _ _ _), (_, AObj.rows _ _ _), (_, AObj.rows _ _ _), (_, AObj.rows _ _ _), (_, AObj.rows _ _ _), (_, AObj.rows _ _ _)]; rw [e0]) (by decide) rfl rfl
    rintro y hJ2
    refine qS (qR ?_)
    refine qe eI ?_
    refine qN (qS ?_)
    refine Z2 rfl ?_ ?_
    ·intro hc
     have hy : y.2 < c.methods.length := by simpa using hc
     have ey := Zca p l a c hy
     refine qK (qS (qB (qS (qR ?_))))
     refine qe (Z6 rfl rfl rfl (Z04 (fun _ => rfl)) (by first | omega | (simp only [List.length_map]; omega) | (simp only [List.length_map, List.length_drop]; omega)) (by first | omega | (simp only [List.length_map]; omega) | (simp only [List.length_map, List.length_drop]; omega))) ?_
     refine qe (Zu rfl rfl (Z0a (by first | assumption | omega | (simp only [List.length_drop]; omega))) (Zt (Nat.le_of_ble_eq_true rfl))) ?_
     refine Zy (w0 rfl) rfl (fun id => Z0b id rfl rfl rfl) (fun id8 => ?_)
     refine Zw 0 (w0 rfl) rfl rfl rfl rfl rfl rfl rfl rfl rfl ?_
     refine qN (qR (qM ?_))
     refine qe (Z0 rfl rfl rfl) ?_
     refine qL 9 Z3 ?_
     refine qe (Z0 rfl rfl rfl) ?_
     refine qL 0 Z3 ?_
     refine qe (Z0 rfl rfl rfl) ?_
     refine qL 0 Z3 ?_
     refine qe (Zv (y := MRef.av ⟨c.name, c.methods[y.2].name, c.methods[y.2].desc⟩) (Z0k rfl rfl rfl) (rfl)) ?_
     refine Z5 [_, _, _, _, _, _, _, _] _ (w0 rfl) rfl rfl rfl rfl (Z2q [1, 1, 1, 1, 1, 1, 1, 1] rfl) (Zbf p hp l hl hr (gaMN p l a c y.2) (Zg4 p l ha c hf4 hm4 _) y.1 g ⟨c.name, c.methods[y.2].name, c.methods[y.2].desc⟩ ⟨hc0.name, (hcm _ (List.getElem_mem hy)).name, (hcm _ (List.getElem_mem hy)).desc⟩) (fun v9 hv9 => ?_)
     refine qN (qR ?_)
     refine qe (Z9 rfl rfl rfl (Zn (by first | omega | (simp only [List.length_map]; omega)))) ?_
     refine qM (qN ?_)
     refine ⟨(v9, y.2 + 1), (by show y.2 + 1 ≤ _; omega), (by show c.methods.length - (y.2 + 1) < c.methods.length - y.2; omega), ?_⟩
     exact Zb [0, 1, 2, 3, 4, 5, 6, 7, 9] ⟨rfl, rfl, rfl, rfl, rfl, trivial⟩ (by show some [(_, AObj.rows _ _ _), (_, AObj.rows _ _ _), (_, AObj.rows _ _ _), (_, AObj.rows _ _ _), (_, AObj.rows _ _ _), (_, AObj.rows _ _ _), (_, AObj.rows _ _ _), (_, AObj.rows _ _ _), (_, AObj.rows _ _ _)] = some [(_, AObj.rows _ _ _), (_, AObj.rows _ _ _), (_, AObj.rows _ _ _), (_, AObj.rows _ _ _), (_, AObj.rows _ _ _), (_, AObj.rows _ _ _), (_, AObj.rows _ _ _), (_, AObj.rows _ _ _), (_, AObj.rows _ _ _)]; rw [ey]) (by decide) rfl rfl
    ·intro hc
     have hy : ¬ y.2 < c.methods.length := by simpa using hc
     have e9 := Zeh p l a c hy
     refine qX ?_
     exact Zf rfl Z4 (.cons_cons _ (.cons_cons _ (.cons_cons _ (.cons_cons _ (.cons_cons _ (.cons_cons _ (.cons_cons _ (.cons_cons _ (.cons _ .slnil))))))))) (gp y.1 trivial rfl (by show [(_, AObj.rows _ _ _), (_, AObj.rows _ _ _), (_, AObj.rows _ _ _), (_, AObj.rows _ _ _), (_, AObj.rows _ _ _), (_, AObj.rows _ _ _), (_, AObj.rows _ _ _), (_, AObj.rows _ _ _)] = [(_, AObj.rows _ _ _), (_, AObj.rows _ _ _), (_, AObj.rows _ _ _), (_, AObj.rows _ _ _), (_, AObj.rows _ _ _), (_, AObj.rows _ _ _), (_, AObj.rows _ _ _), (_, AObj.rows _ _ _)]; rw [e9]))
def zRoots : List AV := [.v (.slice none 0 0), .v (.slice none 0 0), .v (.slice none 0 0), .v (.slice none 0 0), .v (.slice none 0 0), .v (.slice none 0 0), .v (.slice none 0 0)]
def gaPN (p : Prog) (l : List Rule) (n : Nat) : Ga := Ga.sum ((p.classes.take n).map (gaC textT p l))
theorem Zcc (p : Prog) (l : List Rule) {n : Nat} (h : n < p.classes.length) : gaPN p l (n + 1) = (gaPN p l n).app (gaC textT p l p.classes[n]) := by
 have := Ga.sum_take (f := gaC textT p l) h Ga.nil
 rw [Ga.nil_app, Ga.nil_app] at this; exact this
theorem Z9t (p : Prog) (l : List Rule) {n : Nat} (h : ¬ n < p.classes.length) : gaPN p l n = gaP textT p l := by unfold gaPN gaP; rw [List.take_of_length_le (by omega)]
theorem Z3t {p : Prog} (h : greatP p = false) : p.classes.length ≤ 70 ∧ ∀ c, c ∈ p.classes → c.fields.length ≤ 40 ∧ c.methods.length ≤ 40 := by
 unfold greatP greatP0 at h
 rw [Bool.or_eq_false_iff, Bool.or_eq_false_iff] at h
 refine ⟨by have := h.1.1; simp at this; omega, fun c hc => ?_⟩
 have h2 := List.any_eq_false.1 h.2 c hc
 unfold greatC greatC0 at h2
 simp at h2
 omega
theorem Zgp (p : Prog) (l : List Rule) (c : Cls) (hf : c.fields.length ≤ 40) (hm : c.methods.length ≤ 40) : (gaC textT p l c).bd 81 :=
 Ga.bd_le (Ga.bd_app (Ga.bd_app (Zc9 l c) (Ga.bd_sum (m := 1) (fun f => Zc8 _ _ _ _) _)) (Ga.bd_sum (m := 1) (fun f => Zf3 _ _ _) _)) (by omega)
theorem Ga.bd_sumM {α : Type} {f : α → Ga} {m : Nat} : ∀ l : List α, (∀ x, x ∈ l → (f x).bd m) → (Ga.sum (l.map f)).bd (l.length * m)
 | [], _ => ⟨Nat.zero_le _, Nat.zero_le _, Nat.zero_le _, Nat.zero_le _, Nat.zero_le _, Nat.zero_le _, Nat.zero_le _⟩
 | x :: l, h => by
  have := Ga.bd_app (h x List.mem_cons_self) (Ga.bd_sumM l fun y hy => h y (List.mem_cons_of_mem _ hy))
  rw [List.length_cons, Nat.add_mul, Nat.one_mul, Nat.add_comm]
  exact this
theorem Zcb {p : Prog} (l : List Rule) (h : greatP p = false) (n : Nat) : (gaPN p l n).bd 5670 := by
 obtain ⟨h1, h2⟩ := Z3t h
 refine Ga.bd_le (Ga.bd_sumM (m := 81) _ fun c hc => ?_) (by rw [List.length_take]; omega)
 have := h2 c (List.mem_of_mem_take hc)
 exact Zgp p l c this.1 this.2
theorem Z39 (l : List Str) (hl : l.length ≤ 1000000) : ACalls Tryz.prog 50 [row1 sA l] [] (Gives (row1 sA (risG tLt l))) := by
 refine Zd (n := 5) Tryz.func50 rfl (by decide +kernel) rfl rfl ?_
 refine qS (qR (qA (qN (qS (qR (qM ?_))))))
 refine qe (Z8 [] rfl rfl rfl (Zao l hl) List.nodup_nil) ?_
 refine qA (qN (qE ?_))
 exact Z0p rfl (Z7 rfl Z4) (gvr rfl)
theorem Zbp (p : Prog) (hp : p.ok) (hgr : greatP p = false) (l : List Rule) (hl : small l.length) (hr : ∀ r, r ∈ l → r.ok) : ACalls Tryz.prog 18 [p.av, .lst (l.map Rule.cells)] [] (Gives (Roots.av (rootsG (gaP textT p l)))) := by
 have hb := Z6k hgr
 have hgb := Z9t p l (Nat.lt_irrefl p.classes.length) ▸ Zcb l hgr p.classes.length
 refine Zd (n := 60) Tryz.func18 rfl (by decide +kernel) rfl rfl ?_
 refine qS (qR ?_)
 refine Zy (w0 rfl) rfl (fun id => Z09 id rfl rfl rfl rfl rfl) (fun id1 => ?_)
 refine Zy (w0 rfl) rfl (fun id => Z0b id rfl rfl rfl) (fun id2 => ?_)
 refine qN (qS (qR ?_))
 refine qL 1 (Zt (Nat.le_of_ble_eq_true rfl)) ?_
 refine qM ?_
 refine qe (Z0k rfl rfl rfl) ?_
 refine Zy (w0 rfl) rfl (fun id => Z09 id rfl rfl rfl rfl rfl) (fun id3 => ?_)
 refine qA (qN (qS (qS ?_)))
 refine Z14 (qe := 9) (qs := 1) 0 6 rfl rfl (fun q0 => ?_)
 refine Z14 (qe := 46) (qs := 2) 1 7 rfl rfl (fun q1 => ?_)
 refine Z14 (qe := 25) (qs := 3) 2 8 rfl rfl (fun q2 => ?_)
 refine Z14 (qe := 9) (qs := 1) 3 9 rfl rfl (fun q3 => ?_)
 refine Z14 (qe := 9) (qs := 1) 4 10 rfl rfl (fun q4 => ?_)
 refine Z14 (qe := 9) (qs := 1) 5 11 rfl rfl (fun q5 => ?_)
 refine Z14 (qe := 9) (qs := 1) 6 12 rfl rfl (fun q6 => ?_)
 refine qR ?_
 refine qe (Z0 rfl rfl rfl) ?_
 refine qL 9 Z3 ?_
 refine qe (Zx rfl rfl rfl rfl) ?_
 refine qM (qN (qB ?_))
 refine Zj (α := Ids × Nat) (fun x => ⟨[(15, .lst (p.classes.map Cls.cells)), (16, iA p.classes.length), (17, iA x.2), (4, .ptr id2 7 0 0), (5, .ptr id3 13 0 0)], [(id3, .rows 91 13 [gcells p l (gaPN p l x.2) x.1]), (x.1.cl, .rows 9 1 ((gaPN p l x.2).cl.map fun x => [sA x])), (x.1.fd, .rows 46 2 ((gaPN p l x.2).fd.map FRef.cells)), (x.1.md, .rows 25 3 ((gaPN p l x.2).md.map MRef.cells)), (x.1.cn, .rows 9 1 ((gaPN p l x.2).cn.map fun x => [sA x])), (x.1.fn, .rows 9 1 ((gaPN p l x.2).fn.map fun x => [sA x])), (x.1.mn, .rows 9 1 ((gaPN p l x.2).mn.map fun x => [sA x])), (x.1.lk, .rows 9 1 ((gaPN p l x.2).lk.map fun x => [sA x])), (id1, .rows 27 5 [p.cells]), (id2, .rows 34 7 [zRoots])], [], 60⟩) (fun x => x.2 ≤ p.classes.length) (fun x => p.classes.length - x.2) (⟨q0, q1, q2, q3, q4, q5, q6⟩, 0) (Nat.zero_le _) ?_ ?_
 ·exact Zb [7, 6, 5, 4, 3, 2, 1, 0, 9, 8] ⟨rfl, (by show some (iA _) = some (iA _); simp), rfl, rfl, rfl, trivial⟩ rfl (by decide) rfl rfl
 rintro x hJ
 have gl := Z3t hgr
 refine qS (qR ?_)
 refine qe eI ?_
 refine qN (qS ?_)
 refine Z2 rfl ?_ ?_
 ·intro hc
  have hx : x.2 < p.classes.length := by simpa using hc
  have ex := Zcc p l hx
  refine qK (qS (qB (qS (qR ?_))))
  refine qe (Z6 rfl rfl rfl (Z04 (fun _ => rfl)) (by first | omega | (simp only [List.length_map]; omega) | (simp only [List.length_map, List.length_drop]; omega)) (by first | omega | (simp only [List.length_map]; omega) | (simp only [List.length_map, List.length_drop]; omega))) ?_
  refine qe (Zu rfl rfl (Z0a (by first | assumption | omega | (simp only [List.length_drop]; omega))) (Zt (Nat.le_of_ble_eq_true rfl))) ?_
  refine Zy (w0 rfl) rfl (fun id => Z0b id rfl rfl rfl) (fun id4 => ?_)
  refine Zw 0 (w0 rfl) rfl rfl rfl rfl rfl rfl rfl rfl rfl ?_
  refine qN (qR (qM ?_))
  refine qL 0 (Zt (Nat.le_of_ble_eq_true rfl)) ?_
  refine Z5 [_, _, _, _, _, _, _, _] _ (w0 rfl) rfl rfl rfl rfl (Z2q [1, 1, 1, 1, 1, 1, 1, 1] rfl) (Zdr p hp l hl hr (gaPN p l x.2) (Ga.bd_le (Zcb l hgr x.2) (by omega)) x.1 id3 p.classes[x.2] (hp.classes.2 _ (List.getElem_mem hx)) (gl.2 _ (List.getElem_mem hx)).1 (gl.2 _ (List.getElem_mem hx)).2) (fun v5 hv5 => ?_)
  refine qN (qR ?_)
  refine qe (Z9 rfl rfl rfl (Zn (by first | omega | (simp only [List.length_map]; omega)))) ?_
  refine qM (qN ?_)
  refine ⟨(v5, x.2 + 1), (by show x.2 + 1 ≤ _; omega), (by show p.classes.length - (x.2 + 1) < p.classes.length - x.2; omega), ?_⟩
  exact Zb [0, 1, 2, 3, 4, 5, 6, 7, 9, 10] ⟨rfl, rfl, rfl, rfl, rfl, trivial⟩ (by show some [(_, AObj.rows _ _ _), (_, AObj.rows _ _ _), (_, AObj.rows _ _ _), (_, AObj.rows _ _ _), (_, AObj.rows _ _ _), (_, AObj.rows _ _ _), (_, AObj.rows _ _ _), (_, AObj.rows _ _ _), (_, AObj.rows _ _ _), (_, AObj.rows _ _ _)] = some [(_, AObj.rows _ _ _), (_, AObj.rows _ _ _), (_, AObj.rows _ _ _), (_, AObj.rows _ _ _), (_, AObj.rows _ _ _), (_, AObj.rows _ _ _), (_, AObj.rows _ _ _), (_, AObj.rows _ _ _), (_, AObj.rows _ _ _), (_, AObj.rows _ _ _)]; rw [ex]) (by decide) rfl rfl
 ·intro hc
  have hx : ¬ x.2 < p.classes.length := by simpa using hc
  have e0 := Z9t p l hx
  rw [e0]
  generalize gaP textT p l = ga at hgb ⊢
  refine qX (qS ?_)
  refine Z10 (Z17 (T' := [(4, .ptr id2 7 0 0), (5, .ptr id3 13 0 0)]) 1 0 6 rfl rfl rfl (by simp) ⟨rfl, rfl, trivial⟩) ?_
  refine Z10 (Z17 (T' := [(4, .ptr id2 7 0 0), (5, .ptr id3 13 0 0)]) 1 0 7 rfl rfl rfl (by simp) ⟨rfl, rfl, trivial⟩) ?_
  refine Z10 (Z17 (T' := [(4, .ptr id2 7 0 0), (5, .ptr id3 13 0 0)]) 1 0 8 rfl rfl rfl (by simp) ⟨rfl, rfl, trivial⟩) ?_
  refine Z10 (Z17 (T' := [(4, .ptr id2 7 0 0), (5, .ptr id3 13 0 0)]) 1 0 9 rfl rfl rfl (by simp) ⟨rfl, rfl, trivial⟩) ?_
  refine Z10 (Z17 (T' := [(4, .ptr id2 7 0 0), (5, .ptr id3 13 0 0)]) 1 0 10 rfl rfl rfl (by simp) ⟨rfl, rfl, trivial⟩) ?_
  refine Z10 (Z17 (T' := [(4, .ptr id2 7 0 0), (5, .ptr id3 13 0 0)]) 1 0 11 rfl rfl rfl (by simp) ⟨rfl, rfl, trivial⟩) ?_
  refine Z10 (Z17 (T' := [(4, .ptr id2 7 0 0), (5, .ptr id3 13 0 0)]) 1 0 12 rfl rfl rfl (by simp) ⟨rfl, rfl, trivial⟩) ?_
  refine Z10 (s' := ⟨[(4, .ptr id2 7 0 0), (5, .ptr id3 13 0 0)], [(id3, .rows 91 13 [[.lst (p.classes.map Cls.cells), row1 sA p.names, sA p.entry.cls, sA p.entry.name, sA p.entry.desc, .lst (l.map Rule.cells), row1 sA ga.cl, .lst (ga.fd.map FRef.cells), .lst (ga.md.map MRef.cells), row1 sA ga.cn, row1 sA ga.fn, row1 sA ga.mn, row1 sA ga.lk]]), (id1, .rows 27 5 [p.cells]), (id2, .rows 34 7 [zRoots])], [], 60⟩) (Zb [0, 1, 2] ⟨rfl, rfl, trivial⟩ (by kernel_rfl) (by decide) rfl rfl) ?_
  refine qR (qM ?_)
  refine qe (Z02 rfl rfl rfl) ?_
  refine qe (Z0 rfl rfl rfl) ?_
  refine qL 0 (Zt (Nat.le_of_ble_eq_true rfl)) ?_
  refine Zy (w0 rfl) rfl (fun id => Z0b id rfl rfl rfl) (fun id6 => ?_)
  refine Zw 0 (w0 rfl) rfl rfl rfl rfl rfl rfl rfl rfl rfl ?_
  refine qN (qS (qR (qA (qN (qS ?_)))))
  refine Zz [0, 0, 2, 7, 0, 16, 63, 0, 128, 511, 0, 0, 2048, 8191, 0, 0, 32768, 131071, 0, 0, 524288, 2097151, 0, 0, 8388608, 0, 33554432, 125829120, 264241151, 536870911, 1073741823, 2147483647] 31 rfl (by kernel_rfl) ?_
  refine cM2 ?_
  refine ce (Z0 rfl rfl rfl) ?_
  refine Za 0 (w0 rfl) rfl rfl rfl rfl rfl Z3 ?_
  refine ce (Z8 [] rfl rfl rfl (Z39 ga.cl (by have := hgb.cl; omega)) List.nodup_nil) ?_
  refine ce (Z0 rfl rfl rfl) ?_
  refine Za 0 (w0 rfl) rfl rfl rfl rfl rfl Z3 ?_
  refine ce (Z8 [] rfl rfl rfl (Zam ga.fd (by have := hgb.fd; omega)) List.nodup_nil) ?_
  refine ce (Z0 rfl rfl rfl) ?_
  refine Za 0 (w0 rfl) rfl rfl rfl rfl rfl Z3 ?_
  refine ce (Z8 [] rfl rfl rfl (Zan ga.md (by have := hgb.md; omega)) List.nodup_nil) ?_
  refine cM2 ?_
  refine ce (Z0 rfl rfl rfl) ?_
  refine Za 0 (w0 rfl) rfl rfl rfl rfl rfl Z3 ?_
  refine ce (Z8 [] rfl rfl rfl (Z39 ga.cn (by have := hgb.cn; omega)) List.nodup_nil) ?_
  refine cM2 ?_
  refine ce (Z0 rfl rfl rfl) ?_
  refine Za 0 (w0 rfl) rfl rfl rfl rfl rfl Z3 ?_
  refine ce (Z8 [] rfl rfl rfl (Z39 ga.fn (by have := hgb.fn; omega)) List.nodup_nil) ?_
  refine cM2 ?_
  refine ce (Z0 rfl rfl rfl) ?_
  refine Za 0 (w0 rfl) rfl rfl rfl rfl rfl Z3 ?_
  refine ce (Z8 [] rfl rfl rfl (Z39 ga.mn (by have := hgb.mn; omega)) List.nodup_nil) ?_
  refine cM2 ?_
  refine ce (Z0 rfl rfl rfl) ?_
  refine Za 0 (w0 rfl) rfl rfl rfl rfl rfl Z3 ?_
  refine ce (Z0 rfl rfl rfl) ?_
  refine Za 0 (w0 rfl) rfl rfl rfl rfl rfl Z3 ?_
  refine ce (Z22 (es := _) (fun id => Zo id (ps := [(0, .tmp 53), (1, .tmp 55)]) rfl rfl rfl rfl rfl rfl rfl rfl) rfl) ?_
  refine ce (Zv (y := row1 sA (ga.lk ++ ga.cl)) (Z8 [] rfl rfl rfl (Zdi [ga.lk, ga.cl] (by simp) (by have := hgb.lk; have := hgb.cl; simp; omega)) List.nodup_nil) (by simp)) ?_
  refine ce (Z8 [] rfl rfl rfl (Z39 (ga.lk ++ ga.cl) (by have := hgb.lk; have := hgb.cl; rw [List.length_append]; omega)) List.nodup_nil) ?_
  refine Z9n (x := .agg (Roots.cells (rootsG ga))) (w0 rfl) rfl (Z0k rfl rfl (by kernel_rfl)) ?_
  refine .done ?_
  refine Zw 3 (w0 rfl) rfl rfl rfl rfl rfl rfl rfl rfl rfl ?_
  refine qN (qE ?_)
  exact Z0p rfl (Z1b 3 rfl rfl rfl (Zt (Nat.le_of_ble_eq_true rfl)) Z4) (gvr rfl)
end Go.Sx
namespace Go.Sx
open Go
structure Roots.ok (r : Roots) : Prop where
 n1 : r.classes.length ≤ 1000000
 n2 : r.fields.length ≤ 1000000
 n3 : r.methods.length ≤ 1000000
 n4 : r.classNames.length ≤ 1000000
 n5 : r.fieldNames.length ≤ 1000000
 n6 : r.methodNames.length ≤ 1000000
 n7 : r.lookups.length ≤ 1000000
 ms : ∀ m, m ∈ r.methods → m.ok
def exC (r : Roots) (s : Str) : Rule := ⟨hasG r.classNames s, false, s, zS, zS⟩
def exF (p : Prog) (r : Roots) (f : FRef) : Rule := ⟨hasG r.fieldNames f.name, true, f.cls, f.name, textT ((fldP p f).getD zFl).type⟩
def exM (r : Roots) (m : MRef) : Rule := ⟨hasG r.methodNames (m.name ++ m.desc), true, m.cls, m.name, m.desc⟩
def exactR (p : Prog) (r : Roots) : List Rule := (r.classes.map (exC r) ++ r.fields.map (exF p r)) ++ r.methods.map (exM r)
theorem map_take {α β : Type} {l : List α} {f : α → β} {i : Nat} (h : i < l.length) : (l.take (i + 1)).map f = (l.take i).map f ++ [f l[i]] := by rw [Z1a h, List.map_append]; rfl
def textL (r : Roots) : List (List Str) := [r.classes, r.classNames, r.fieldNames, r.methodNames, r.lookups]
def textA (r : Roots) : AV := .lst ((textL r).map fun l => [row1 sA l])
def sameRo (a b : Roots) : Bool := (decide (a.fields = b.fields) && decide (a.methods = b.methods)) && decide (textL a = textL b)
theorem Zcw (a b : Roots) : sameRo a b = decide (a = b) := by
 rw [Bool.eq_iff_iff]
 unfold sameRo textL
 simp only [Bool.and_eq_true, decide_eq_true_eq]
 constructor
 ·rintro ⟨⟨h1, h2⟩, h3⟩
  cases a; cases b
  simp only [List.cons.injEq, and_true] at h3
  obtain ⟨k1, k2, k3, k4, k5⟩ := h3
  simp only [Roots.mk.injEq]
  exact ⟨k1, h1, h2, k2, k3, k4, k5⟩
 ·rintro rfl; exact ⟨⟨rfl, rfl⟩, rfl⟩
theorem Z2g (a b : List Str) : sameT a b = decide (a = b) := by rw [Bool.eq_iff_iff, Z87, decide_eq_true_eq]
def sameR23 (a b : Roots) : Bool := (((sameT a.classes b.classes && sameT a.classNames b.classNames) && sameT a.fieldNames b.fieldNames) && sameT a.methodNames b.methodNames) && sameT a.lookups b.lookups
theorem Zax {a b : Roots} (h1 : a.fields = b.fields) (h2 : a.methods = b.methods) : sameR23 a b = decide (a = b) := by
 unfold sameR23
 rw [Z2g, Z2g, Z2g, Z2g, Z2g, Bool.eq_iff_iff]
 simp only [Bool.and_eq_true, decide_eq_true_eq]
 constructor
 ·rintro ⟨⟨⟨⟨k1, k2⟩, k3⟩, k4⟩, k5⟩
  cases a; cases b
  simp only [Roots.mk.injEq]
  exact ⟨k1, h1, h2, k2, k3, k4, k5⟩
 ·rintro rfl; exact ⟨⟨⟨⟨rfl, rfl⟩, rfl⟩, rfl⟩, rfl⟩
theorem Zcs {a b : Roots} (h : ¬ (a.fields.length = b.fields.length ∧ a.methods.length = b.methods.length)) : decide (a = b) = false := decide_eq_false (fun e => h (by rw [e]; exact ⟨rfl, rfl⟩))
theorem Zct {a b : Roots} {i : Nat} (hi : i < a.fields.length) (hj : i < b.fields.length) (h : ¬ a.fields[i] = b.fields[i]) : decide (a = b) = false := decide_eq_false (fun e => h (by subst e; rfl))
theorem Zcu {a b : Roots} {i : Nat} (hi : i < a.methods.length) (hj : i < b.methods.length) (h : ¬ a.methods[i] = b.methods[i]) : decide (a = b) = false := decide_eq_false (fun e => h (by subst e; rfl))
theorem Z69 {α : Type} {a b : List α} {i : Nat} (hl : a.length = b.length) (hi : ¬ i < a.length) (h : a.take i = b.take i) : a = b := by rwa [List.take_of_length_le (by omega), List.take_of_length_le (by omega)] at h
theorem Z6a {α : Type} {a b : List α} {i : Nat} (hi : i < a.length) (hj : i < b.length) (h : a.take i = b.take i) (e : a[i] = b[i]) : a.take (i + 1) = b.take (i + 1) := by rw [Z1a hi, Z1a hj, h, e]
def withT (a b : Roots) : Bool := (List.range 5).all fun k => ((textL a).getD k default).all (hasG ((textL b).getD k default))
theorem Z8c (a b : Roots) : (withT a b && (a.fields.all (hasG b.fields) && a.methods.all (hasG b.methods))) = withinR a b := by
 unfold withT withinR textL
 rw [Bool.and_comm]
 congr 1
 show (_ && (_ && (_ && (_ && (_ && true))))) = _
 rw [Bool.and_true]
 simp only [Bool.and_assoc]
 rfl
theorem Zd1 {a b : Roots} (h : withT a b = false) : withinR a b = false := by rw [← Z8c, h]; rfl
theorem Z6p {α : Type} {f : α → Bool} {l : List α} {i : Nat} (hi : i < l.length) (h : f l[i] = false) : l.all f = false := List.all_eq_false.2 ⟨l[i], List.getElem_mem hi, by rw [h]; simp⟩
def AllTo {α : Type} (f : α → Bool) (l : List α) (i : Nat) : Prop := (l.take i).all f = true
theorem AllTo.zero {α : Type} (f : α → Bool) (l : List α) : AllTo f l 0 := rfl
theorem AllTo.next {α : Type} {f : α → Bool} {l : List α} {i : Nat} (h : AllTo f l i) (hi : i < l.length) (hq : f l[i] = true) : AllTo f l (i + 1) := by unfold AllTo at h ⊢; rw [Z1a hi, List.all_append, h]; simp [hq]
theorem AllTo.fin {α : Type} {f : α → Bool} {l : List α} {i : Nat} (h : AllTo f l i) (hi : ¬ i < l.length) : l.all f = true := by unfold AllTo at h; rwa [List.take_of_length_le (by omega)] at h
def fewB (r : Rule) : Bool := (decide ((r.cls.size : Int) ≤ 40) && decide ((r.name.size : Int) ≤ 40)) && decide ((r.desc.size : Int) ≤ 70)
def fewR (l : List Rule) : List Rule := (l.take 12).filter fewB
theorem Z1q (l : List Rule) : (fewR l).length ≤ 12 := Nat.le_trans (List.length_filter_le _ _) (by rw [List.length_take]; omega)
theorem Zc5 {l : List Rule} (r : Rule) (h : r ∈ fewR l) : r.ok := by
 unfold fewR at h
 rw [List.mem_filter] at h
 have h2 := h.2
 unfold fewB at h2
 simp only [Bool.and_eq_true, decide_eq_true_eq] at h2
 refine ⟨?_, ?_, ?_⟩ <;> (unfold small; omega)
def eqRu (a b : Rule) : Bool := decide (a = b)
theorem Z7p (a b : Rule) : ceqs a.cells b.cells = decide (a = b) := by
 rw [show ceqs a.cells b.cells = ((a.names == b.names) && ((a.member == b.member) && (beqS a.cls b.cls && (beqS a.name b.name && beqS a.desc b.desc)))) from rfl, Bool.eq_iff_iff]
 cases a; cases b
 simp only [Bool.and_eq_true, beq_iff_eq, beqS_iff, decide_eq_true_eq, Rule.mk.injEq]
end Go.Sx
